/- Texts that stand one behind the other: S48, S49, S50, S51, S52, S54, S55, S58, S63, Pm0, Pm1, Pm2, Pm3, Pm4. -/
import Derived.Test.YtppcmpmnglaleaaGreatG15
set_option linter.unusedVariables false
set_option linter.unusedSimpArgs false
set_option maxRecDepth 10000
namespace Go.Proofs.YtppcmpmnglaleaaGreat.A
section
open Go
structure jC (G H:AH) (m:Nat) (p:eD) (ps:List Int) (v:MV) (c:dS):Prop where
 is:∃rows,MH G H m v rows c.store c.outs c.trace∧(c.dG=false→∃fs,fE (Mk G) rows fs∧c.todo=my fs)∧(rows.length:Int)+2*c.fuel≤2^20
 w:v.w=p.w
 vars:dy G v.vv p.vars
 cap:F3 v.vv
 bz:ep G v.vp ps
 mt:Mt v c
 inv:Inv p ps c
 ov:c.dG=true→c.todo=[]
def cW (c:dS):Bool:=c.dG||c.todo.isEmpty
theorem jC.mod {G H H':AH} {m:Nat} {p:eD} {ps:List Int} {v:MV} {c:dS} {T:Nat→Prop} (h:jC G H m p ps v c) (M:Mod T H H') (a:∀b,T b→¬ Mf m v b) (d:∀b,T b→G.get b=none):jC G H' m p ps v c:=by
 obtain ⟨rows,f,h2,e⟩:=h.is;exact {h with is:=⟨rows,f.mod M a d,h2,e⟩}
theorem jC.ext {G H H':AH} {m:Nat} {p:eD} {ps:List Int} {v:MV} {c:dS} (h:jC G H m p ps v c) (X:Ext H H'):jC G H' m p ps v c:=h.mod (Mod.bU (S:=fun _=>False) X) (by simp) (by simp)
theorem sT {α β:Type} {C:α→β→Prop} {l:List α} (h:fE C l []):l=[]:=by cases h;rfl
theorem mS {α β:Type} {C:α→β→Prop}:∀{l:List α} {k:List β} {b:β},fE C l (k++[b])→∃c a,l=c++[a]∧fE C c k∧C a b
 |_,[],b,.cons h .nil=>⟨[],_,rfl,.nil,h⟩
 |_,x::k,b,.cons h t=>by
  obtain ⟨c,a,rfl,d,h2⟩:=mS t;exact ⟨_::c,a,rfl,.cons h d,h2⟩
theorem xO (p:eD) (c:dS) (s:bH) (next:List jM):bN p {c with fuel:=c.fuel- 1,cost:=c.cost+1} s next=iO p c s next:=rfl
theorem lM {G H:AH} {m:Nat} {p:eD} {ps:List Int} {v:MV} {c:dS} {a rs:List (List Value)} {b:List (List bH×Int)} {d:Value} {cs:List Value} {k:Int} {l:List bH} {op n:Int} {args:List bY} {thn els:List bH} (q:Value) (h:Il G H m p ps v c a b d cs rs k (.mk op n args thn els) l):
 0≤op∧op<7∧∃f,([.func (.func 41) #[q] #[],.func (.func 42) #[q] #[],.func (.func 43) #[q] #[],.func (.func 44) #[q] #[],.func (.func 45) #[q] #[],.func (.func 46) #[q] #[],.func (.func 47) #[q] #[]]:List Value)[op.toNat]?=some (.func (.func f) #[q] #[])∧
  lj G H f m p ps v c a.length b cs k (.mk op n args thn els) l:=by
 obtain ⟨_,_,_,e⟩:=fZ h.row;rcases e with⟨rfl,_⟩|⟨rfl,_⟩|⟨rfl,_⟩|⟨rfl,_⟩|⟨rfl,_⟩|⟨rfl|rfl,_⟩
 ·exact ⟨by omega,by omega,_,rfl,Kl h⟩
 ·exact ⟨by omega,by omega,_,rfl,C7 h⟩
 ·exact ⟨by omega,by omega,_,rfl,Kj h⟩
 ·exact ⟨by omega,by omega,_,rfl,Kk h⟩
 ·exact ⟨by omega,by omega,_,rfl,Gk h⟩
 ·exact ⟨by omega,by omega,_,rfl,Ge h⟩
 ·exact ⟨by omega,by omega,_,rfl,Gf h⟩
theorem C9 {p:eD} {ps:List Int} {c:dS} {k:Int} {s:bH} {vals:List Int} {next:List jM} (h:c.dG=false):(cM p ps c k s vals next).dG=true→(cM p ps c k s vals next).todo=[]:=by
 obtain ⟨op,n,args,i,j⟩:=s;unfold cM;intro q;by_cases g:op=0
 ·simp only [if_pos g,fL]at q⊢;rw [h]at q;cases q
 simp only [if_neg g]at q⊢;by_cases f:op=1
 ·simp only [if_pos f]at q⊢;rw [h]at q;cases q
 simp only [if_neg f]at q⊢;by_cases e:op=2
 ·simp only [if_pos e]at q⊢;rw [h]at q;cases q
 simp only [if_neg e]at q⊢;by_cases d:op=3
 ·simp only [if_pos d]at q⊢;rw [h]at q;cases q
 simp only [if_neg d]at q⊢;by_cases b:op=4
 ·simp only [if_pos b]at q⊢
  by_cases u:ps.length≤c.used
  ·simp only [if_pos u];rfl
  ·simp only [if_neg u,fL]at q;rw [h]at q;cases q
 simp only [if_neg b]at q⊢;by_cases a:op=5
 ·simp only [if_pos a]at q⊢
  by_cases u:et vals 0=0
  ·simp only [if_pos u];rfl
  ·simp only [if_neg u]at q;rw [h]at q;cases q
 simp only [if_neg a]at q⊢;by_cases u:et vals 0=0
 ·simp only [if_pos u];rfl
 ·simp only [if_neg u]at q;rw [h]at q;cases q
theorem xP {p:eD} {ps:List Int} {c:dS} {k:Int} {s:bH} {vals:List Int} {next:List jM}:(cM p ps c k s vals next).fuel=c.fuel:=by
 obtain ⟨op,n,args,h,i⟩:=s;unfold cM;by_cases g:op=0
 ·simp only [if_pos g];rfl
 simp only [if_neg g];by_cases f:op=1
 ·simp only [if_pos f]
 simp only [if_neg f];by_cases e:op=2
 ·simp only [if_pos e]
 simp only [if_neg e];by_cases d:op=3
 ·simp only [if_pos d]
 simp only [if_neg d];by_cases b:op=4
 ·simp only [if_pos b];split<;>rfl
 simp only [if_neg b];by_cases a:op=5
 ·simp only [if_pos a];split<;>rfl
 simp only [if_neg a];split<;>rfl
structure adD (G H:AH) (m:Nat) (p:eD) (ps:List Int) (v:MV) (H':AH) (c':dS):Prop where
 is:∃v',jC G H' m p ps v' c'∧Mod (Mf m v) H H'∧(∀b,Mf m v' b→Mf m v b∨H.nx≤b)∧Sm v v'
theorem Kn {G H:AH} {m:Nat} {p:eD} {ps:List Int} {v:MV} {c:dS} (h:jC G H m p ps v c):
 Ca E O 13 [.pointer (some ⟨m,0,none⟩)] H (fun x H'=>x= .bool (!cW c&& !(bG p ps c).dG)∧adD G H m p ps v H' (bG p ps c)):=by
 refine Ca.aJ (F:=LL) rfl rfl rfl ?_;obtain ⟨rows,g,S,qK⟩:=h.is;obtain ⟨m1,m2,m3,m4,m5,Y⟩:=h.mt;have C:=aI g.get g.n0 (k:=13) (v:=.bool v.ended) rfl
 cases i:c.dG with
 |true=>
  have hs:bG p ps c=c:=by unfold bG;rw [if_pos i]
  rw [Y,i]at C;have I:cW c=true:=by simp [cW,i]
  rw [hs,I];simp (maxSteps:=9^7)-implicitDefEqProofs+contextual [-X.ev,LL,C];exact ⟨v,h,Mod.refl _ _,fun b hb=>.inl hb,rfl,rfl,rfl,rfl⟩
 |false=>
  rw [Y,i]at C;obtain ⟨fs,aH,u⟩:=S i;rcases List.eq_nil_or_concat fs with rfl|⟨j,f,S⟩
  ·have Bl:=sT aH
   subst Bl;have ht:c.todo=[]:=u;have hs:bG p ps c=c:=by unfold bG;rw [if_neg (by rw [i];decide),ht]
   have I:cW c=true:=by simp [cW,ht]
   rw [hs,I];simp (maxSteps:=9^7)-implicitDefEqProofs+contextual [-X.ev,LL,C];apply ah
   ·(simp-implicitDefEqProofs [-X.ev];rfl)
   refine (xF g.wf g.get g.n0 g.fr).mono ?_;rintro x M ⟨rfl,y⟩;obtain ⟨H2,N,L,tA,W,g2⟩:=fC (y.wf g.wf) (z:=5) (c:=zS) (vs:=zS) rfl;simp (maxSteps:=9^7)-implicitDefEqProofs+contextual [-X.ev,N];exact ⟨v,h.ext (y.trans L),Mod.bU (y.trans L),fun b hb=>.inl hb,rfl,rfl,rfl,rfl⟩
  ·rw [List.concat_eq_append]at S
   subst S;obtain ⟨dt,r,rfl,h0,vl,rs,rfl,hr,sU,Ei,fR,fJ⟩:=mS aH;obtain ⟨lst,k⟩:=f
   cases sU with
   |nil=>exact absurd rfl fR
   | @cons cs s rs l hs hl=>
   rw [gX,jB]at u;simp only [List.cons_append]at u;have J:=hs.len;have a:=h.inv;obtain ⟨C8,C6,lK,mr⟩:=a.todo (k,s) (by rw [u];simp);simp only at C8 C6 mr fJ hr;have pc:=jW s;have amv:=a.RN;have RO:=a.fuel;have zN:=a.tr;have hou:=a.ou;have Dy:=a.co;have hus:=a.used;have I:cW c=false:=by simp [cW,i,u]
   have r4:=aI g.get g.n0 (k:=4) (v:=.int .i64 v.fuel) rfl;rw [m5]at r4;simp only [apP,List.length_singleton]at qK;rw [I];simp (maxSteps:=9^7)-implicitDefEqProofs+contextual [-X.ev,LL,C];apply ah
   ·(simp-implicitDefEqProofs [-X.ev];rfl)
   refine (Bk g.wf g.get g.n0 g.fr (by omega) g.sub hr).mono ?_;rintro x M ⟨rfl,y⟩;have P:=y.wf g.wf;obtain ⟨H2,N,L,tA,W,g2⟩:=fC P (z:=5) (c:=zS) (vs:=cs) J;have U:=y.trans L;have gT:=L.wf P;have M2:=g.ext U;have o:=U.ld r4;by_cases hf:c.fuel=0
   ·have Q:bG p ps c=eY c 3 k:=by unfold bG;rw [if_neg (by rw [i];decide),u];show(if c.fuel=0 then _ else _)=_;rw [if_pos hf]
    rw [hf]at o;simp (maxSteps:=9^7)-implicitDefEqProofs+contextual [-X.ev,J,N,o];apply ah
    ·(simp-implicitDefEqProofs [-X.ev];rfl)
    refine (rl (how:=3) (n:=k) M2).mono ?_;rintro x H3 ⟨rfl,B⟩;rw [Q];have U9:(eY c 3 k).dG=true:=rfl;simp (maxSteps:=9^7)-implicitDefEqProofs+contextual [-X.ev,U9];have A:=(iw.mu g U).trans B;exact ⟨_,{is:=⟨_,A.mh,fun q=>by rw [U9]at q;exact absurd q (by decide),by rw [apP,List.length_singleton];show _+2*c.fuel≤2^20;omega⟩,w:=h.w,vars:=h.vars,cap:=h.cap,bz:=h.bz,mt:=⟨rfl,m2,m3,rfl,m5,rfl⟩,inv:=mz a 3 k,ov:=fun _=>rfl},A.mod,A.new,rfl,rfl,rfl,rfl⟩
   ·have Q:bG p ps c=cM p ps (iO p c s (cG l k s j)) k s (bP p.w p.vars [c.store] s.args) (cG l k s j):=by unfold bG;rw [if_neg (by rw [i];decide),u];show(if c.fuel=0 then _ else _)=_;rw [if_neg hf]
    have w1:IntKind.i64.wrap (c.fuel- 1)=c.fuel- 1:=aj ⟨by omega,by omega⟩;have w2:IntKind.i64.wrap (c.cost+1)=c.cost+1:=aj ⟨by omega,by omega⟩;obtain ⟨H3,s3,B,qx,lF⟩:=M2.cell (v':={v with fuel:=c.fuel- 1}) 4 (.int .i64 (c.fuel- 1)) (by omega) rfl rfl rfl rfl rfl;have D:=aI B.mh.get B.mh.n0 (k:=10) (v:=.int .i64 v.cost) rfl;rw [m2]at D;obtain ⟨H4,s4,A4,yy,nN⟩:=B.mh.cell (v':={v with fuel:=c.fuel- 1,cost:=c.cost+1}) 10 (.int .i64 (c.cost+1)) (by omega) rfl rfl rfl rfl rfl;have B4:=B.trans A4;have M4:=A4.mh
    obtain ⟨q,hq⟩:∃q:Value,.pointer (some ⟨m,0,none⟩)=q:=⟨_,rfl⟩
    obtain ⟨H5,s5,X5,L3,yz,g5⟩:=fC M4.wf (z:=7) (c:=[.nilFunc,.nilFunc,.nilFunc,.nilFunc,.nilFunc,.nilFunc,.nilFunc]) (vs:=[.func (.func 41) #[q] #[],.func (.func 42) #[q] #[],.func (.func 43) #[q] #[],.func (.func 44) #[q] #[],.func (.func 45) #[q] #[],.func (.func 46) #[q] #[],.func (.func 47) #[q] #[]]) rfl;subst hq;have M5:=M4.ext X5;have rk:=M5.wf;have nb:¬ Mf m v M.nx:=fun q=>by have:=g.lt q;have:=y.nx;omega
    have K:=X5.get (B4.mod.get nb g2);have n5:H5.n0≤M.nx:=by rw [yz,nN,lF,W];exact P
    have lcs:H5.ldn ⟨M.nx,0,none⟩ 5=some cs:=by rw [bM K n5 (by omega)];simp [apN (Nat.le_of_eq J)]
    obtain ⟨op,n,args,d,e⟩:=s;have adF:∃t,cs= .int .i64 op::t:=by cases hs;exact ⟨_,rfl⟩
    obtain ⟨t,rfl⟩:=adF;have l0:=aI K n5 (k:=0) (v:=.int .i64 op) rfl
    have hAt:Il G H5 m p ps {v with fuel:=c.fuel- 1,cost:=c.cost+1} {c with fuel:=c.fuel- 1,cost:=c.cost+1} dt j vl (.int .i64 op::t) rs k (.mk op n args d e) l:=
     {mh:=M5,hr:=hr,hf:=Ei,hs:=hs,hl:=hl,h0:=h0,w:=h.w,vars:=h.vars,cap:=h.cap,bz:=h.bz,head:=a.head,store:=a.store,mt:=⟨m1,rfl,m3,m4,rfl,Y⟩,ov:=i,row:=lK,b1:=by omega,b2:=by omega,b3:=by omega,b4:=by simpa using fJ,b5:=by show c.trace.length≤2^31;omega,b6:=by show c.outs.length≤2^31;omega,b7:=by show 0≤c.cost+1∧c.cost+1≤2^50;omega,b8:=by show c.used≤ps.length∧_;omega}
    obtain ⟨ho1,ho2,f,iZ,fF⟩:=lM (.pointer (some ⟨m,0,none⟩)) hAt;have lf:=aI g5 (by rw [yz];exact M4.wf) iZ;have sK:eM [.nilFunc,.nilFunc,.nilFunc,.nilFunc,.nilFunc,.nilFunc,.nilFunc] [(0,1,.func (.func 41) #[.pointer (some ⟨m,0,none⟩)] #[]),(1,1,.func (.func 42) #[.pointer (some ⟨m,0,none⟩)] #[]),(2,1,.func (.func 43) #[.pointer (some ⟨m,0,none⟩)] #[]),(3,1,.func (.func 44) #[.pointer (some ⟨m,0,none⟩)] #[]),(4,1,.func (.func 45) #[.pointer (some ⟨m,0,none⟩)] #[]),(5,1,.func (.func 46) #[.pointer (some ⟨m,0,none⟩)] #[]),(6,1,.func (.func 47) #[.pointer (some ⟨m,0,none⟩)] #[])]=some (.agg #[.func (.func 41) #[.pointer (some ⟨m,0,none⟩)] #[],.func (.func 42) #[.pointer (some ⟨m,0,none⟩)] #[],.func (.func 43) #[.pointer (some ⟨m,0,none⟩)] #[],.func (.func 44) #[.pointer (some ⟨m,0,none⟩)] #[],.func (.func 45) #[.pointer (some ⟨m,0,none⟩)] #[],.func (.func 46) #[.pointer (some ⟨m,0,none⟩)] #[],.func (.func 47) #[.pointer (some ⟨m,0,none⟩)] #[]]):=rfl;have T:=fF _ rfl;rw [xO]at T;rw [Q]
    obtain ⟨c',lL⟩:∃c',cM p ps (iO p c (.mk op n args d e) (cG l k (.mk op n args d e) j)) k (.mk op n args d e) (bP p.w p.vars [c.store] args) (cG l k (.mk op n args d e) j)=c':=⟨_,rfl⟩
    have R:=xM a;have Va:=C9 (p:=p) (ps:=ps) (c:=iO p c (.mk op n args d e) (cG l k (.mk op n args d e) j)) (k:=k) (s:=.mk op n args d e) (vals:=bP p.w p.vars [c.store] args) (next:=cG l k (.mk op n args d e) j) i;have Vb:=xP (p:=p) (ps:=ps) (c:=iO p c (.mk op n args d e) (cG l k (.mk op n args d e) j)) (k:=k) (s:=.mk op n args d e) (vals:=bP p.w p.vars [c.store] args) (next:=cG l k (.mk op n args d e) j);rw [Q]at R;simp only [bH.args]at T R⊢;rw [lL]at T R Va Vb⊢;have adG:c'.fuel=c.fuel- 1:=Vb;have gl:H2.ldn ⟨M.nx,0,none⟩ 5=some (.int .i64 op::t):=by rw [bM g2 (by rw [W];exact P) (by omega)];simp [apN (Nat.le_of_eq J)]
    have B5:=(iw.mu g U).trans (B4.ext X5);simp (maxSteps:=9^7)-implicitDefEqProofs+contextual [-X.ev,J,N,o,hf,w1,s3,D,w2,s4,sK,s5,l0,ho1,ho2,lf,lcs,aN,aD,aE];apply pV
    ·(simp-implicitDefEqProofs [-X.ev,-Value.func.injEq];rfl)
    ·(simp-implicitDefEqProofs [-X.ev];rfl)
    refine T.mono ?_;rintro x H6 ⟨rfl,v',dJ,A6,adH,hr6,adI,Z⟩;have A:=B5.trans A6;have UO:=A6.mod.n0;have YV:=A6.mod.nx;simp (maxSteps:=9^7)-implicitDefEqProofs+contextual [-X.ev,aN,aD,aE,UO,YV];obtain ⟨q1,V,q3,q4⟩:=Z;exact ⟨v',{is:=⟨dJ,A.mh,adH,by rw [adG];omega⟩,w:=q1.trans h.w,vars:=by rw [V];exact h.vars,cap:=by rw [V];exact h.cap,bz:=by rw [q3];exact h.bz,mt:=adI,inv:=R,ov:=Va},A.mod,A.new,q1,V,q3,q4⟩
open Go
theorem da.Pe {H:AH} {sz:Nat} {v:Value} {rows:List (List Value)} {r r':List Value} (h:da H sz v (rows++[r])) (l:r'.length=sz):∃b,v= .slice (some ⟨b,0,none⟩) (rows.length+1) (rows.length+1)∧∃H',H.st ⟨b,rows.length*sz,none⟩ r'=some H'∧da H' sz v (rows++[r'])∧Mod (fun q=>q=b) H H'∧H'.nx=H.nx∧H'.n0=H.n0:=by
 rcases h.is with⟨_,e⟩|⟨b,e,f,g⟩
 ·simp at e
 have d:∀q∈rows,q.length=sz:=fun q a=>h.len q (by simp [a])
 have o:=h.len r (by simp);have m:=bW d;obtain ⟨H',st,M,j,c,n⟩:=bV g f (k:=rows.length*sz) (vs:=r') (by rw [bW h.len];simp only [apP,List.length_singleton,Nat.succ_mul];omega);have i:v= .slice (some ⟨b,0,none⟩) (rows.length+1) (rows.length+1):=by rw [e];simp
 refine ⟨b,i,H',st,⟨.inr ⟨b,by rw [i];simp,by rw [c];exact f,?_⟩,?_⟩,M,j,c⟩
 ·rw [n]
  have:=mQ rows.flatten r r' [] (by omega);rw [m]at this;simp only [List.append_nil]at this;simp only [List.flatten_append,List.flatten_cons,List.flatten_nil,List.append_nil];rw [this]
 ·intro q a
  rcases ap0.1 a with a|a
  ·exact d q a
  ·simp at a;subst a;exact l
def gI (p:eD) (fuel:Int) (t:wu):dS:=⟨0,t.store,[],[],0,0,0,fuel,bI p.body 0,false⟩
theorem uh {p:eD} {fuel:Int} {t:wu} (h:j9 p fuel t=0):Inv p t.bz (gI p fuel t)∧eI p=true∧0≤fuel∧fuel≤4096∧jS p t=true:=by
 unfold j9 at h
 cases d:eI p with
 |false=>rw [if_pos d]at h;omega
 |true=>
  rw [if_neg (by rw [d];decide)]at h;by_cases h2:fuel<0∨4096<fuel
  ·rw [if_pos h2]at h;omega
  rw [if_neg h2]at h
  cases e:jS p t with
  |false=>rw [if_pos e]at h;omega
  |true=>
   have b:=d;have c:=e;simp only [eI,apJ,apS]at b;simp only [jS,apJ,apS,apW]at c
   have f:1≤p.w∧p.w≤8:=⟨(aF b.1).1,(aF b.1).2.1⟩
   have i:=aR p.body;refine ⟨⟨b.1,c.1,fun a g=>?_,⟨by show 0≤_;omega,c.2.1⟩,by omega,?_,by show 0≤fuel∧fuel≤4096;omega,by show(0:Int)+500*fuel≤2^30;omega,by show(0:Int)+fuel≤2^30;omega,by show 0≤(0:Int)∧0+500*fuel≤2^40;omega⟩,rfl,by omega,by omega,rfl⟩
   ·have:=c.2.2 a g
    rw [kD f]at this;simp at this;exact this
   ·exact oZ p.body 0 (by omega) (by omega) b.2.2.2 (by omega)
structure Made (H:AH) (p:eD) (ps:List Int) (H':AH) (m:Nat) (c:dS):Prop where
 is:∃G v,jC G H' m p ps v c∧Ext H H'∧(∀b,Mf m v b→H.nx≤b)∧∀b x,G.get b=some x→H.nx≤b
abbrev pd (w fuel:Int) (vp vv vb vs vf:Value):MV:=⟨vf,w,vv,vb,fuel,vp,0,vs,.slice none 0 0,.slice none 0 0,0,0,0,false⟩
theorem vF:eG zS zS=true:=by simp [zS]
theorem Pf {p:eD} {t:wu} {c d:List Value} {fuel:Int} {H:AH} (hw:H.n0≤H.nx) (hp:pT H c p) (ht:xb H d t):
 Ca E O 10 [.agg c.toArray,.int .i64 fuel,.agg d.toArray] H (fun x H'=>if j9 p fuel t=0 then∃m,x= .tuple #[.pointer (some ⟨m,0,none⟩),.int .i64 0]∧Made H p t.bz H' m (gI p fuel t)else x= .tuple #[.pointer none,.int .i64 (j9 p fuel t)]∧Ext H H'):=by
 refine Ca.aJ (F:=WW) rfl rfl rfl ?_;have hc:=hp.len;have hd:d.length=2:=by obtain ⟨vs,vp,e,_⟩:=ht.is;rw [e];rfl
 have X1:=Ext.alloc H (.cells c.length c);have q:(H.alloc (.cells c.length c)).ldn ⟨H.nx,0,none⟩ 3=some c:=bj hw 3 (by assumption);generalize cA:H.alloc (.cells c.length c)=H1 at X1 q;have bD:=X1.wf hw;have X2:=Ext.alloc H1 (.cells d.length d);have r:(H1.alloc (.cells d.length d)).ldn ⟨H1.nx,0,none⟩ 2=some d:=bj bD 2 (by assumption);generalize iE:H1.alloc (.cells d.length d)=H2 at X2 r;have jL:=X2.wf bD;replace q:=X2.ldn q;have X:=X1.trans X2;simp (maxSteps:=9^7)-implicitDefEqProofs+contextual [-X.ev,WW,cA,iE,q];apply ah
 ·(simp-implicitDefEqProofs [-X.ev];rfl)
 refine (CP jL (hp.ext X)).mono ?_;rintro x H3 ⟨rfl,X3⟩;replace q:=X3.ldn q;replace r:=X3.ldn r;have gM:=X.trans X3
 cases B:eI p with
 |false=>
  have I:j9 p fuel t=30:=by unfold j9;rw [if_pos B]
  simp (maxSteps:=9^7)-implicitDefEqProofs+contextual [-X.ev,B,I,gM]
 |true=>
  by_cases h2:fuel<0
  ·have I:j9 p fuel t=1:=by unfold j9;rw [if_neg (by rw [B];decide),if_pos (.inl h2)]
   simp (maxSteps:=9^7)-implicitDefEqProofs+contextual [-X.ev,B,h2,I,gM]
  by_cases h3:4096<fuel
  ·have I:j9 p fuel t=1:=by unfold j9;rw [if_neg (by rw [B];decide),if_pos (.inr h3)]
   simp (maxSteps:=9^7)-implicitDefEqProofs+contextual [-X.ev,B,h2,h3,I,gM]
  simp (maxSteps:=9^7)-implicitDefEqProofs+contextual [-X.ev,B,h2,h3,q,r];apply ah
  ·(simp-implicitDefEqProofs [-X.ev];rfl)
  refine (zA (X3.wf jL) (hp.ext gM) (ht.ext gM) B).mono ?_;rintro x H4 ⟨rfl,X4⟩;replace q:=X4.ldn q;replace r:=X4.ldn r;have J:=gM.trans X4;have mK:=J.wf hw
  cases h4:jS p t with
  |false=>
   have I:j9 p fuel t=50:=by unfold j9;rw [if_neg (by rw [B];decide),if_neg (by omega),if_pos h4]
   simp (maxSteps:=9^7)-implicitDefEqProofs+contextual [-X.ev,h4,I,J]
  |true=>
   have I:j9 p fuel t=0:=by unfold j9;rw [if_neg (by rw [B];decide),if_neg (by omega),if_neg (by rw [h4];decide)]
   obtain ⟨g,_,hf1,Pg,_⟩:=uh I;have hp4:=hp.ext J;have ht4:=ht.ext J;obtain ⟨M,C,rb,rfl,hi,hv,uG,hr,hl,lP⟩:=hp4.is;obtain ⟨vs,vp,rfl,ss,sp,l1,l2,_,_⟩:=ht4.is;have q1:=aL q (j:=1) rfl;have q2:=aL q (j:=2) rfl;have r0:=aL r (j:=0) rfl;have r1:=aL r (j:=1) rfl;simp only [Nat.zero_add]at q1 q2 r0 r1;have hpk:=g.used.2
   have zK:t.store.length≤48:=by
    have:=g.store;simp only [ch,apJ,apS]at this;have h48:=(gW g.head).2.2;have e:=this.1;simp only [gI]at e;omega
   have hVl:=(gW g.head).2.1;simp (maxSteps:=9^7)-implicitDefEqProofs+contextual [-X.ev,h4,q,r1];apply ah
   ·(simp-implicitDefEqProofs [-X.ev];rfl)
   refine (kC mK sp (by omega)).mono ?_;rintro l H5 ⟨o5,X5,k5⟩;obtain ⟨pa,pc,Fj⟩:=o5.shape;have rk:=X5.wf mK
   have sK:eM [.slice none 0 0,.int .i64 0,.slice none 0 0,.slice none 0 0,.int .i64 0,.slice none 0 0,.int .i64 0,.slice none 0 0,.slice none 0 0,.slice none 0 0,.int .i64 0,.int .i64 0,.int .i64 0,.bool false] [(1,3,.agg #[.int .i64 p.w,M,C]),(4,1,.int .i64 fuel),(5,1,l)]=some (.agg (pd p.w fuel l M C (.slice none 0 0) (.slice none 0 0)).cells.toArray):=by
    rw [Fj];rfl
   have gm:=cx H5 (.cells 14 (pd p.w fuel l M C (.slice none 0 0) (.slice none 0 0)).cells);have X6:=Ext.alloc H5 (.cells 14 (pd p.w fuel l M C (.slice none 0 0) (.slice none 0 0)).cells)
   obtain ⟨H6,Mm⟩:∃H6,H5.alloc (.cells 14 (pd p.w fuel l M C (.slice none 0 0) (.slice none 0 0)).cells)=H6:=⟨_,rfl⟩
   rw [Mm]at gm X6
   obtain ⟨m,hm⟩:∃m,H5.nx=m:=⟨_,rfl⟩
   rw [hm]at gm;have Mg:=X5.nx;have Ik:=X5.n0;have YV:=X6.nx;have mlt:=AH.bk gm;have W:=X5.trans X6;have adL:=W.ld q1;have A0:=X6.wf rk;have q5:=X5.ldn q;have cc1:H4.nx≤m:=by omega
   have V:H6.n0=H4.n0:=X6.n0.trans Ik;have cc3:m≤H6.nx:=by omega
   obtain ⟨va0,vc0,adN⟩:=hv.len;obtain ⟨ba0,bc0,Vc⟩:=hr.len;have svv:dz M M=true:=by rw [adN];simp
   have svb:dz C C=true:=by rw [Vc];simp
   simp (maxSteps:=9^7)-implicitDefEqProofs+contextual [-X.ev,sK,Mm,q,q5,svv,svb,Ik,cc1,V,cc3,aN,aD,aE,adL,hm];apply ah
   ·(simp-implicitDefEqProofs [-X.ev];rfl)
   refine (kB (f:=35) (sz:=3) (bytes:=32) rfl rfl A0 (hv.ext W) (by simp;omega) (by simp;omega)).mono ?_;rintro x H7 ⟨o7,X7,k7⟩;have x7x:=X7.nx;have P:H.n0≤m:=by have:=J.nx;omega
   obtain ⟨wa,wc,Km⟩:=o7.shape;rw [List.length_map]at Km;obtain ⟨H8,s8,M8,Us,DI,g8⟩:=bV (X7.get gm) (by rw [X7.n0,V,J.n0];exact P) (k:=2) (vs:=[x]) (by simp);have OU:aM (pd p.w fuel l M C (.slice none 0 0) (.slice none 0 0)).cells 2 [x]=(pd p.w fuel l x C (.slice none 0 0) (.slice none 0 0)).cells:=rfl;rw [OU]at g8;obtain ⟨H9,s9,M9,YK,RG,g9⟩:=bV g8 (by rw [DI,X7.n0,V,J.n0];exact P) (k:=3) (vs:=[.slice none 0 0]) (by simp);have OV:aM (pd p.w fuel l x C (.slice none 0 0) (.slice none 0 0)).cells 3 [.slice none 0 0]=(pd p.w fuel l x (.slice none 0 0) (.slice none 0 0) (.slice none 0 0)).cells:=rfl;rw [OV]at g9;have Vd:Ext H4 H9:=((W.trans X7).mod M8 (fun b a=>by omega)).mod M9 (fun b a=>by omega);have n9:H9.n0=H.n0:=Vd.n0.trans J.n0;have Ve:=Vd.ld q2;have amI:=Vd.ld r0;have Ov:=Vd.wf mK;have Kq:=Vc;rw [hl.length]at Kq;rw [Kq]at Ve;rw [Km]at s8;simp (maxSteps:=9^7)-implicitDefEqProofs+contextual [-X.ev,Km,s8,s9,Ve];rw [←Km]at s8;refine bZ (fun k fr H'=>Mod (fun b=>b=m) H9 H'∧∃(i:Nat) (z:Value) (rs:List (List Value)),H'.get m=some (.cells 14 (pd p.w fuel l x z (.slice none 0 0) (.slice none 0 0)).cells)∧i+k=p.body.length∧fr.get 8= .pointer (some ⟨m,0,none⟩)∧fr.get 5= .pointer (some ⟨H1.nx,0,none⟩)∧fr.get 43=C∧fr.get 44= .int .i64 p.body.length∧fr.get 45= .int .i64 i∧da H' 5 z rs∧rs.length=i∧fh (part H' H9.nx (aU z)) rs (p.body.take i)∧(∀b,aU z b→H9.nx≤b)) ?_ p.body.length ⟨Mod.refl _ _,0,.slice none 0 0,[],by simpa [Km]using g9,by simp,by simp [hm],by simp,by simp [Kq],by simp,by simp,da.nil _ _,rfl,by simpa using fh.nil,fun b a=>absurd a (dv _ _ _)⟩;rintro k fr yA ⟨Y,i,z,rs,YL,hi,f8,f5,f43,f44,f45,ow,wL,aH,kO⟩;have Ph:=Y.wf Ov;have amJ:=Y.nx;have Gl:Ext H4 yA:=Vd.mod Y (fun b a=>by omega)
   have amK:aw p.body≤400:=by
    simp only [eI,apJ,apS]at B;exact B.2.1
   have ahM:=fv p.body;by_cases dh:i<p.body.length
   ·obtain ⟨y,hy⟩:∃y,p.body[i]?=some y:=⟨_,apG dh⟩
    have t1:=fu hy;have t2:=aX p.body (i+1);have t3:=aX p.body i;obtain ⟨lH,yn,jV,oQ,oR⟩:=y;obtain ⟨b,o,c',oT,oU,oV,Ux,Uy,Uz,b9,bK,_,_,_,_,_,j1,j2,j3,j4,j5,e1,e2,e3,e4,e5,e6⟩:=hY.row (hr.ext Gl) (hY.ext Gl hl) hy;have DJ:nK yA [.int .i64 lH,.int .i64 yn,oT,oU,oV] (.mk lH yn jV oQ oR):=.mk j1 j2 j3 j4 j5 e1 e2 e3 e4 e5 e6;have Gm:=f43;rw [b9]at Gm;obtain ⟨A,sHa,L,amM,amN,u,RP⟩:=fg (H:=yA) Ph (z:=5) (c:=[.int .i64 0,.int .i64 0,.slice none 0 0,.slice none 0 0,.slice none 0 0]) (vs:=[.int .i64 lH,.int .i64 yn,oT,oU,oV]) rfl;have u0:A.ld ⟨yA.nx,0,none⟩=some (.int .i64 lH):=RP 0 _ rfl;have u1:A.ld ⟨yA.nx,1,none⟩=some (.int .i64 yn):=RP 1 _ rfl;have u2:A.ld ⟨yA.nx,2,none⟩=some oT:=RP 2 _ rfl;have u3:A.ld ⟨yA.nx,3,none⟩=some oU:=RP 3 _ rfl;have u4:A.ld ⟨yA.nx,4,none⟩=some oV:=RP 4 _ rfl;clear RP;replace u:A.ldn ⟨yA.nx,0,none⟩ 5=some [.int .i64 lH,.int .i64 yn,oT,oU,oV]:=u;have Vf:=L.wf Ph;have ga:=L.get YL;have RQ:A.n0=H.n0:=L.n0.trans (Y.n0.trans n9);have Q:=aI ga (by rw [RQ];exact P) (k:=3) (v:=z) rfl;obtain ⟨za,zc,K⟩:=ow.shape;rw [wL]at K;have U:=mZ (sz:=5) (z:=zS) (H:=A) (v:=.agg #[.int .i64 0,.int .i64 0,.slice none 0 0,.slice none 0 0,.slice none 0 0]) rfl rfl rfl;simp only [dM]at U;have s:=Ext.alloc A (.cells 5 zS);have gz:=cx A (.cells 5 zS)
    obtain ⟨Hb,RT⟩:∃Hb,A.alloc (.cells 5 zS)=Hb:=⟨_,rfl⟩
    rw [RT]at U s gz;have YY:=s.wf Vf
    have oz:da Hb 5 (.slice (some ⟨A.nx,0,none⟩) 1 1) [zS]:=⟨.inr ⟨A.nx,rfl,by rw [s.n0];exact Vf,by simpa using gz⟩,by simp⟩
    have xax:=L.nx;have xbx:=s.nx;rw [K]at Q;simp (maxSteps:=9^7)-implicitDefEqProofs+contextual [-X.ev,Gm,f44,f45,f8,dh,bK,sHa,u,Q,U];apply ah
    ·(simp-implicitDefEqProofs [-X.ev];rfl)
    refine (C3 _ _ _ Hb (apV _) YY (nK.ext (L.trans s) DJ) (by omega)).mono ?_;rintro xx Hc ⟨cs,rfl,hk5,D⟩;have hwc:=D.wf YY;have xcx:=D.nx;obtain ⟨s',Hd,tq,od,Md,kd,Vh⟩:=su (bytes:=88) hwc ((ow.ext (L.trans s)).ext D) (oz.ext D).rows (by simp;omega) (by simp;omega);have Vi:=hk5.len;obtain ⟨bd,T,He,sd,oe,Me,nxe,N⟩:=od.Pe Vi;have OS:∀b,aU z b→b<yA.nx:=fun b a=>ow.lt a
    have amS:m<H9.nx:=AH.bk g9;have gd:=Md.get (fun q=>by have:=kO m q;omega) (D.get (s.get ga));have Oq:aU s' bd:=by rw [T];exact (aS _ _ _ _ _).2 rfl
    have amT:=Vh (by simp) bd Oq;have ge:=Me.get (fun q=>by omega) gd;obtain ⟨Hf,sf,Da,nxf,n0f,gf⟩:=bV ge (by rw [N,Md.n0,D.n0,s.n0,RQ];exact P) (k:=3) (vs:=[s']) (by simp);have adS:aM (pd p.w fuel l x z (.slice none 0 0) (.slice none 0 0)).cells 3 [s']=(pd p.w fuel l x s' (.slice none 0 0) (.slice none 0 0)).cells:=rfl;rw [adS]at gf;have Pj:=aV.1 Q;have Vj:=D.ldn (s.ldn Pj);have Vl:=s.ldn Pj;have gzc:=D.get gz;have mdx:=Md.nx;rw [wL]at sd T;have RM:Nat.beq bd m=false:=aqj.2 fun h=>by have:=Nat.eq_of_beq_eq_true h;omega
    have n0d:=Md.n0;have YZ:=D.n0;have n0b:=s.n0;rw [K]at tq;rw [T]at tq sf;have adU:(i:Int)<(i:Int)+1:=by omega
    simp (maxSteps:=9^7)-implicitDefEqProofs+contextual [-X.ev,f45,tq,sd,sf,Vi,adU,aN,aD,aE,AT,dq,Pj,Vj,Vl,gz,gzc,m9,vF,RM,n0d,YZ,n0b,N,n0f,xbx,xcx,mdx,nxe,nxf];rw [aj (n:=(i:Int)+1) ⟨by omega,by omega⟩];have MM:=(((Y.trans (Mod.bU ((L.trans s).trans D))).then Md (fun b a q=>by have:=kO b q;omega)).then Me (fun b a q=>by omega)).then Da (fun b _ q=>q);have nn:Hf.n0=Hc.n0:=n0f.trans (N.trans n0d);refine ⟨k- 1,by omega,MM,i+1,s',gf,by omega,f8,f5,f43,f44,by simp,_,oe.mod Da (fun b a q=>by have:=Vh (by simp) b a;omega),by simp [wL],?_,fun b a=>by have:=Vh (by simp) b a;omega⟩;rw [mP hy];refine fh.snoc (aH.sub (eX (nn.trans (YZ.trans (n0b.trans L.n0))) (by omega) fun b y a hn K=>?_)) (hk5.sub (eX nn (by omega) fun b y a hn K=>?_))
    ·have mX:=AH.bk a
     exact ⟨Da.get (fun q=>by omega) (Me.get (fun q=>by omega) (Md.get K (D.get (s.get (L.get a))))),hn,fun q=>by have:=Vh (by simp) b q;omega⟩
    ·have mX:=AH.bk a
     exact ⟨Da.get (fun q=>by omega) (Me.get (fun q=>by omega) (Md.get (fun q=>by have:=OS b q;omega) a)),by omega,fun q=>by have:=Vh (by simp) b q;omega⟩
   rw [apN (by omega)]at aH;have Vm:=Gl.ld r0;have Gm:=f43;rw [Kq]at Gm;simp (maxSteps:=9^7)-implicitDefEqProofs+contextual [-X.ev,Gm,f44,f45,f8,f5,dh,Vm];apply ah
   ·(simp-implicitDefEqProofs [-X.ev];rfl)
   refine (kC Ph (ss.ext Gl) (by omega)).mono ?_;rintro Z YD ⟨Bd,RW,R⟩;have RQ:yA.n0=H.n0:=Y.n0.trans n9;have amW:=RW.nx;obtain ⟨CW,YM,RH,Kb,OK,xB⟩:=bV (RW.get YL) (by rw [RW.n0,RQ];exact P) (k:=7) (vs:=[Z]) (by simp);have Vo:aM (pd p.w fuel l x z (.slice none 0 0) (.slice none 0 0)).cells 7 [Z]=(pd p.w fuel l x z Z (.slice none 0 0)).cells:=rfl;rw [Vo]at xB;have amX:m<H9.nx:=AH.bk g9;have Pl:Mod (fun b=>b=m) yA CW:=(Mod.bU RW).trans RH;have MM7:Mod (fun b=>b=m) H7 CW:=((M8.trans M9).trans Y).trans Pl;have MM5:Mod (fun b=>b=m) H5 CW:=(Mod.bU (X6.trans X7)).trans MM7;have FW:CW.n0=H.n0:=OK.trans (RW.n0.trans RQ);have adV:CW.n0≤CW.nx:=by rw [FW,Kb];omega
   obtain ⟨RX,S⟩:∃RX,pd p.w fuel l x z Z (.slice none 0 0)=RX:=⟨_,rfl⟩
   have Vp:∀b,Mf m RX b↔b=m∨aU Z b:=by
    intro b;rw [←S];unfold Mf;simp only [dv,false_or,or_false]
   obtain ⟨G,hG⟩:∃G,part CW H.nx (Mf m RX)=G:=⟨_,rfl⟩
   have x04:=J.nx
   have o12:=(Bd.mod RH (fun b a q=>by have:=R b a;omega))
   have vm:¬ aU Z m:=fun q=>by have:=R m q;omega
   have h12:MH G CW m RX [] t.store [] []:=by
    subst hG S;exact {get:=xB,n0:=by rw [FW];exact P,sub:=Bh _ _ _,wf:=adV,fr:=(da.nil _ 2).Kf,st:=o12,ou:=da.nil _ 2,tr:=da.nil _ 3,d1:=⟨dv _ _ _,vm,dv _ _ _,dv _ _ _⟩,d2:=fun b a=>absurd a (dv _ _ _),d3:=fun b a=>⟨dv _ _ _,dv _ _ _⟩,d4:=fun b a=>absurd a (dv _ _ _),out:=fun b a=>tY a}
   have Vq:da G 5 z rs:=by
    rw [←hG]
    exact (ow.mod Pl (fun b a q=>by have:=kO b a;omega)).part fun b a=>⟨by have:=kO b a;omega,fun q=>by
     rw [Vp]at q;rcases q with q|q
     ·have:=kO b a;omega
     ·have:=R b q;have:=ow.lt a;omega⟩
   have adW:fh G rs p.body:=by
    rw [←hG];refine aH.sub (eX (FW.trans RQ.symm) (by omega) fun b y a hn K=>?_);have mX:=AH.bk a;refine ⟨Pl.get (fun q=>by omega) a,by omega,fun q=>?_⟩;rw [Vp]at q;rcases q with q|q
    ·omega
    ·have:=R b q;omega
   have Vs:da G 3 x (p.vars.map Vr.row):=by
    rw [←hG]
    refine (o7.mod MM7 (fun b a q=>by have:=k7 b a;omega)).part fun b a=>⟨by have:=k7 b a;omega,fun q=>?_⟩
    rw [Vp]at q;rcases q with q|q
    ·have:=k7 b a;omega
    ·have:=R b q;have:=o7.lt a;have:=Us;have:=YK;omega
   have adX:da G 1 l (bC t.bz):=by
    rw [←hG]
    refine (o5.mod MM5 (fun b a q=>by have:=o5.lt a;omega)).part fun b a=>⟨by have:=k5 b a;omega,fun q=>?_⟩
    rw [Vp]at q;rcases q with q|q
    ·have:=o5.lt a;omega
    ·have:=R b q;have:=o5.lt a;omega
   have l3:=aI xB (by rw [FW];exact P) (k:=3) (v:=z) rfl;obtain ⟨za,zc,K⟩:=ow.shape;obtain ⟨sa,sc,Sx⟩:=Bd.shape;have adY:p.body.length≤2^30:=by omega
   have key:=oY (k:=0) h12 Vq.rows adW Vq.fit (fs:=[]) .nil (by simp) adY;rw [K]at l3 key;rw [Sx]at YM;simp (maxSteps:=9^7)-implicitDefEqProofs+contextual [-X.ev,f8,Sx,YM,l3,aN,aD,aE];apply ah
   ·(simp-implicitDefEqProofs [-X.ev];rfl)
   refine (key).mono ?_;rintro xx H13 ⟨kc,dJ,qy,Vt,adZ,Vu,Vv⟩;have ad0:=Vt.mod.n0;have ad1:=Vt.mod.nx;simp (maxSteps:=9^7)-implicitDefEqProofs+contextual [-X.ev,f8,aN,aD,aE,ad0,ad1,I];have XX:Ext H CW:=(((J.trans Gl)).trans RW).mod RH (fun b a=>by omega)
   have pf:∀b,Mf m RX b→H.nx≤b:=fun b a=>by
    rw [Vp]at a;rcases a with q|q
    ·omega
    ·have:=R b q;omega
   have gK:∀b x,G.get b=some x→H.nx≤b:=fun b x a=>by rw [←hG]at a;exact (jz.1 a).2.1
   refine ⟨G,_,{is:=⟨dJ,Vt.mh,fun _=>⟨qy,adZ,by rw [Vu];simp [my,gI]⟩,by simp at Vv;show _+2*fuel≤2^20;omega⟩,w:=by rw [←S],vars:=by rw [←S];exact Vs.rows,cap:=by rw [←S];exact Vs.cap,bz:=by rw [←S];exact adX.ints,mt:=by rw [←S];exact ⟨rfl,rfl,rfl,rfl,rfl,rfl⟩,inv:=g,ov:=fun q=>by cases q},XX.mod Vt.mod pf,fun b a=>?_,gK⟩;rcases Vt.new b a with q|q
   ·exact pf b q
   ·have:=XX.nx;omega
end
section
open Go
structure pg where
 en:Int
 store:List Int
 outs:List (Int×Int)
 trace:List Ev
 cost:Int
 used:Int
 wh:Int
def dS.run (c:dS):pg:=⟨c.en,c.store,c.outs,c.trace,c.cost,c.used,c.wh⟩
def ph:pg:=⟨0,[],[],[],0,0,0⟩
def Small (r:pg):Prop:=r.store.length≤2^40∧r.outs.length≤2^40∧r.trace.length≤2^40
structure xR (H:AH) (n:Nat) (cs:List Value) (r:pg):Prop where
 is:∃vs vo vt,cs=[.int .i64 r.en,vs,vo,vt,.int .i64 r.cost,.int .i64 r.used,.int .i64 r.wh]∧da H 1 vs (bC r.store)∧da H 2 vo (dw r.outs)∧da H 3 vt (cU r.trace)∧(∀b,aU vs b∨aU vo b∨aU vt b→n≤b)
theorem xR.zero (H:AH) (n:Nat):xR H n [.int .i64 0,.slice none 0 0,.slice none 0 0,.slice none 0 0,.int .i64 0,.int .i64 0,.int .i64 0] ph:=
 ⟨_,_,_,rfl,da.nil _ _,da.nil _ _,da.nil _ _,fun b a=>by rcases a with q|q|q<;>exact absurd q (dv _ _ _)⟩
theorem ui {H:AH} {r:pg} {vs vo vt:Value} (c:H.n0≤H.nx) (hs:Rows H 1 vs (bC r.store)) (ho:Rows H 2 vo (dw r.outs)) (ht:Rows H 3 vt (cU r.trace)) (e:Small r):
 Ca E O 38 [.agg #[.int .i64 r.en,vs,vo,vt,.int .i64 r.cost,.int .i64 r.used,.int .i64 r.wh]] H (fun x H'=>∃cs,x= .agg cs.toArray∧xR H' H.nx cs r∧Ext H H'):=by
 refine Ca.aJ (F:=W9) rfl rfl rfl ?_;obtain ⟨b1,b2,b3⟩:=e;have gB:=cx H (.cells 7 [.int .i64 r.en,vs,vo,vt,.int .i64 r.cost,.int .i64 r.used,.int .i64 r.wh]);have D:=Ext.alloc H (.cells 7 [.int .i64 r.en,vs,vo,vt,.int .i64 r.cost,.int .i64 r.used,.int .i64 r.wh]);have d0:(H.alloc (.cells 7 [.int .i64 r.en,vs,vo,vt,.int .i64 r.cost,.int .i64 r.used,.int .i64 r.wh])).ld ⟨H.nx,0,none⟩=some (.int .i64 r.en):=ai c rfl;have w:(H.alloc (.cells 7 [.int .i64 r.en,vs,vo,vt,.int .i64 r.cost,.int .i64 r.used,.int .i64 r.wh])).ld ⟨H.nx,1,none⟩=some vs:=ai c rfl;have v:(H.alloc (.cells 7 [.int .i64 r.en,vs,vo,vt,.int .i64 r.cost,.int .i64 r.used,.int .i64 r.wh])).ld ⟨H.nx,2,none⟩=some vo:=ai c rfl;have u:(H.alloc (.cells 7 [.int .i64 r.en,vs,vo,vt,.int .i64 r.cost,.int .i64 r.used,.int .i64 r.wh])).ld ⟨H.nx,3,none⟩=some vt:=ai c rfl;have d4:(H.alloc (.cells 7 [.int .i64 r.en,vs,vo,vt,.int .i64 r.cost,.int .i64 r.used,.int .i64 r.wh])).ld ⟨H.nx,4,none⟩=some (.int .i64 r.cost):=ai c rfl;have d5:(H.alloc (.cells 7 [.int .i64 r.en,vs,vo,vt,.int .i64 r.cost,.int .i64 r.used,.int .i64 r.wh])).ld ⟨H.nx,5,none⟩=some (.int .i64 r.used):=ai c rfl;have d6:(H.alloc (.cells 7 [.int .i64 r.en,vs,vo,vt,.int .i64 r.cost,.int .i64 r.used,.int .i64 r.wh])).ld ⟨H.nx,6,none⟩=some (.int .i64 r.wh):=ai c rfl;have d:(H.alloc (.cells 7 [.int .i64 r.en,vs,vo,vt,.int .i64 r.cost,.int .i64 r.used,.int .i64 r.wh])).ldn ⟨H.nx,0,none⟩ 7=some [.int .i64 r.en,vs,vo,vt,.int .i64 r.cost,.int .i64 r.used,.int .i64 r.wh]:=bj c 7 rfl;generalize cA:H.alloc (.cells 7 [.int .i64 r.en,vs,vo,vt,.int .i64 r.cost,.int .i64 r.used,.int .i64 r.wh])=z at D d0 w v u d4 d5 d6 d;have bD:=D.wf c;rw [cA]at gB;have i:=Ext.alloc z (.cells 7 [.int .i64 0,.slice none 0 0,.slice none 0 0,.slice none 0 0,.int .i64 0,.int .i64 0,.int .i64 0]);have M:=cx z (.cells 7 [.int .i64 0,.slice none 0 0,.slice none 0 0,.slice none 0 0,.int .i64 0,.int .i64 0,.int .i64 0])
 obtain ⟨H2,iE⟩:∃H2,z.alloc (.cells 7 [.int .i64 0,.slice none 0 0,.slice none 0 0,.slice none 0 0,.int .i64 0,.int .i64 0,.int .i64 0])=H2:=⟨_,rfl⟩
 rw [iE]at i M;have Z:=i.wf bD;have y:=D.trans i;have ltB:=AH.bk gB;have ltR:=AH.bk M;have x1:=D.nx;have x2:=i.nx;replace w:=i.ld w;replace v:=i.ld v;replace u:=i.ld u;have t:=aV.1 w;have s:=aV.1 v;have p:=aV.1 u;obtain ⟨a1,c1,e1⟩:=hs.len;obtain ⟨a2,c2,e2⟩:=ho.len;obtain ⟨a3,c3,e3⟩:=ht.len;have s1:dz vs vs=true:=by rw [e1];simp
 have s2:dz vo vo=true:=by rw [e2];simp
 have s3:dz vt vt=true:=by rw [e3];simp
 simp (maxSteps:=9^7)-implicitDefEqProofs+contextual [-X.ev,W9,cA,iE,w,v,u];apply ah
 ·(simp-implicitDefEqProofs [-X.ev];rfl)
 refine (kC (l:=r.store) Z (hs.ext y) b1).mono ?_;rintro xs H3 ⟨Q,g,W⟩;have Y:=g.wf Z;simp (maxSteps:=9^7)-implicitDefEqProofs+contextual [-X.ev];apply ah
 ·(simp-implicitDefEqProofs [-X.ev];rfl)
 refine (kB (f:=73) (sz:=2) (bytes:=16) rfl rfl Y (ho.ext (y.trans g)) (by simp [dw];omega) (by simp [dw];omega)).mono ?_;rintro a H4 ⟨P,h,V⟩;have mK:=h.wf Y;simp (maxSteps:=9^7)-implicitDefEqProofs+contextual [-X.ev];apply ah
 ·(simp-implicitDefEqProofs [-X.ev];rfl)
 refine (kB (f:=74) (sz:=3) (bytes:=24) rfl rfl mK (ht.ext ((y.trans g).trans h)) (by simp [cU];omega) (by simp [cU];omega)).mono ?_;rintro xt H5 ⟨N,n,U⟩;have x3:=g.nx;have x4:=h.nx;have x5:=n.nx;obtain ⟨f1,g1,h1⟩:=Q.shape;obtain ⟨f2,g2,h2⟩:=P.shape;obtain ⟨f3,g3,h3⟩:=N.shape;have C:=g.trans (h.trans n);have m:H5.n0=H.n0:=C.n0.trans y.n0;obtain ⟨H6,t6,M6,G,j,YO⟩:=bV (C.get (i.get gB)) (by rw [m];exact c) (k:=1) (vs:=[xs]) (by simp);rw [show aM [Value.int .i64 r.en,vs,vo,vt,.int .i64 r.cost,.int .i64 r.used,.int .i64 r.wh] 1 [xs]=[.int .i64 r.en,xs,vo,vt,.int .i64 r.cost,.int .i64 r.used,.int .i64 r.wh] from rfl]at YO;obtain ⟨H7,t7,M7,YJ,o,UA⟩:=bV YO (by rw [j,m];exact c) (k:=2) (vs:=[a]) (by simp);rw [show aM [Value.int .i64 r.en,xs,vo,vt,.int .i64 r.cost,.int .i64 r.used,.int .i64 r.wh] 2 [a]=[.int .i64 r.en,xs,a,vt,.int .i64 r.cost,.int .i64 r.used,.int .i64 r.wh] from rfl]at UA;obtain ⟨H8,t8,M8,Us,A,UB⟩:=bV UA (by rw [o,j,m];exact c) (k:=3) (vs:=[xt]) (by simp);rw [show aM [Value.int .i64 r.en,xs,a,vt,.int .i64 r.cost,.int .i64 r.used,.int .i64 r.wh] 3 [xt]=[.int .i64 r.en,xs,a,xt,.int .i64 r.cost,.int .i64 r.used,.int .i64 r.wh] from rfl]at UB;have l8:H8.ldn ⟨H.nx,0,none⟩ 7=some [.int .i64 r.en,xs,a,xt,.int .i64 r.cost,.int .i64 r.used,.int .i64 r.wh]:=by rw [bM UB (by rw [A,o,j,m];exact c) (by simp)];rfl
 have L:=M8.get (fun q=>by omega) (M7.get (fun q=>by omega) (M6.get (fun q=>by omega) (C.get M)));obtain ⟨H9,t9,M9,YK,RG,UC⟩:=bV L (by rw [A,o,j,m];omega) (k:=0) (vs:=[.int .i64 r.en,xs,a,xt,.int .i64 r.cost,.int .i64 r.used,.int .i64 r.wh]) (by simp);rw [show aM [Value.int .i64 0,.slice none 0 0,.slice none 0 0,.slice none 0 0,.int .i64 0,.int .i64 0,.int .i64 0] 0 [.int .i64 r.en,xs,a,xt,.int .i64 r.cost,.int .i64 r.used,.int .i64 r.wh]=[.int .i64 r.en,xs,a,xt,.int .i64 r.cost,.int .i64 r.used,.int .i64 r.wh] from rfl]at UC;have l9:H9.ldn ⟨z.nx,0,none⟩ 7=some [.int .i64 r.en,xs,a,xt,.int .i64 r.cost,.int .i64 r.used,.int .i64 r.wh]:=by rw [bM UC (by rw [RG,A,o,j,m];omega) (by simp)];rfl
 have K:=g.ldn t;have T:=g.ldn s;have S:=g.ldn p;have J:=h.ldn T;have R:=h.ldn S;have I:=n.ldn R;have i1:cN xs=false:=by rw [h1];rfl
 have i2:cN a=false:=by rw [h2];rfl
 have i3:cN xt=false:=by rw [h3];rfl
 have v1:aW xs=[xs]:=by rw [h1];rfl
 have v2:aW a=[a]:=by rw [h2];rfl
 have v3:aW xt=[xt]:=by rw [h3];rfl
 simp (maxSteps:=9^7)-implicitDefEqProofs+contextual [-X.ev,i1,i2,i3,v1,v2,v3,t6,t7,t8,l8,t9,l9,s1,s2,s3,t,s,p,K,T,S,J,R,I,g.n0,h.n0,n.n0,x3,x4,x5,j,o,A,G,YJ,Us,aN,aD,aE];have B:Mod (fun b=>b=H.nx∨b=z.nx) H5 H9:=(((M6.mono fun b _ q=>.inl q).trans (M7.mono fun b _ q=>.inl q)).trans (M8.mono fun b _ q=>.inl q)).trans (M9.mono fun b _ q=>.inr q);refine ⟨⟨xs,a,xt,rfl,(Q.ext (h.trans n)).mod B (fun b e q=>by have:=W b e;omega),(P.ext n).mod B (fun b e q=>by have:=V b e;omega),N.mod B (fun b e q=>by have:=U b e;omega),fun b e=>?_⟩,(y.trans C).mod B (fun b e=>by omega)⟩;rcases e with q|q|q
 ·have:=W b q;omega
 ·have:=V b q;omega
 ·have:=U b q;omega
open Go
theorem zQ {p:eD} {ps:List Int} {c:dS} (h:cW c=true):bG p ps c=c:=by
 unfold cW at h;unfold bG;by_cases a:c.dG=true
 ·rw [if_pos a]
 ·rw [if_neg a]
  simp only [Bool.or_eq_true,List.isEmpty_iff]at h;rw [h.resolve_left a]
theorem gY {p:eD} {ps:List Int} {c:dS} (h:Inv p ps c):Small c.run:=by
 have e:=h.tr;have h2:=h.ou;have d:=h.fuel;have a:=h.store;simp only [ch,apJ,apS]at a;have b:=(gW h.head).2.2;refine ⟨?_,?_,?_⟩
 ·show c.store.length≤_;omega
 ·show c.outs.length≤_;omega
 ·show c.trace.length≤_;omega
theorem Kr {G H:AH} {m:Nat} {p:eD} {ps:List Int} {v:MV} {c:dS} (h:jC G H m p ps v c):
 Ca E O 11 [.pointer (some ⟨m,0,none⟩)] H (fun x H'=>∃cs,x= .tuple #[.agg cs.toArray,.bool (cW c)]∧xR H' H.nx cs c.run∧Ext H H'):=by
 refine Ca.aJ (F:=N2) rfl rfl rfl ?_;obtain ⟨rows,z,wv,qK⟩:=h.is;obtain ⟨m1,m2,m3,m4,m5,m6⟩:=h.mt;have K:=z.wf;have t:=Ext.alloc H (.cells 7 [.int .i64 0,.slice none 0 0,.slice none 0 0,.slice none 0 0,.int .i64 0,.int .i64 0,.int .i64 0]);have n:=cx H (.cells 7 [.int .i64 0,.slice none 0 0,.slice none 0 0,.slice none 0 0,.int .i64 0,.int .i64 0,.int .i64 0])
 obtain ⟨H1,Z⟩:∃H1,H.alloc (.cells 7 [.int .i64 0,.slice none 0 0,.slice none 0 0,.slice none 0 0,.int .i64 0,.int .i64 0,.int .i64 0])=H1:=⟨_,rfl⟩
 rw [Z]at t n;have i:=z.ext t;have x1:=t.nx;have w:=aI i.get i.n0 (k:=13) (v:=.bool v.ended) rfl;have T:=aI i.get i.n0 (k:=0) (v:=v.vf) rfl
 have A:H1.ldn ⟨m,6,none⟩ 7=some [.int .i64 c.run.en,v.vs,v.vo,v.vt,.int .i64 c.run.cost,.int .i64 c.run.used,.int .i64 c.run.wh]:=by
  rw [bM i.get i.n0 (by simp)];show some [Value.int .i64 v.en,v.vs,v.vo,v.vt,.int .i64 v.cost,.int .i64 v.used,.int .i64 v.wh]=_;rw [m1,m2,m3,m4];rfl
 have ltm:=z.lt (.inl rfl);obtain ⟨fa,fc,Y1⟩:=z.fr.shape;have key:=ui (r:=c.run) i.wf i.st.rows i.ou.rows i.tr.rows (gY h.inv);obtain ⟨a1,c1,e1⟩:=z.st.shape;obtain ⟨a2,c2,e2⟩:=z.ou.shape;obtain ⟨a3,c3,e3⟩:=z.tr.shape;have s1:dz v.vs v.vs=true:=by rw [e1];simp
 have s2:dz v.vo v.vo=true:=by rw [e2];simp
 have s3:dz v.vt v.vt=true:=by rw [e3];simp
 have RM:Nat.beq m H.nx=false:=aqj.2 fun h=>by have:=Nat.eq_of_beq_eq_true h;omega
 have B:cW c=(c.dG||decide (rows.length=0)):=by
  unfold cW
  cases L:c.dG with
  |true=>rfl
  |false=>
   obtain ⟨fs,Y,xQ⟩:=wv L;rw [Bool.false_or,Bool.false_or,aqc,List.isEmpty_iff,apS,xQ];constructor
   ·intro q
    rcases List.eq_nil_or_concat fs with rfl|⟨eK,f,Gn⟩
    ·rw [sT Y];rfl
    ·rw [List.concat_eq_append]at Gn
     subst Gn;obtain ⟨_,_,rfl,_,_,_,_,_,_,_,fR,_⟩:=mS Y;rw [gX]at q;simp at q;obtain ⟨l,k⟩:=f
     cases l with
     |nil=>exact absurd rfl fR
     |cons s l=>rw [jB]at q;simp at q
   ·intro q
    have:rows=[]:=aqe q;subst this;cases Y;rfl
 rw [m6]at w;rw [Y1]at T;have qN:((rows.length:Int)=0)↔rows=[]:=by rw [←ap9];omega
 cases L:c.dG with
 |true=>
  rw [L]at w B;simp (maxSteps:=9^7)-implicitDefEqProofs+contextual [-X.ev,N2,Z,A,w];apply ah
  ·(simp-implicitDefEqProofs [-X.ev];rfl)
  refine (key).mono ?_;rintro xx H2 ⟨cs,rfl,I,d⟩;have N:=d.nx;have j:cs.length=7:=by obtain ⟨_,_,_,e,_⟩:=I.is;rw [e];rfl
  obtain ⟨H3,Q,u,U,D,J⟩:=bV (d.get n) (by rw [d.n0,t.n0];exact K) (k:=0) (vs:=cs) (by simp [j]);have W:=k8 [Value.int .i64 0,.slice none 0 0,.slice none 0 0,.slice none 0 0,.int .i64 0,.int .i64 0,.int .i64 0] cs (by rw [j];rfl);rw [W]at J;have V:H3.ldn ⟨H.nx,0,none⟩ 7=some cs:=by rw [bM J (by rw [D,d.n0,t.n0];exact K) (by omega)];simp [apN (Nat.le_of_eq j)]
  have y:=d.ldn A;have C:=aV.1 w;have R:=d.ldn C;have M:=d.n0;simp (maxSteps:=9^7)-implicitDefEqProofs+contextual [-X.ev,j,Q,V,B,A,y,C,R,s1,s2,s3,N,M,U,D,aN,aD,aE,AT,dq,RM];refine ⟨?_,t.trans d|>.mod u (fun b hb=>by omega)⟩;obtain ⟨us,P,ut,e,a,b,cc,o⟩:=I.is;exact ⟨us,P,ut,e,a.mod u (fun q g e=>by have:=o q (.inl g);have:=AH.bk n;omega),b.mod u (fun q g e=>by have:=o q (.inr (.inl g));have:=AH.bk n;omega),cc.mod u (fun q g e=>by have:=o q (.inr (.inr g));have:=AH.bk n;omega),fun q g=>by have:=o q g;omega⟩
 |false=>
  rw [L]at w B
  obtain ⟨F,hF⟩:∃F,cW c=F:=⟨_,rfl⟩
  rw [hF]at B⊢;have hd:decide (rows=[])=F:=by rw [B,Bool.false_or,aqc,apS,apS,ap9]
  have AA:decide (rows.length=0)=F:=by rw [B,Bool.false_or]
  have hd3:decide ((rows.length:Int)=0)=F:=by rw [←AA,aqc,apS,apS];omega
  have r0n:=T;simp (maxSteps:=9^7)-implicitDefEqProofs+contextual [-X.ev,N2,Z,A,w];apply ah
  ·(simp-implicitDefEqProofs [-X.ev];rfl)
  refine (key).mono ?_;rintro xx H2 ⟨cs,rfl,I,d⟩;have N:=d.nx;have j:cs.length=7:=by obtain ⟨_,_,_,e,_⟩:=I.is;rw [e];rfl
  obtain ⟨H3,Q,u,U,D,J⟩:=bV (d.get n) (by rw [d.n0,t.n0];exact K) (k:=0) (vs:=cs) (by simp [j]);have W:=k8 [Value.int .i64 0,.slice none 0 0,.slice none 0 0,.slice none 0 0,.int .i64 0,.int .i64 0,.int .i64 0] cs (by rw [j];rfl);rw [W]at J;have V:H3.ldn ⟨H.nx,0,none⟩ 7=some cs:=by rw [bM J (by rw [D,d.n0,t.n0];exact K) (by omega)];simp [apN (Nat.le_of_eq j)]
  have y:=d.ldn A;have C:=aV.1 w;have R:=d.ldn C;have S:=d.ld T;have M:=d.n0;simp (maxSteps:=9^7)-implicitDefEqProofs+contextual [-X.ev,j,Q,V,hd,S,A,y,C,R,s1,s2,s3,N,M,U,D,aN,aD,aE,AT,dq,RM];refine ⟨?_,t.trans d|>.mod u (fun b hb=>by omega)⟩;obtain ⟨us,P,ut,e,a,b,cc,o⟩:=I.is;exact ⟨us,P,ut,e,a.mod u (fun q g e=>by have:=o q (.inl g);have:=AH.bk n;omega),b.mod u (fun q g e=>by have:=o q (.inr (.inl g));have:=AH.bk n;omega),cc.mod u (fun q g e=>by have:=o q (.inr (.inr g));have:=AH.bk n;omega),fun q g=>by have:=o q g;omega⟩
end
section
open Go
abbrev zR:List Value:=[.int .i64 0,.slice none 0 0,.slice none 0 0,.slice none 0 0,.int .i64 0,.int .i64 0,.int .i64 0]
open Go
theorem uj {H:AH} {v:Value} {l:List (Int×Int)} (h:Rows H 2 v (dw l)) {i:Nat} {x:Int×Int} (hi:l[i]?=some x):∃b o c,v= .slice (some ⟨b,o,none⟩) l.length c∧H.ldn ⟨b,o+i*2,none⟩ 2=some [.int .i64 x.1,.int .i64 x.2]:=by
 obtain ⟨b,o,c,e,a⟩:=h.at (i:=i) (r:=zM x) (by simp [dw,hi]);exact ⟨b,o,c,by simpa [dw]using e,a⟩
theorem xS {H:AH} {v:Value} {l:List Ev} (h:Rows H 3 v (cU l)) {i:Nat} {x:Ev} (hi:l[i]?=some x):∃b o c,v= .slice (some ⟨b,o,none⟩) l.length c∧H.ldn ⟨b,o+i*3,none⟩ 3=some [.int .i64 x.kind,.int .i64 x.at_,.int .i64 x.val]:=by
 obtain ⟨b,o,c,e,a⟩:=h.at (i:=i) (r:=x.row) (by simp [cU,hi]);exact ⟨b,o,c,by simpa [cU]using e,a⟩
instance:DecidableEq Ev:=fun a b=>if h:a.kind=b.kind∧a.at_=b.at_∧a.val=b.val then Decidable.isTrue (by cases a;cases b;simp_all)else Decidable.isFalse (fun e=>h (by rw [e];exact ⟨rfl,rfl,rfl⟩))
theorem VB (a b:Int):(a==b)=decide (a=b):=by by_cases h:a=b<;>simp [h]
theorem Pm (d c b a:Int):du [.int .i64 d,.int .i64 c] [.int .i64 b,.int .i64 a] [(0,0),(1,0)]=some (decide (d=b)&&decide (c=a)):=by
 by_cases f:d=b<;>by_cases e:c=a<;>simp [du,cO,iI,VB,f,e]
theorem Ks (f e d c b a:Int):du [.int .i64 f,.int .i64 e,.int .i64 d] [.int .i64 c,.int .i64 b,.int .i64 a] [(0,0),(1,0),(2,0)]=some (decide (f=c)&&(decide (e=b)&&decide (d=a))):=by
 by_cases i:f=c<;>by_cases h:e=b<;>by_cases g:d=a<;>simp [du,cO,iI,VB,i,h,g]
theorem Gr {v u:Value} {l m:List (Int×Int)} {H:AH} (M:Rows H 2 v (dw l)) (L:Rows H 2 u (dw m)) (U:l.length≤2^60):Ca E O 51 [v,u] H (fun x H'=>x= .bool (decide (l=m))∧H'=H):=by
 refine Ca.aJ (F:=Tv) rfl rfl rfl ?_;obtain ⟨S,W,c⟩:=M.len;obtain ⟨R,V,j⟩:=L.len;rw [gH]at c j
 obtain ⟨F,r⟩:∃F,decide (l=m)=F:=⟨_,rfl⟩
 rw [r];by_cases q:(l.length:Int)=m.length
 case neg=>
  have p:F=false:=by rw [←r,decide_eq_false_iff_not];rintro rfl;exact q rfl
  have f:¬ l.length=m.length:=by omega
  simp (maxSteps:=9^7)-implicitDefEqProofs+contextual [-X.ev,Tv,c,j,q,f,p]
 have f:l.length=m.length:=by omega
 simp (maxSteps:=9^7)-implicitDefEqProofs+contextual [-X.ev,Tv,c,j,q,f];refine bZ (fun k s H'=>H'=H∧∃i:Nat,i+k=l.length∧s.get 0=v∧s.get 1=u∧s.get 5= .int .i64 i∧l.take i=m.take i) ?_ l.length ⟨rfl,0,by simp,by simp [c,f],by simp [j],by simp,by simp⟩;rintro k s H' ⟨rfl,i,hi,a,d,t,K⟩;by_cases h:i<l.length
 ·obtain ⟨x,w⟩:∃n,l[i]?=some n:=⟨_,apG h⟩
  obtain ⟨y,g⟩:∃n,m[i]?=some n:=⟨_,apG (by omega)⟩
  obtain ⟨b,o,Y,I,A⟩:=uj M w;obtain ⟨Z,T,Q,J,z⟩:=uj L g;rw [I]at a;rw [J]at d;have h2:i<m.length:=by omega
  obtain ⟨G,D⟩:=x;obtain ⟨C,y2⟩:=y;by_cases e:G=C∧D=y2
  ·obtain ⟨rfl,rfl⟩:=e
   simp (maxSteps:=9^7)-implicitDefEqProofs+contextual [-X.ev,a,d,t,h,h2,A,z,Pm,aN,aD,aE];rw [aj (n:=(i:Int)+1) ⟨by omega,by omega⟩];refine ⟨k- 1,by omega,i+1,by omega,I.symm,J.symm,by simp,?_⟩;rw [ap1,ap1,w,g,K]
  ·have p:F=false:=by
    rw [←r,decide_eq_false_iff_not];rintro rfl;rw [w]at g;cases g;exact e ⟨rfl,rfl⟩
   by_cases B:G=C
   ·have P:¬ D=y2:=fun q=>e ⟨B,q⟩
    simp (maxSteps:=9^7)-implicitDefEqProofs+contextual [-X.ev,a,d,t,h,h2,A,z,Pm,aN,aD,aE,B,P,p]
   ·simp (maxSteps:=9^7)-implicitDefEqProofs+contextual [-X.ev,a,d,t,h,h2,A,z,Pm,aN,aD,aE,B,p]
 ·have N:F=true:=by
   rw [←r,decide_eq_true_iff];rwa [apN (by omega),apN (by omega)]at K
  rw [c]at a;simp (maxSteps:=9^7)-implicitDefEqProofs+contextual [-X.ev,a,d,t,h,N]
theorem zT {v u:Value} {l m:List Ev} {H:AH} (Q:Rows H 3 v (cU l)) (P:Rows H 3 u (cU m)) (Y:l.length≤2^60):Ca E O 52 [v,u] H (fun x H'=>x= .bool (decide (l=m))∧H'=H):=by
 refine Ca.aJ (F:=Tw) rfl rfl rfl ?_;obtain ⟨V,c1,d⟩:=Q.len;obtain ⟨U,Z,r⟩:=P.len;rw [cF]at d r
 obtain ⟨F,w⟩:∃F,decide (l=m)=F:=⟨_,rfl⟩
 rw [w];by_cases q:(l.length:Int)=m.length
 case neg=>
  have f:F=false:=by rw [←w,decide_eq_false_iff_not];rintro rfl;exact q rfl
  have j:¬ l.length=m.length:=by omega
  simp (maxSteps:=9^7)-implicitDefEqProofs+contextual [-X.ev,Tw,d,r,q,j,f]
 have j:l.length=m.length:=by omega
 simp (maxSteps:=9^7)-implicitDefEqProofs+contextual [-X.ev,Tw,d,r,q,j];refine bZ (fun k z H'=>H'=H∧∃i:Nat,i+k=l.length∧z.get 0=v∧z.get 1=u∧z.get 5= .int .i64 i∧l.take i=m.take i) ?_ l.length ⟨rfl,0,by simp,by simp [d,j],by simp [r],by simp,by simp⟩;rintro k z H' ⟨rfl,i,hi,a,c,g,N⟩;by_cases h:i<l.length
 ·obtain ⟨x,B⟩:∃n,l[i]?=some n:=⟨_,apG h⟩
  obtain ⟨y,p⟩:∃n,m[i]?=some n:=⟨_,apG (by omega)⟩
  obtain ⟨b,o,c',L,t⟩:=xS Q B;obtain ⟨b2,W,T,M,s⟩:=xS P p;rw [L]at a;rw [M]at c;have h2:i<m.length:=by omega
  obtain ⟨K,J,I⟩:=x;obtain ⟨G,D,y3⟩:=y;by_cases e:K=G∧J=D∧I=y3
  ·obtain ⟨rfl,rfl,rfl⟩:=e
   simp (maxSteps:=9^7)-implicitDefEqProofs+contextual [-X.ev,a,c,g,h,h2,t,s,Ks,aN,aD,aE];rw [aj (n:=(i:Int)+1) ⟨by omega,by omega⟩];refine ⟨k- 1,by omega,i+1,by omega,L.symm,M.symm,by simp,?_⟩;rw [ap1,ap1,B,p,N]
  ·have f:F=false:=by
    rw [←w,decide_eq_false_iff_not];rintro rfl;rw [B]at p;cases p;exact e ⟨rfl,rfl,rfl⟩
   by_cases A:K=G
   ·by_cases C:J=D
    ·have S:¬ I=y3:=fun q=>e ⟨A,C,q⟩
     simp (maxSteps:=9^7)-implicitDefEqProofs+contextual [-X.ev,a,c,g,h,h2,t,s,Ks,aN,aD,aE,A,C,S,f]
    ·simp (maxSteps:=9^7)-implicitDefEqProofs+contextual [-X.ev,a,c,g,h,h2,t,s,Ks,aN,aD,aE,A,C,f]
   ·simp (maxSteps:=9^7)-implicitDefEqProofs+contextual [-X.ev,a,c,g,h,h2,t,s,Ks,aN,aD,aE,A,f]
 ·have R:F=true:=by
   rw [←w,decide_eq_true_iff];rwa [apN (by omega),apN (by omega)]at N
  rw [d]at a;simp (maxSteps:=9^7)-implicitDefEqProofs+contextual [-X.ev,a,c,g,h,R]
end
section
open Go
structure vG (H:AH) (cs:List Value) (r:pg):Prop where
 is:∃vs vo vt,cs=[.int .i64 r.en,vs,vo,vt,.int .i64 r.cost,.int .i64 r.used,.int .i64 r.wh]∧ep H vs r.store∧Rows H 2 vo (dw r.outs)∧Rows H 3 vt (cU r.trace)∧Small r
theorem xR.toR {H:AH} {n:Nat} {cs:List Value} {r:pg} (h:xR H n cs r) (hs:Small r):vG H cs r:=by
 obtain ⟨f,g,d,e,a,b,c,_⟩:=h.is;exact ⟨f,g,d,e,a.ints,b.rows,c.rows,hs⟩
theorem vG.ext {H H':AH} {cs:List Value} {r:pg} (X:Ext H H') (h:vG H cs r):vG H' cs r:=by
 obtain ⟨g,i,f,e,a,b,c,d⟩:=h.is;exact ⟨g,i,f,e,ep.ext X a,b.ext X,c.ext X,d⟩
instance:DecidableEq pg:=fun a b=>if h:a.en=b.en∧a.store=b.store∧a.outs=b.outs∧a.trace=b.trace∧a.cost=b.cost∧a.used=b.used∧a.wh=b.wh then Decidable.isTrue (by cases a;cases b;simp_all)else Decidable.isFalse (fun e=>h (by rw [e];exact ⟨rfl,rfl,rfl,rfl,rfl,rfl,rfl⟩))
theorem nS {H:AH} {cs ds:List Value} {r u:pg} (p:H.n0≤H.nx) (h:vG H cs r) (k:vG H ds u):Ca E O 15 [.agg cs.toArray,.agg ds.toArray] H (fun x H'=>x= .bool (decide (r=u))∧Ext H H'):=by
 refine Ca.aJ (F:=LM) rfl rfl rfl ?_;obtain ⟨l,M,rc,rd,j,i,rg⟩:=r;obtain ⟨g,L,K,J,f,c,b⟩:=u;obtain ⟨vs,vo,vt,rfl,a1,a2,a3,s1,s2,s3⟩:=h.is;obtain ⟨us,uo,ut,rfl,b1,b2,b3,t1,t2,t3⟩:=k.is;have X1:=Ext.alloc H (.cells 7 [.int .i64 l,vs,vo,vt,.int .i64 j,.int .i64 i,.int .i64 rg]);have s:(H.alloc (.cells 7 [.int .i64 l,vs,vo,vt,.int .i64 j,.int .i64 i,.int .i64 rg])).ld ⟨H.nx,0,none⟩=some (.int .i64 l):=ai p rfl;have v:(H.alloc (.cells 7 [.int .i64 l,vs,vo,vt,.int .i64 j,.int .i64 i,.int .i64 rg])).ld ⟨H.nx,1,none⟩=some vs:=ai p rfl;have z:(H.alloc (.cells 7 [.int .i64 l,vs,vo,vt,.int .i64 j,.int .i64 i,.int .i64 rg])).ld ⟨H.nx,2,none⟩=some vo:=ai p rfl;have I:(H.alloc (.cells 7 [.int .i64 l,vs,vo,vt,.int .i64 j,.int .i64 i,.int .i64 rg])).ld ⟨H.nx,3,none⟩=some vt:=ai p rfl;have t:(H.alloc (.cells 7 [.int .i64 l,vs,vo,vt,.int .i64 j,.int .i64 i,.int .i64 rg])).ld ⟨H.nx,4,none⟩=some (.int .i64 j):=ai p rfl;have y:(H.alloc (.cells 7 [.int .i64 l,vs,vo,vt,.int .i64 j,.int .i64 i,.int .i64 rg])).ld ⟨H.nx,5,none⟩=some (.int .i64 i):=ai p rfl;have G:(H.alloc (.cells 7 [.int .i64 l,vs,vo,vt,.int .i64 j,.int .i64 i,.int .i64 rg])).ld ⟨H.nx,6,none⟩=some (.int .i64 rg):=ai p rfl;have d:(H.alloc (.cells 7 [.int .i64 l,vs,vo,vt,.int .i64 j,.int .i64 i,.int .i64 rg])).ldn ⟨H.nx,0,none⟩ 7=some [.int .i64 l,vs,vo,vt,.int .i64 j,.int .i64 i,.int .i64 rg]:=bj p 7 rfl;generalize B:H.alloc (.cells 7 [.int .i64 l,vs,vo,vt,.int .i64 j,.int .i64 i,.int .i64 rg])=a at X1 s v z I t y G d;have o:=X1.wf p;have n:=Ext.alloc a (.cells 7 [.int .i64 g,us,uo,ut,.int .i64 f,.int .i64 c,.int .i64 b]);have w:(a.alloc (.cells 7 [.int .i64 g,us,uo,ut,.int .i64 f,.int .i64 c,.int .i64 b])).ld ⟨a.nx,0,none⟩=some (.int .i64 g):=ai o rfl;have D:(a.alloc (.cells 7 [.int .i64 g,us,uo,ut,.int .i64 f,.int .i64 c,.int .i64 b])).ld ⟨a.nx,1,none⟩=some us:=ai o rfl;have R:(a.alloc (.cells 7 [.int .i64 g,us,uo,ut,.int .i64 f,.int .i64 c,.int .i64 b])).ld ⟨a.nx,2,none⟩=some uo:=ai o rfl;have e3:(a.alloc (.cells 7 [.int .i64 g,us,uo,ut,.int .i64 f,.int .i64 c,.int .i64 b])).ld ⟨a.nx,3,none⟩=some ut:=ai o rfl;have C:(a.alloc (.cells 7 [.int .i64 g,us,uo,ut,.int .i64 f,.int .i64 c,.int .i64 b])).ld ⟨a.nx,4,none⟩=some (.int .i64 f):=ai o rfl;have Q:(a.alloc (.cells 7 [.int .i64 g,us,uo,ut,.int .i64 f,.int .i64 c,.int .i64 b])).ld ⟨a.nx,5,none⟩=some (.int .i64 c):=ai o rfl;have e6:(a.alloc (.cells 7 [.int .i64 g,us,uo,ut,.int .i64 f,.int .i64 c,.int .i64 b])).ld ⟨a.nx,6,none⟩=some (.int .i64 b):=ai o rfl;have e:(a.alloc (.cells 7 [.int .i64 g,us,uo,ut,.int .i64 f,.int .i64 c,.int .i64 b])).ldn ⟨a.nx,0,none⟩ 7=some [.int .i64 g,us,uo,ut,.int .i64 f,.int .i64 c,.int .i64 b]:=bj o 7 rfl;generalize A:a.alloc (.cells 7 [.int .i64 g,us,uo,ut,.int .i64 f,.int .i64 c,.int .i64 b])=m at n w D R e3 C Q e6 e;have jL:=n.wf o;replace s:=n.ld s;replace v:=n.ld v;replace z:=n.ld z;replace I:=n.ld I;replace t:=n.ld t;replace y:=n.ld y;replace G:=n.ld G;have X:=X1.trans n;simp only at a1 a2 a3 s1 s2 s3 b1 b2 b3;have N:=sD (H:=m) (ep.ext X a1) (ep.ext X b1) (by omega);have k2:=Gr (H:=m) (a2.ext X) (b2.ext X) (by omega);have k3:=zT (H:=m) (a3.ext X) (b3.ext X) (by omega)
 obtain ⟨F,hF⟩:∃F,decide ((⟨l,M,rc,rd,j,i,rg⟩:pg)=⟨g,L,K,J,f,c,b⟩)=F:=⟨_,rfl⟩
 rw [hF];have no:∀{P:Prop},((⟨l,M,rc,rd,j,i,rg⟩:pg)=⟨g,L,K,J,f,c,b⟩→P)→¬ P→F=false:=fun h1 h2=>by rw [←hF,decide_eq_false_iff_not];exact fun q=>h2 (h1 q)
 by_cases Z:l=g
 case neg=>
  have:=no (P:=l=g) (fun q=>by cases q;rfl) Z;simp (maxSteps:=9^7)-implicitDefEqProofs+contextual [-X.ev,LM,B,A,s,w,Z,this,X]
 subst Z;by_cases Y:M=L
 case neg=>
  have:=no (P:=M=L) (fun q=>by cases q;rfl) Y;simp (maxSteps:=9^7)-implicitDefEqProofs+contextual [-X.ev,LM,B,A,s,w,v,D];apply ah
  ·(simp-implicitDefEqProofs [-X.ev];rfl)
  refine (N).mono ?_;rintro x m ⟨rfl,rfl⟩;simp (maxSteps:=9^7)-implicitDefEqProofs+contextual [-X.ev,Y,this,X]
 subst Y;by_cases W:rc=K
 case neg=>
  have:=no (P:=rc=K) (fun q=>by cases q;rfl) W;simp (maxSteps:=9^7)-implicitDefEqProofs+contextual [-X.ev,LM,B,A,s,w,v,D];apply ah
  ·(simp-implicitDefEqProofs [-X.ev];rfl)
  refine (N).mono ?_;rintro x m ⟨rfl,rfl⟩;simp (maxSteps:=9^7)-implicitDefEqProofs+contextual [-X.ev,z,R];apply ah
  ·(simp-implicitDefEqProofs [-X.ev];rfl)
  refine (k2).mono ?_;rintro x m ⟨rfl,rfl⟩;simp (maxSteps:=9^7)-implicitDefEqProofs+contextual [-X.ev,W,this,X]
 subst W;by_cases V:rd=J
 case neg=>
  have:=no (P:=rd=J) (fun q=>by cases q;rfl) V;simp (maxSteps:=9^7)-implicitDefEqProofs+contextual [-X.ev,LM,B,A,s,w,v,D];apply ah
  ·(simp-implicitDefEqProofs [-X.ev];rfl)
  refine (N).mono ?_;rintro x m ⟨rfl,rfl⟩;simp (maxSteps:=9^7)-implicitDefEqProofs+contextual [-X.ev,z,R];apply ah
  ·(simp-implicitDefEqProofs [-X.ev];rfl)
  refine (k2).mono ?_;rintro x m ⟨rfl,rfl⟩;simp (maxSteps:=9^7)-implicitDefEqProofs+contextual [-X.ev,I,e3];apply ah
  ·(simp-implicitDefEqProofs [-X.ev];rfl)
  refine (k3).mono ?_;rintro x m ⟨rfl,rfl⟩;simp (maxSteps:=9^7)-implicitDefEqProofs+contextual [-X.ev,V,this,X]
 subst V;simp (maxSteps:=9^7)-implicitDefEqProofs+contextual [-X.ev,LM,B,A,s,w,v,D];apply ah
 ·(simp-implicitDefEqProofs [-X.ev];rfl)
 refine (N).mono ?_;rintro x m ⟨rfl,rfl⟩;simp (maxSteps:=9^7)-implicitDefEqProofs+contextual [-X.ev,z,R];apply ah
 ·(simp-implicitDefEqProofs [-X.ev];rfl)
 refine (k2).mono ?_;rintro x m ⟨rfl,rfl⟩;simp (maxSteps:=9^7)-implicitDefEqProofs+contextual [-X.ev,I,e3];apply ah
 ·(simp-implicitDefEqProofs [-X.ev];rfl)
 refine (k3).mono ?_;rintro x m ⟨rfl,rfl⟩;by_cases U:j=f
 case neg=>
  have:=no (P:=j=f) (fun q=>by cases q;rfl) U;simp (maxSteps:=9^7)-implicitDefEqProofs+contextual [-X.ev,t,C,U,this,X]
 subst U;by_cases T:i=c
 case neg=>
  have:=no (P:=i=c) (fun q=>by cases q;rfl) T;simp (maxSteps:=9^7)-implicitDefEqProofs+contextual [-X.ev,t,C,y,Q,T,this,X]
 subst T;by_cases S:rg=b
 case neg=>
  have:=no (P:=rg=b) (fun q=>by cases q;rfl) S;simp (maxSteps:=9^7)-implicitDefEqProofs+contextual [-X.ev,t,C,y,Q,G,e6,S,this,X]
 subst S;have hT:F=true:=by rw [←hF];simp
 simp (maxSteps:=9^7)-implicitDefEqProofs+contextual [-X.ev,t,C,y,Q,G,e6,hT,X]
open Go
theorem da.ne {H:AH} {f s2 b:Nat} {v1 e:Value} {i g:List (List Value)} (h:da H f v1 i) (k:da H s2 e g) (hs:f≠s2) (c:aU v1 b):¬ aU e b:=by
 intro a;rcases h.is with⟨rfl,_⟩|⟨m,rfl,_,j⟩
 ·exact dv _ _ _ c
 rcases k.is with⟨rfl,_⟩|⟨l,rfl,_,d⟩
 ·exact dv _ _ _ a
 rw [aS]at c a;subst c;subst a;rw [j]at d;simp only [apH,pG.cells.injEq]at d;exact hs d.1
theorem Kt {G H:AH} {m:Nat} {p:eD} {ps:List Int} {v:MV} {c:dS} (h:jC G H m p ps v c):
 Ca E O 19 [.pointer (some ⟨m,0,none⟩)] H (fun x H'=>∃R v',x= .pointer (some ⟨R,0,none⟩)∧jC G H' R p ps v' c∧Ext H H'∧∀b,Mf R v' b→H.nx≤b):=by
 refine Ca.aJ (F:=Ra) rfl rfl rfl ?_;obtain ⟨rows,i,wv,qK⟩:=h.is;obtain ⟨m1,m2,m3,m4,m5,m6⟩:=h.mt;have s:=i.wf;have ltm:=i.lt (.inl rfl);have S:H.ldn ⟨m,0,none⟩ 14=some v.cells:=by rw [bM i.get i.n0 (by simp)];rfl
 obtain ⟨H1,s1,I,DH,Z,g1⟩:=fC s (z:=14) (c:=[.slice none 0 0, .int .i64 0, .slice none 0 0, .slice none 0 0, .int .i64 0, .slice none 0 0, .int .i64 0, .slice none 0 0, .slice none 0 0, .slice none 0 0, .int .i64 0, .int .i64 0, .int .i64 0, .bool false]) (vs:=v.cells) rfl;have jK:=I.wf s;have Y:=i.ext I;have r0:=aI Y.get Y.n0 (k:=0) (v:=v.vf) rfl;have RO:=h.inv.fuel;simp (maxSteps:=9^7)-implicitDefEqProofs+contextual [-X.ev,Ra,S,s1,r0];apply ah
 · (simp-implicitDefEqProofs [-X.ev];rfl)
 refine (kB (f:=54) (sz:=2) (bytes:=32) rfl rfl jK Y.fr.rows (by omega) (by omega)).mono ?_;rintro d H2 ⟨Q,o,M⟩;have gT:=o.wf jK;have x1:=I.nx;have x2:=o.nx;obtain ⟨H3,s3,W,qx,lF,g3⟩:=bV (o.get g1) (by rw [o.n0,Z];exact s) (k:=0) (vs:=[d]) (by simp);have U:aM v.cells 0 [d]=d::v.rest:=by simp [aM]
 rw [U]at g3;obtain ⟨fa,fc,Y1⟩:=Q.shape;have y:=(i.ext (I.trans o)).mod W (fun b a q=>by have:=i.lt q;omega) (fun b a=>AH.iF (by have:=i.sub.nx;omega))
 have l6:H3.ldn ⟨m,6,none⟩ 7=some [.int .i64 c.run.en,v.vs,v.vo,v.vt, .int .i64 c.run.cost, .int .i64 c.run.used, .int .i64 c.run.wh]:=by
  rw [bM y.get y.n0 (by simp)];show some [Value.int .i64 v.en,v.vs,v.vo,v.vt, .int .i64 v.cost, .int .i64 v.used, .int .i64 v.wh]=_;rw [m1,m2,m3,m4];rfl
 have key:=ui (r:=c.run) y.wf y.st.rows y.ou.rows y.tr.rows (gY h.inv);have i1:cN d=false:=by rw [Y1];rfl
 have v1:aW d=[d]:=by rw [Y1];rfl
 simp (maxSteps:=9^7)-implicitDefEqProofs+contextual [-X.ev,i1,v1,s3,l6];apply ah
 · (simp-implicitDefEqProofs [-X.ev];rfl)
 refine (key).mono ?_;rintro xx H4 ⟨cs,rfl,hc,D⟩;obtain ⟨A,B,lR,rfl,os,oo,ot,g⟩:=hc.is;have x4:=D.nx;obtain ⟨H5,s5,J,L3,yz,g5⟩:=bV (D.get g3) (by rw [D.n0,lF,o.n0,Z];exact s) (k:=6) (vs:=[.int .i64 c.run.en,A,B,lR, .int .i64 c.run.cost, .int .i64 c.run.used, .int .i64 c.run.wh]) (by simp)
 obtain ⟨v',n⟩:∃v':MV,(⟨d,v.w,v.vv,v.vb,v.fuel,v.vp,c.en,A,B,lR,c.cost,c.used,c.wh,v.ended⟩:MV)=v':=⟨_,rfl⟩
 have T:aM (d::v.rest) 6 [.int .i64 c.run.en,A,B,lR, .int .i64 c.run.cost, .int .i64 c.run.used, .int .i64 c.run.wh]=v'.cells:=by rw [←n];rfl
 rw [T]at g5;simp (maxSteps:=9^7)-implicitDefEqProofs+contextual [-X.ev,s5];have P:Ext H H5:=(((I.trans o).mod W (fun b a=>by omega)).trans D).mod J (fun b a=>by omega);have l:da H5 2 d rows:=((Q.mod W (fun b a q=>by have:=M b a;omega)).ext D).mod J (fun b a q=>by have:=M b a;omega);have L:da H5 1 A (bC c.store):=os.mod J (fun b a q=>by have:=g b (.inl a);omega);have j:da H5 2 B (dw c.outs):=oo.mod J (fun b a q=>by have:=g b (.inr (.inl a));omega);have K:da H5 3 lR (cU c.trace):=ot.mod J (fun b a q=>by have:=g b (.inr (.inr a));omega);have e:v'.vf=d∧v'.vs=A∧v'.vo=B∧v'.vt=lR:=by rw [←n];exact ⟨rfl,rfl,rfl,rfl⟩
 obtain ⟨N,C,u,t⟩:=e
 have pf:∀b,Mf H.nx v' b→H.nx≤b:=fun b a=>by
  unfold Mf at a;rw [N,C,u,t]at a;rcases a with q|q|q|q|q
  · omega
  · have:=M b q;omega
  · have:=g b (.inl q);omega
  · have:=g b (.inr (.inl q));omega
  · have:=g b (.inr (.inr q));omega
 have V:MH G H5 H.nx v' rows c.store c.outs c.trace:=
  {get:=g5,n0:=by rw [P.n0];exact s,sub:=i.sub.JZ P,wf:=P.wf s,fr:=by rw [N];exact l.Kf,st:=by rw [C];exact L,ou:=by rw [u];exact j,tr:=by rw [t];exact K
   d1:=by
    rw [N,C,u,t];exact ⟨fun q=>by have:=M _ q;omega,fun q=>by have:=g _ (.inl q);omega,fun q=>by have:=g _ (.inr (.inl q));omega,fun q=>by have:=g _ (.inr (.inr q));omega⟩
   d2:=by
    rw [N,C,u,t]
    exact fun b a=>⟨l.ne L (by omega) a,fun q=>by have:=g _ (.inr (.inl q));have:=Q.lt a;omega,l.ne K (by omega) a⟩
   d3:=by
    rw [C,u,t]
    exact fun b a=>⟨L.ne j (by omega) a,L.ne K (by omega) a⟩
   d4:=by
    rw [u,t];exact fun b a=>j.ne K (by omega) a
   out:=fun b a=>AH.iF (by have:=i.sub.nx;have:=pf b a;omega)}
 exact ⟨v',{is:=⟨rows,V,wv,qK⟩,w:=by rw [←n];exact h.w,vars:=by rw [←n];exact h.vars,cap:=by rw [←n];exact h.cap,bz:=by rw [←n];exact h.bz,mt:=by rw [←n];exact ⟨rfl,rfl,rfl,rfl,m5,m6⟩,inv:=h.inv,ov:=h.ov},P,pf⟩
end
section
open Go
theorem uk {G H:AH} {m:Nat} {p:eD} {ps:List Int} {v:MV} {c:dS} (h:jC G H m p ps v c):
 Ca E O 12 [.pointer (some ⟨m,0,none⟩)] H (fun x H'=>da H' 1 x (bC c.store)∧Ext H H'∧∀b,aU x b→H.nx≤b):=by
 refine Ca.aJ (F:=Q9) rfl rfl rfl ?_;obtain ⟨rows,a,n,j⟩:=h.is;have d:=aI a.get a.n0 (k:=7) (v:=v.vs) rfl;have g:=(gY h.inv).1;simp (maxSteps:=9^7)-implicitDefEqProofs+contextual [-X.ev,Q9,d];apply ah
 ·(simp-implicitDefEqProofs [-X.ev];rfl)
 refine (kC (l:=c.store) a.wf a.st.ints g).mono ?_;rintro x o ⟨e,i,f⟩;simp (maxSteps:=9^7)-implicitDefEqProofs+contextual [-X.ev];exact ⟨e,i,f⟩
def lI (c:dS):Int:=match c.todo with|[]=>0|it::_=>it.1
theorem Gs {G H:AH} {m:Nat} {p:eD} {ps:List Int} {v:MV} {c:dS} (h:jC G H m p ps v c):
 Ca E O 30 [.pointer (some ⟨m,0,none⟩)] H (fun x H'=>x= .tuple #[.int .i64 (lI c),.bool (!cW c)]∧Ext H H'):=by
 refine Ca.aJ (F:=LN) rfl rfl rfl ?_;obtain ⟨rows,a,N,I⟩:=h.is;obtain ⟨m1,Z,Y,W,V,t⟩:=h.mt;have d:=aI a.get a.n0 (k:=13) (v:=.bool v.ended) rfl
 cases b:c.dG with
 |true=>
  have n:=h.ov b;rw [t,b]at d;have i:cW c=true:=by simp [cW,b]
  have g:lI c=0:=by simp [lI,n]
  simp (maxSteps:=9^7)-implicitDefEqProofs+contextual [-X.ev,LN,d,i,g];exact Ext.refl _
 |false=>
  rw [t,b]at d;have RO:=h.inv.fuel;obtain ⟨Q,y,e⟩:=N b;rcases List.eq_nil_or_concat Q with rfl|⟨eK,f,u⟩
  ·have J:=sT y
   subst J;have n:c.todo=[]:=e;have i:cW c=true:=by simp [cW,n]
   have g:lI c=0:=by simp [lI,n]
   simp (maxSteps:=9^7)-implicitDefEqProofs+contextual [-X.ev,LN,d];apply ah
   ·(simp-implicitDefEqProofs [-X.ev];rfl)
   refine (xF a.wf a.get a.n0 a.fr).mono ?_;rintro x S ⟨rfl,j⟩;obtain ⟨R,o,q,A,B,P⟩:=fC (j.wf a.wf) (z:=5) (c:=zS) (vs:=zS) rfl;simp (maxSteps:=9^7)-implicitDefEqProofs+contextual [-X.ev,o,i,g];exact j.trans q
  ·rw [List.concat_eq_append]at u
   subst u;obtain ⟨U,r,rfl,h0,T,rs,rfl,K,M,Ei,L,fJ⟩:=mS y;obtain ⟨C,k⟩:=f
   cases M with
   |nil=>exact absurd rfl L
   | @cons cs s rs l D hl=>
   rw [gX,jB]at e;simp only [List.cons_append]at e;have w:=D.len;simp only [apP,List.length_singleton]at I;have i:cW c=false:=by simp [cW,b,e]
   have g:lI c=k:=by simp [lI,e]
   simp (maxSteps:=9^7)-implicitDefEqProofs+contextual [-X.ev,LN,d];apply ah
   ·(simp-implicitDefEqProofs [-X.ev];rfl)
   refine (Bk a.wf a.get a.n0 a.fr (by omega) a.sub K).mono ?_;rintro x S ⟨rfl,j⟩;obtain ⟨R,o,q,A,B,P⟩:=fC (j.wf a.wf) (z:=5) (c:=zS) (vs:=cs) w;simp (maxSteps:=9^7)-implicitDefEqProofs+contextual [-X.ev,w,o,i,g];exact j.trans q
end
namespace P
open Go Go.RowKit
def Ku:Value→Bool
 | .bool _| .int _ _| .string _| .pointer _| .slice _ _ _| .map _| .nilFunc| .nilIface=>true
 |_=>false
inductive PV where
 |v (x:Value)
 |ref (b o t:Nat)
 |sl (sz b o n c:Nat)
 |mp (b:Nat)
 |fs (sz:Nat) (rows:List (List PV))
 |fp (cells:List PV)
 |agg (cs:List PV)
 |kG (cs:List PV)
 |fn (f:Nat) (first cap:List PV)
 |pj (t:Nat) (p:PV)
 |any
inductive PB where
 |cells (z:Nat) (cs:List PV)
 |map (es:List (Value×PV))
 |dead
abbrev PH:=List PB
structure Cx where
 F:Nat→Prop
 H:AH
 φ:Nat→Nat
 h:PH
mutual
inductive RF (F:Nat→Prop) (H:AH):PV→Value→Prop
 |v (x:Value):RF F H (.v x) x
 |fs {sz:Nat} {rows:List (List PV)} {a:Option Addr} {c:Nat} {rs:List (List Value)}:Rows H sz (.slice a rows.length c) rs→rows.length≤c→(∀d,a=some d→(d.spot=none∨c=0)∧(rows.length=0∨(F d.block∧H.lz d.block sz=true)))→ll F H rows rs→RF F H (.fs sz rows) (.slice a rows.length c)
inductive gg (F:Nat→Prop) (H:AH):List PV→List Value→Prop
 |nil:gg F H [] []
 |cons {p:PV} {x:Value} {ps:List PV} {xs:List Value}:RF F H p x→gg F H ps xs→gg F H (p::ps) (x::xs)
inductive ll (F:Nat→Prop) (H:AH):List (List PV)→List (List Value)→Prop
 |nil:ll F H [] []
 |cons {p:List PV} {x:List Value} {ps:List (List PV)} {xs:List (List Value)}:gg F H p x→ll F H ps xs→ll F H (p::ps) (x::xs)
end
def At (h:PH) (b t:Nat):Prop:=∃z cs,h[b]?=some (.cells z cs)∧cs.length=t
def Le (h:PH) (b t:Nat):Prop:=∀z cs,h[b]?=some (.cells z cs)→t≤cs.length
def db (h:PH) (b:Nat):Prop:=∃es,h[b]?=some (.map es)
def aY (h:PH) (b:Nat):Prop:=db h b∨∃t,At h b (t+1)
def slV (a sz o n c:Nat) (x:Value):Prop:=(c=0∧n=0∧∃d:Option Addr,x= .slice d 0 0∧∀e,d=some e→e.spot=none)∨(0<c∧x= .slice (some ⟨a,o*sz,none⟩) n c)
def Y4 (n:Nat) (x:Value):Prop:=∃a c,x= .slice a n c
theorem Y4.sm {n:Nat} {x:Value} (h:Y4 n x):Ku x=true:=by
 obtain ⟨_,_,rfl⟩:=h;rfl
mutual
inductive RV (C:Cx):PV→Value→Prop
 |v (x:Value):RV C (.v x) x
 |ref {b o t:Nat} {x:Value}:Ku x=true→b<C.h.length→Le C.h b t→(At C.h b t→x= .pointer (some ⟨C.φ b,o,none⟩))→RV C (.ref b o t) x
 |sl {sz b o n c:Nat} {x:Value}:Y4 n x→b<C.h.length→Le C.h b ((o+c)*sz)→(At C.h b ((o+c)*sz)→slV (C.φ b) sz o n c x)→RV C (.sl sz b o n c) x
 |mp {b:Nat} {x:Value}:Ku x=true→b<C.h.length→(db C.h b→x= .map (some (C.φ b)))→RV C (.mp b) x
 |fs {sz:Nat} {rows:List (List PV)} {x:Value}:RF C.F C.H (.fs sz rows) x→RV C (.fs sz rows) x
 |fp {cells:List PV} {b o:Nat} {vs:List Value}:C.F b→C.H.ldn ⟨b,o,none⟩ cells.length=some vs→gg C.F C.H cells vs→RV C (.fp cells) (.pointer (some ⟨b,o,none⟩))
 |agg {cs:List PV} {xs:List Value}:cK C cs xs→RV C (.agg cs) (.agg xs.toArray)
 |kG {cs:List PV} {xs:List Value}:cK C cs xs→RV C (.kG cs) (.tuple xs.toArray)
 |fn {f:Nat} {a b:List PV} {xs ys:List Value}:cK C a xs→cK C b ys→RV C (.fn f a b) (.func (.func f) xs.toArray ys.toArray)
 |pj {t:Nat} {p:PV} {x:Value}:RV C p x→RV C (.pj t p) (.iface t x)
 |any (x:Value):RV C .any x
inductive cK (C:Cx):List PV→List Value→Prop
 |nil:cK C [] []
 |cons {p:PV} {x:Value} {ps:List PV} {xs:List Value}:RV C p x→cK C ps xs→cK C (p::ps) (x::xs)
end
theorem cK.length {C:Cx}:∀{ps:List PV} {xs:List Value},cK C ps xs→ps.length=xs.length
 |_,_,.nil=>rfl
 |_,_,.cons _ h=>by simp [cK.length h]
theorem gg.length {F:Nat→Prop} {H:AH}:∀{ps:List PV} {xs:List Value},gg F H ps xs→ps.length=xs.length
 |_,_,.nil=>rfl
 |_,_,.cons _ h=>by simp [gg.length h]
theorem ll.length {F:Nat→Prop} {H:AH}:∀{ps:List (List PV)} {xs:List (List Value)},ll F H ps xs→ps.length=xs.length
 |_,_,.nil=>rfl
 |_,_,.cons _ h=>by simp [ll.length h]
structure eu (C:Cx):Prop where
 wf:C.H.n0≤C.H.nx
 fz:∀x,C.F x→x<C.H.nx
 inj:∀b b',aY C.h b→aY C.h b'→C.φ b=C.φ b'→b=b'
 aU:∀b z cs,C.h[b]?=some (.cells z cs)→cs≠[]→∃vs,C.H.get (C.φ b)=some (.cells z vs)∧cK C cs vs∧C.H.n0≤C.φ b∧¬ C.F (C.φ b)
 um:∀b es,C.h[b]?=some (.map es)→∃ys,C.H.get (C.φ b)=some (.map ys)∧es.map (·.1)=ys.map (·.1)∧cK C (es.map (·.2)) (ys.map (·.2))∧C.H.n0≤C.φ b∧¬ C.F (C.φ b)
def im (C:Cx) (W:Nat→Prop) (x:Nat):Prop:=∃b,W b∧aY C.h b∧C.φ b=x
structure dR (n:Nat) (W:Nat→Prop) (C D:Cx):Prop where
 n0:D.H.n0=C.H.n0
 nx:C.H.nx≤D.H.nx
 fz:∀x,C.F x→D.F x∧D.H.get x=C.H.get x
 fo:∀x,x<C.H.nx→¬ im C (fun _=>True) x→D.F x→C.F x
 out:∀x,x<C.H.nx→¬ im C W x→D.H.get x=C.H.get x
 loc:∀b,aY D.h b→C.H.nx≤D.φ b∨(aY C.h b∧D.φ b=C.φ b)
 len:n≤C.h.length→n≤D.h.length
 le:∀b,b<n→b<C.h.length→∀t,Le C.h b t→Le D.h b t
 uq:∀b,b<n→b<C.h.length→∀t,Le C.h b t→At D.h b t→At C.h b t∧D.φ b=C.φ b
 vH:∀b,b<n→b<C.h.length→db D.h b→db C.h b∧D.φ b=C.φ b
theorem dR.mono {n m:Nat} {W V:Nat→Prop} {C D:Cx} (h:dR n W C D) (c:m≤n) (f:∀b,W b→V b) (e:m≤C.h.length→m≤D.h.length):dR m V C D where
 n0:=h.n0
 nx:=h.nx
 fz:=h.fz
 fo:=h.fo
 out:=fun x d k=>h.out x d fun⟨b,a,q⟩=>k ⟨b,f b a,q⟩
 loc:=h.loc
 len:=e
 le:=fun b a=>h.le b (ap3 a c)
 uq:=fun b a=>h.uq b (ap3 a c)
 vH:=fun b a=>h.vH b (ap3 a c)
theorem im.lt {C:Cx} (S:eu C) {W:Nat→Prop} {x:Nat} (h:im C W x):x<C.H.nx:=by
 obtain ⟨b,_,f,rfl⟩:=h;rcases f with⟨es,c⟩|⟨t,z,cs,c,d⟩
 ·obtain ⟨_,a,_⟩:=S.um b es c
  exact AH.bk a
 ·obtain ⟨_,a,_⟩:=S.aU b z cs c (by intro e;subst e;simp at d)
  exact AH.bk a
theorem dR.refl (n:Nat) (W:Nat→Prop) (C:Cx):dR n W C C where
 n0:=rfl
 nx:=apK _
 fz:=fun x a=>⟨a,rfl⟩
 fo:=fun _ _ _ h=>h
 out:=fun _ _ _=>rfl
 loc:=fun b c=>.inr ⟨c,rfl⟩
 len:=id
 le:=fun _ _ _ _ h=>h
 uq:=fun _ _ _ _ _ h=>⟨h,rfl⟩
 vH:=fun _ _ _ h=>⟨h,rfl⟩
theorem dR.trans {n:Nat} {V W U:Nat→Prop} {C D X:Cx} (h:dR n V C D) (k:dR n W D X) (m:n≤C.h.length) (z:∀b,V b→U b) (y:∀b,W b→U b):dR n U C X where
 n0:=k.n0.trans h.n0
 nx:=ap2 h.nx k.nx
 fz:=fun x i=>by
  obtain ⟨a,b⟩:=h.fz x i;obtain ⟨c,d⟩:=k.fz x a;exact ⟨c,d.trans b⟩
 fo:=fun x i hi w=>by
  refine h.fo x i hi (k.fo x (ap3 i h.nx) ?_ w);rintro ⟨b,_,j,rfl⟩;rcases h.loc b j with q|⟨q,e⟩
  ·omega
  ·exact hi ⟨b,trivial,q,e.symm⟩
 out:=fun x i hi=>by
  have e:=h.out x i fun⟨b,f,q⟩=>hi ⟨b,z b f,q⟩
  rw [←e];refine k.out x (ap3 i h.nx) ?_;rintro ⟨b,f,j,rfl⟩;rcases h.loc b j with q|⟨q,e⟩
  ·omega
  ·exact hi ⟨b,y b f,q,e.symm⟩
 loc:=fun b f=>by
  rcases k.loc b f with q|⟨j,e⟩
  ·exact .inl (ap2 h.nx q)
  ·rcases h.loc b j with q|⟨v,A⟩
   ·exact .inl (by omega)
   ·exact .inr ⟨v,e.trans A⟩
 len:=fun g=>k.len (h.len g)
 le:=fun b f g t l=>k.le b f (ap3 f (h.len m)) t (h.le b f g t l)
 uq:=fun b f g t l o=>by
  obtain ⟨u,s⟩:=k.uq b f (ap3 f (h.len m)) t (h.le b f g t l) o;obtain ⟨r,p⟩:=h.uq b f g t l u;exact ⟨r,s.trans p⟩
 vH:=fun b f g o=>by
  obtain ⟨u,s⟩:=k.vH b f (ap3 f (h.len m)) o;obtain ⟨r,p⟩:=h.vH b f g u;exact ⟨r,s.trans p⟩
theorem Gt {H H':AH} {b sz:Nat} (h:H'.get b=H.get b):H'.lz b sz=H.lz b sz:=by unfold AH.lz;rw [h]
section
variable{F F':Nat→Prop} {H H':AH} (n0:H'.n0=H.n0) (hF:∀x,F x→F' x∧H'.get x=H.get x)
theorem Rows.fz {sz:Nat} {a:Option Addr} {n c:Nat} {rs:List (List Value)} (n0:H'.n0=H.n0) (hF:∀x,F x→F' x∧H'.get x=H.get x) (h:Rows H sz (.slice a n c) rs) (k:∀d,a=some d→(d.spot=none∨c=0)∧(n=0∨(F d.block∧H.lz d.block sz=true))):Rows H' sz (.slice a n c) rs∧(∀d,a=some d→(d.spot=none∨c=0)∧(n=0∨(F' d.block∧H'.lz d.block sz=true))):=by
 obtain ⟨s,p,e,q⟩:=h.is;cases e;refine ⟨⟨_,_,rfl,fun i r hi=>?_⟩,fun d g=>?_⟩
 ·obtain ⟨b,o,rfl,m⟩:=q i r hi
  refine ⟨b,o,rfl,?_⟩;rcases (k _ rfl).2 with j|⟨f,_⟩
  ·have:=(apM.1 hi).1;omega
  ·rw [←m]
   exact eS (hF b f).2 n0
 ·refine ⟨(k d g).1,?_⟩
  rcases (k d g).2 with j|⟨f,l⟩
  ·exact .inl j
  ·exact .inr ⟨(hF _ f).1,by rw [Gt (hF _ f).2];exact l⟩
mutual
theorem RF.mono (n0:H'.n0=H.n0) (hF:∀x,F x→F' x∧H'.get x=H.get x):∀{p:PV} {x:Value},RF F H p x→RF F' H' p x
 |_,_,.v x=>.v x
 |_,_,.fs b c d a=>let q:=Rows.fz n0 hF b d; .fs q.1 c q.2 (ll.mono n0 hF a)
theorem gg.mono (n0:H'.n0=H.n0) (hF:∀x,F x→F' x∧H'.get x=H.get x):∀{p:List PV} {x:List Value},gg F H p x→gg F' H' p x
 |_,_,.nil=>.nil
 |_,_,.cons a b=>.cons (RF.mono n0 hF a) (gg.mono n0 hF b)
theorem ll.mono (n0:H'.n0=H.n0) (hF:∀x,F x→F' x∧H'.get x=H.get x):∀{p:List (List PV)} {x:List (List Value)},ll F H p x→ll F' H' p x
 |_,_,.nil=>.nil
 |_,_,.cons a b=>.cons (gg.mono n0 hF a) (ll.mono n0 hF b)
end
end
mutual
theorem RV.step {W:Nat→Prop} {C D:Cx} (h:dR C.h.length W C D):∀{p:PV} {x:Value},RV C p x→RV D p x
 |_,_, .v x=> .v x
 |_,_, .ref f c d k=> .ref f (ap3 c (h.len (apK _))) (h.le _ c c _ d) fun e=>by
  obtain ⟨i,g⟩:=h.uq _ c c _ d e;rw [g];exact k i
 |_,_, .sl f c d k=> .sl f (ap3 c (h.len (apK _))) (h.le _ c c _ d) fun e=>by
  obtain ⟨i,g⟩:=h.uq _ c c _ d e;rw [g];exact k i
 |_,_, .mp f c k=> .mp f (ap3 c (h.len (apK _))) fun e=>by
  obtain ⟨i,g⟩:=h.vH _ c c e;rw [g];exact k i
 |_,_, .fs k=> .fs (k.mono h.n0 h.fz)
 |_,_, .fp j d k=> .fp (h.fz _ j).1 (by rw [←d];exact eS (h.fz _ j).2 h.n0) (k.mono h.n0 h.fz)
 |_,_, .agg k=> .agg (cK.step h k)
 |_,_, .kG k=> .kG (cK.step h k)
 |_,_, .fn a b=> .fn (cK.step h a) (cK.step h b)
 |_,_, .pj a=> .pj (RV.step h a)
 |_,_, .any x=> .any x
theorem cK.step {W:Nat→Prop} {C D:Cx} (h:dR C.h.length W C D):∀{p:List PV} {x:List Value},cK C p x→cK D p x
 |_,_, .nil=> .nil
 |_,_, .cons a b=> .cons (RV.step h a) (cK.step h b)
end
theorem cK.get {C:Cx}:∀{ps:List PV} {xs:List Value},cK C ps xs→∀{i:Nat} {p:PV},ps[i]?=some p→∃x,xs[i]?=some x∧RV C p x
 |_,_,.nil,i,p,h=>by simp at h
 |_,_,.cons a b,0,p,h=>by simp at h;subst h;exact ⟨_,rfl,a⟩
 |_,_,.cons a b,i+1,p,h=>by simpa using cK.get b (by simpa using h)
theorem cK.drop {C:Cx}:∀{ps:List PV} {xs:List Value},cK C ps xs→∀n,cK C (ps.drop n) (xs.drop n)
 |_,_,.nil,n=>by simp;exact .nil
 |_,_,.cons a b,0=>.cons a b
 |_,_,.cons a b,n+1=>by simpa using cK.drop b n
theorem cK.take {C:Cx}:∀{ps:List PV} {xs:List Value},cK C ps xs→∀n,cK C (ps.take n) (xs.take n)
 |_,_,.nil,n=>by simp;exact .nil
 |_,_,.cons a b,0=>.nil
 |_,_,.cons a b,n+1=>by simpa using cK.cons a (cK.take b n)
theorem cK.append {C:Cx}:∀{ps:List PV} {xs:List Value} {qs:List PV} {ys:List Value},cK C ps xs→cK C qs ys→cK C (ps++qs) (xs++ys)
 |_,_,_,_,.nil,k=>k
 |_,_,_,_,.cons a b,k=>.cons a (cK.append b k)
theorem cK.lits {C:Cx}:∀(l:List Value),cK C (l.map .v) l
 |[]=>.nil
 |x::l=>.cons (.v x) (cK.lits l)
theorem cK.VD {C:Cx} {ps:List PV} {xs:List Value} (h:cK C ps xs):∀n,cK C (List.replicate n ps).flatten (List.replicate n xs).flatten
 |0=>.nil
 |n+1=>by simpa [List.replicate_succ]using h.append (h.VD n)
theorem gg.pk {C:Cx}:∀{ps:List PV} {xs:List Value},gg C.F C.H ps xs→cK C ps xs
 |_,_,.nil=>.nil
 |_,_,.cons (.v x) b=>.cons (.v x) (gg.pk b)
 |_,_,.cons (.fs a b c d) e=>.cons (.fs (.fs a b c d)) (gg.pk e)
theorem RF.pk {C:Cx}:∀{p:PV} {x:Value},RF C.F C.H p x→RV C p x
 |_,_,.v x=>.v x
 |_,_,.fs a b c d=>.fs (.fs a b c d)
theorem gg.drop {F:Nat→Prop} {H:AH}:∀{ps:List PV} {xs:List Value},gg F H ps xs→∀n,gg F H (ps.drop n) (xs.drop n)
 |_,_,.nil,n=>by simp;exact .nil
 |_,_,.cons a b,0=>.cons a b
 |_,_,.cons a b,n+1=>by simpa using gg.drop b n
theorem gg.take {F:Nat→Prop} {H:AH}:∀{ps:List PV} {xs:List Value},gg F H ps xs→∀n,gg F H (ps.take n) (xs.take n)
 |_,_,.nil,n=>by simp;exact .nil
 |_,_,.cons a b,0=>.nil
 |_,_,.cons a b,n+1=>by simpa using gg.cons a (gg.take b n)
theorem ll.get {F:Nat→Prop} {H:AH}:∀{ps:List (List PV)} {xs:List (List Value)},ll F H ps xs→∀{i:Nat} {p:List PV},ps[i]?=some p→∃x,xs[i]?=some x∧gg F H p x
 |_,_,.nil,i,p,h=>by simp at h
 |_,_,.cons a b,0,p,h=>by simp at h;subst h;exact ⟨_,rfl,a⟩
 |_,_,.cons a b,i+1,p,h=>by simpa using ll.get b (by simpa using h)
theorem ll.drop {F:Nat→Prop} {H:AH}:∀{ps:List (List PV)} {xs:List (List Value)},ll F H ps xs→∀n,ll F H (ps.drop n) (xs.drop n)
 |_,_,.nil,n=>by simp;exact .nil
 |_,_,.cons a b,0=>.cons a b
 |_,_,.cons a b,n+1=>by simpa using ll.drop b n
theorem ll.take {F:Nat→Prop} {H:AH}:∀{ps:List (List PV)} {xs:List (List Value)},ll F H ps xs→∀n,ll F H (ps.take n) (xs.take n)
 |_,_,.nil,n=>by simp;exact .nil
 |_,_,.cons a b,0=>.nil
 |_,_,.cons a b,n+1=>by simpa using ll.cons a (ll.take b n)
theorem ll.flat {F:Nat→Prop} {H:AH}:∀{ps:List (List PV)} {xs:List (List Value)},ll F H ps xs→gg F H ps.flatten xs.flatten
 |_,_,.nil=>.nil
 |_,_,.cons a b=>by
  have ap:∀{ps:List PV} {xs:List Value} {d:List PV} {c:List Value},gg F H ps xs→gg F H d c→gg F H (ps++d) (xs++c):=by
   intro ps xs d c h k
   induction ps generalizing xs with
   |nil=>cases h;exact k
   |cons p ps ih=>cases h with|cons a b=>exact .cons a (ih b)
  simpa using ap a (ll.flat b)
end P
namespace P
open Go Go.RowKit
theorem dx {h a:PH} {b:Nat} (e:a[b]?=h[b]?):aY a b↔aY h b:=by unfold aY db At;rw [e]
theorem qz {h a:PH} {b t:Nat} (e:a[b]?=h[b]?):At a b t↔At h b t:=by unfold At;rw [e]
theorem qA {h a:PH} {b t:Nat} (e:a[b]?=h[b]?):Le a b t↔Le h b t:=by unfold Le;rw [e]
theorem fx {h a:PH} {b:Nat} (e:a[b]?=h[b]?):db a b↔db h b:=by unfold db;rw [e]
theorem cn {h:PH} {b z:Nat} {cs:List PV} (e:h[b]?=some (.cells z cs)) (a:cs≠[]):aY h b:=by
 refine .inr ⟨cs.length- 1,z,cs,e,?_⟩;have:=List.length_pos_iff.2 a;omega
theorem eZ {h:PH} {b:Nat} {es:List (Value×PV)} (e:h[b]?=some (.map es)):aY h b:=.inl ⟨es,e⟩
theorem kH {h:PH} {b:Nat} (s:aY h b):(∃es,h[b]?=some (.map es))∨∃z cs,h[b]?=some (.cells z cs)∧cs≠[]:=by
 rcases s with⟨es,e⟩|⟨t,z,cs,e,a⟩
 ·exact .inl ⟨es,e⟩
 ·exact .inr ⟨z,cs,e,by rintro rfl;simp at a⟩
theorem bu {h:PH} {b:Nat} (s:aY h b):b<h.length:=by
 rcases kH s with⟨es,e⟩|⟨z,cs,e,_⟩<;>exact (apM.1 e).1
theorem eu.lt {C:Cx} (S:eu C) {b:Nat} (s:aY C.h b):C.φ b<C.H.nx:=im.lt S (W:=fun _=>True) ⟨b,trivial,s,rfl⟩
theorem eu.old {C:Cx} (S:eu C) {b:Nat} (s:aY C.h b):C.H.n0≤C.φ b∧¬ C.F (C.φ b):=by
 rcases kH s with⟨es,e⟩|⟨z,cs,e,c⟩
 ·obtain ⟨_,_,_,_,a,b⟩:=S.um _ _ e;exact ⟨a,b⟩
 ·obtain ⟨_,_,_,a,b⟩:=S.aU _ _ _ e c;exact ⟨a,b⟩
theorem eu.of {C D:Cx} {W:Nat→Prop} (S:eu C) (T:dR C.h.length W C D) (o:D.F=C.F) (f:Nat) (g:∀b,b≠f→D.h[b]?=C.h[b]?∧D.φ b=C.φ b)
 (q:∀b,b≠f→aY C.h b→D.H.get (C.φ b)=C.H.get (C.φ b)) (p:∀b,b≠f→aY C.h b→aY D.h f→D.φ f≠C.φ b)
 (u:∀z cs,D.h[f]?=some (.cells z cs)→cs≠[]→∃vs,D.H.get (D.φ f)=some (.cells z vs)∧cK C cs vs∧D.H.n0≤D.φ f∧¬ D.F (D.φ f))
 (t:∀es,D.h[f]?=some (.map es)→∃ys,D.H.get (D.φ f)=some (.map ys)∧es.map (·.1)=ys.map (·.1)∧cK C (es.map (·.2)) (ys.map (·.2))∧D.H.n0≤D.φ f∧¬ D.F (D.φ f)):eu D where
 wf:=by rw [T.n0];exact ap2 S.wf T.nx
 fz:=fun x r=>ap3 (S.fz x (o▸r)) T.nx
 inj:=fun b k s m e=>by
  by_cases h:b=f
  ·by_cases i:k=f
   ·omega
   ·subst h
    have l:=(dx (g _ i).1).1 m;rw [(g _ i).2]at e;exact absurd e (p _ i l s)
  ·by_cases i:k=f
   ·subst i
    have l:=(dx (g _ h).1).1 s;rw [(g _ h).2]at e;exact absurd e.symm (p _ h l m)
   ·rw [(g _ h).2,(g _ i).2]at e
    exact S.inj _ _ ((dx (g _ h).1).1 s) ((dx (g _ i).1).1 m) e
 aU:=fun b z cs e n=>by
  by_cases h:b=f
  ·subst h
   obtain ⟨vs,a,b,c⟩:=u z cs e n;exact ⟨vs,a,b.step T,c⟩
  ·have j:=e
   rw [(g _ h).1]at j;obtain ⟨vs,a,k,c,d⟩:=S.aU _ _ _ j n;rw [(g _ h).2,o,T.n0];exact ⟨vs,(q _ h (cn j n)).trans a,k.step T,c,d⟩
 um:=fun b es e=>by
  by_cases h:b=f
  ·subst h
   obtain ⟨ys,a,b,c,d⟩:=t es e;exact ⟨ys,a,b,c.step T,d⟩
  ·have j:=e
   rw [(g _ h).1]at j;obtain ⟨ys,a,k,c,d⟩:=S.um _ _ j;rw [(g _ h).2,o,T.n0];exact ⟨ys,(q _ h (eZ j)).trans a,k,c.step T,d⟩
def Bs (φ:Nat→Nat) (b x:Nat):Nat→Nat:=fun c=>if c=b then x else φ c
theorem gZ (φ:Nat→Nat) (b x:Nat):Bs φ b x b=x:=by simp [Bs]
theorem mA {φ:Nat→Nat} {b x c:Nat} (h:c≠b):Bs φ b x c=φ c:=by simp [Bs,h]
theorem ke {h:PH} {P:PB} {b:Nat} (a:b≠h.length):(h++[P])[b]?=h[b]?:=by
 rcases Nat.lt_or_ge b h.length with k|k
 ·rw [apT k]
 ·rw [apX k,aql (by simp;omega),aql k]
theorem lq (h:PH) (P:PB):(h++[P])[h.length]?=some P:=by simp
theorem eu.new {C:Cx} (S:eu C) {P:PB} {B:pG} (W:Nat→Prop)
 (i:(∃z cs vs,P= .cells z cs∧B= .cells z vs∧cK C cs vs)∨(∃es ys,P= .map es∧B= .map ys∧es.map (·.1)=ys.map (·.1)∧cK C (es.map (·.2)) (ys.map (·.2)))):
 eu ⟨C.F,C.H.alloc B,Bs C.φ C.h.length C.H.nx,C.h++[P]⟩∧dR C.h.length W C ⟨C.F,C.H.alloc B,Bs C.φ C.h.length C.H.nx,C.h++[P]⟩:=by
 have T:dR C.h.length W C ⟨C.F,C.H.alloc B,Bs C.φ C.h.length C.H.nx,C.h++[P]⟩:={
  n0:=rfl
  nx:=ap7 _
  fz:=fun x d=>⟨d,by have:=S.fz x d;rw [AH.ey,if_neg (by omega)]⟩
  fo:=fun _ _ _ h=>h
  out:=fun x d _=>by rw [AH.ey,if_neg (by omega)]
  loc:=fun b a=>by
   by_cases h:b=C.h.length
   ·subst h;left;show _≤Bs _ _ _ _;rw [gZ];exact apK _
   ·right;exact ⟨(dx (ke h)).1 a,mA h⟩
  len:=fun _=>by simp
  le:=fun b a _ t k=>(qA (ke (by omega))).2 k
  uq:=fun b a _ t _ g=>⟨(qz (ke (by omega))).1 g,mA (by omega)⟩
  vH:=fun b a _ g=>⟨(fx (ke (by omega))).1 g,mA (by omega)⟩}
 refine ⟨S.of T rfl C.h.length (fun b a=>⟨ke a,mA a⟩) (fun b a s=>?_) (fun b a s _=>?_) (fun z cs e o=>?_) (fun es e=>?_),T⟩
 ·have:=S.lt s;show(C.H.alloc B).get _=_;rw [AH.ey,if_neg (by omega)]
 ·have:=S.lt s;show Bs _ _ _ _≠_;rw [gZ];omega
 ·have e:some P=some (.cells z cs):=(lq _ _).symm.trans e
  cases e;rcases i with⟨j,n,vs,c,rfl,f⟩|⟨es,ys,c,_⟩
  ·cases c
   refine ⟨vs,?_,f,?_,?_⟩<;>dsimp only<;>rw [gZ]
   ·exact cx _ _
   ·exact S.wf
   ·intro q;exact absurd (S.fz _ q) (Nat.lt_irrefl _)
  ·cases c
 ·have e:some P=some (.map es):=(lq _ _).symm.trans e
  cases e;rcases i with⟨j,n,vs,c,_⟩|⟨m,ys,c,rfl,l,f⟩
  ·cases c
  ·cases c
   refine ⟨ys,?_,l,f,?_,?_⟩<;>dsimp only<;>rw [gZ]
   ·exact cx _ _
   ·exact S.wf
   ·intro q;exact absurd (S.fz _ q) (Nat.lt_irrefl _)
theorem fy {h:PH} {P:PB} {b c:Nat} (a:c≠b):(h.set b P)[c]?=h[c]?:=ap4 (Ne.symm a)
theorem fi {h:PH} {P:PB} {b:Nat} (a:b<h.length):(h.set b P)[b]?=some P:=by simp [List.getElem?_set,a]
theorem eu.put {C:Cx} (S:eu C) {b z:Nat} {cs ds:List PV} {vs:List Value} {W:Nat→Prop} (v:W b) (l:C.h[b]?=some (.cells z cs)) (d:cs≠[]) (j:ds.length=cs.length) (u:cK C ds vs):
 eu ⟨C.F,C.H.put (C.φ b) (some (.cells z vs)),C.φ,C.h.set b (.cells z ds)⟩∧dR C.h.length W C ⟨C.F,C.H.put (C.φ b) (some (.cells z vs)),C.φ,C.h.set b (.cells z ds)⟩:=by
 have a:=cn l d;have i:=S.lt a;have f:=bu a;have w:ds≠[]:=by intro e;subst e;simp at j;exact d (ap9.1 j.symm)
 have m:∀t,At (C.h.set b (.cells z ds)) b t→At C.h b t:=by
  rintro t ⟨n,r,e,rfl⟩;rw [fi f]at e;cases e;exact ⟨z,cs,l,j.symm⟩
 have T:dR C.h.length W C ⟨C.F,C.H.put (C.φ b) (some (.cells z vs)),C.φ,C.h.set b (.cells z ds)⟩:={
  n0:=rfl
  nx:=apK _
  fz:=fun x k=>⟨k,by rw [AH.bR _ _ _ _ i,if_neg];rintro rfl;exact (S.old a).2 k⟩
  fo:=fun _ _ _ h=>h
  out:=fun x k hi=>by rw [AH.bR _ _ _ _ i,if_neg];rintro rfl;exact hi ⟨b,v,a,rfl⟩
  loc:=fun c p=>by
   right;by_cases h:c=b
   ·subst h;exact ⟨a,rfl⟩
   ·exact ⟨(dx (fy h)).1 p,rfl⟩
  len:=fun _=>by simp
  le:=fun c q _ t o=>by
   by_cases h:c=b
   ·subst h
    intro n r e;rw [fi f]at e;cases e;rw [j];exact o _ _ l
   ·exact (qA (fy h)).2 o
  uq:=fun c q _ t _ g=>by
   by_cases h:c=b
   ·subst h;exact ⟨m t g,rfl⟩
   ·exact ⟨(qz (fy h)).1 g,rfl⟩
  vH:=fun c q _ g=>by
   by_cases h:c=b
   ·subst h;obtain ⟨es,e⟩:=g;rw [fi f]at e;cases e
   ·exact ⟨(fx (fy h)).1 g,rfl⟩}
 refine ⟨S.of T rfl b (fun c d=>⟨fy d,rfl⟩) (fun c d s=>?_) (fun c d s _ e=>d (S.inj _ _ s a e.symm)) (fun n r e p=>?_) (fun es e=>?_),T⟩
 ·show(C.H.put _ _).get _=_
  rw [AH.bR _ _ _ _ i,if_neg];exact fun e=>d (S.inj _ _ s a e)
 ·have e:=(fi f).symm.trans e
  cases e;refine ⟨vs,?_,u,(S.old a)⟩;show(C.H.put _ _).get _=_;rw [AH.bR _ _ _ _ i,if_pos rfl]
 ·have e:=(fi f).symm.trans e
  cases e
theorem eu.aeb {C:Cx} (S:eu C) {b:Nat} {es fs:List (Value×PV)} {ys:List (Value×Value)} {W:Nat→Prop} (u:W b) (n:C.h[b]?=some (.map es)) (r:fs.map (·.1)=ys.map (·.1)) (p:cK C (fs.map (·.2)) (ys.map (·.2))):
 eu ⟨C.F,C.H.put (C.φ b) (some (.map ys)),C.φ,C.h.set b (.map fs)⟩∧dR C.h.length W C ⟨C.F,C.H.put (C.φ b) (some (.map ys)),C.φ,C.h.set b (.map fs)⟩:=by
 have a:=eZ n;have f:=S.lt a;have g:=bu a
 have T:dR C.h.length W C ⟨C.F,C.H.put (C.φ b) (some (.map ys)),C.φ,C.h.set b (.map fs)⟩:={
  n0:=rfl
  nx:=apK _
  fz:=fun x j=>⟨j,by rw [AH.bR _ _ _ _ f,if_neg];rintro rfl;exact (S.old a).2 j⟩
  fo:=fun _ _ _ h=>h
  out:=fun x j hi=>by rw [AH.bR _ _ _ _ f,if_neg];rintro rfl;exact hi ⟨b,u,a,rfl⟩
  loc:=fun c l=>by
   right;by_cases h:c=b
   ·subst h;exact ⟨a,rfl⟩
   ·exact ⟨(dx (fy h)).1 l,rfl⟩
  len:=fun _=>by simp
  le:=fun c m _ t q=>by
   by_cases h:c=b
   ·subst h
    intro k o e;rw [fi g]at e;cases e
   ·exact (qA (fy h)).2 q
  uq:=fun c m _ t _ i=>by
   by_cases h:c=b
   ·subst h;obtain ⟨k,o,e,_⟩:=i;rw [fi g]at e;cases e
   ·exact ⟨(qz (fy h)).1 i,rfl⟩
  vH:=fun c m _ i=>by
   by_cases h:c=b
   ·subst h;exact ⟨⟨es,n⟩,rfl⟩
   ·exact ⟨(fx (fy h)).1 i,rfl⟩}
 refine ⟨S.of T rfl b (fun c d=>⟨fy d,rfl⟩) (fun c d s=>?_) (fun c d s _ e=>d (S.inj _ _ s a e.symm)) (fun k o e l=>?_) (fun es e=>?_),T⟩
 ·show(C.H.put _ _).get _=_
  rw [AH.bR _ _ _ _ f,if_neg];exact fun e=>d (S.inj _ _ s a e)
 ·have e:=(fi g).symm.trans e
  cases e
 ·have e:=(fi g).symm.trans e
  cases e;refine ⟨ys,?_,r,p,(S.old a)⟩;show(C.H.put _ _).get _=_;rw [AH.bR _ _ _ _ f,if_pos rfl]
theorem eu.grow {C:Cx} (S:eu C) {b z:Nat} {cs ds:List PV} {vs:List Value} {H1:AH} {W:Nat→Prop} (A:W b) (j:C.h[b]?=some (.cells z cs)) (B:cs.length<ds.length) (w:cK C ds vs)
 (k:(cs=[]∧H1=C.H)∨(cs≠[]∧H1=C.H.put (C.φ b) none)):
 eu ⟨C.F,H1.alloc (.cells z vs),Bs C.φ b C.H.nx,C.h.set b (.cells z ds)⟩∧dR C.h.length W C ⟨C.F,H1.alloc (.cells z vs),Bs C.φ b C.H.nx,C.h.set b (.cells z ds)⟩:=by
 have f:=(apM.1 j).1;have v:H1.nx=C.H.nx:=by rcases k with⟨_,rfl⟩|⟨_,rfl⟩<;>rfl
 have n:H1.n0=C.H.n0:=by rcases k with⟨_,rfl⟩|⟨_,rfl⟩<;>rfl
 have l:∀x,x<C.H.nx→(∀(_:aY C.h b),x≠C.φ b)→(H1.alloc (.cells z vs)).get x=C.H.get x:=by
  intro x d y;rw [AH.ey,if_neg (by omega)];rcases k with⟨_,rfl⟩|⟨a,rfl⟩
  ·rfl
  ·rw [AH.rG,if_neg (y (cn j a))]
 have T:dR C.h.length W C ⟨C.F,H1.alloc (.cells z vs),Bs C.φ b C.H.nx,C.h.set b (.cells z ds)⟩:={
  n0:=n
  nx:=by show _≤H1.nx+1;omega
  fz:=fun x d=>⟨d,l x (S.fz x d) fun s e=>(S.old s).2 (e▸d)⟩
  fo:=fun _ _ _ h=>h
  out:=fun x d hi=>l x d fun s e=>hi ⟨b,A,s,e.symm⟩
  loc:=fun c o=>by
   by_cases h:c=b
   ·subst h;left;show _≤Bs _ _ _ _;rw [gZ];exact apK _
   ·right;exact ⟨(dx (fy h)).1 o,mA h⟩
  len:=fun _=>by simp
  le:=fun c p _ t i=>by
   by_cases h:c=b
   ·subst h
    intro m r e;rw [fi f]at e;cases e;have:=i _ _ j;omega
   ·exact (qA (fy h)).2 i
  uq:=fun c p _ t i g=>by
   by_cases h:c=b
   ·subst h
    obtain ⟨m,r,e,rfl⟩:=g;rw [fi f]at e;cases e;have:=i _ _ j;omega
   ·exact ⟨(qz (fy h)).1 g,mA h⟩
  vH:=fun c p _ g=>by
   by_cases h:c=b
   ·subst h;obtain ⟨es,e⟩:=g;rw [fi f]at e;cases e
   ·exact ⟨(fx (fy h)).1 g,mA h⟩}
 refine ⟨S.of T rfl b (fun c a=>⟨fy a,mA a⟩) (fun c a s=>?_) (fun c a s _=>?_) (fun m r e o=>?_) (fun es e=>?_),T⟩
 ·exact l _ (S.lt s) fun u e=>a (S.inj _ _ s u e)
 ·have:=S.lt s;show Bs _ _ _ _≠_;rw [gZ];omega
 ·have e:=(fi f).symm.trans e
  cases e;refine ⟨vs,?_,w,?_,?_⟩<;>dsimp only<;>rw [gZ]
  ·rw [←v];exact cx _ _
  ·show H1.n0≤_;rw [n];exact S.wf
  ·intro q;exact absurd (S.fz _ q) (Nat.lt_irrefl _)
 ·have e:=(fi f).symm.trans e
  cases e
theorem eu.void {C:Cx} (S:eu C) (z:Nat) (W:Nat→Prop):eu ⟨C.F,C.H,C.φ,C.h++[.cells z []]⟩∧dR C.h.length W C ⟨C.F,C.H,C.φ,C.h++[.cells z []]⟩:=by
 have f:¬ aY (C.h++[.cells z []]) C.h.length:=fun s=>by
  rcases kH s with⟨es,e⟩|⟨k,cs,e,c⟩
  ·rw [lq]at e;cases e
  ·rw [lq]at e;cases e;exact c rfl
 have T:dR C.h.length W C ⟨C.F,C.H,C.φ,C.h++[.cells z []]⟩:={
  n0:=rfl
  nx:=apK _
  fz:=fun x g=>⟨g,rfl⟩
  fo:=fun _ _ _ h=>h
  out:=fun x g _=>rfl
  loc:=fun b a=>by
   by_cases h:b=C.h.length
   ·subst h;exact absurd a f
   ·right;exact ⟨(dx (ke h)).1 a,rfl⟩
  len:=fun _=>by simp
  le:=fun b a _ t j=>(qA (ke (by omega))).2 j
  uq:=fun b a _ t _ d=>⟨(qz (ke (by omega))).1 d,rfl⟩
  vH:=fun b a _ d=>⟨(fx (ke (by omega))).1 d,rfl⟩}
 refine ⟨S.of T rfl C.h.length (fun b a=>⟨ke a,rfl⟩) (fun b a s=>rfl) (fun b a s i=>absurd i f) (fun z cs e c=>?_) (fun es e=>?_),T⟩
 ·have e:=(lq _ _).symm.trans e;cases e;exact absurd rfl c
 ·have e:=(lq _ _).symm.trans e;cases e
open Go Go.RowKit
def vI {α:Type}:List α→Nat→List α→List α
 |c,0,vs=>vs++c.drop vs.length
 |x::c,k+1,vs=>x::vI c k vs
 |[],_+1,_=>[]
def wx:Value→PV
 | .agg cs=>.agg (cs.toList.map .v)
 |x=>.v x
def dU:PV→Option (List PV)
 | .agg cs=>some cs
 | .kG _=>none
 | .any=>none
 | .v (.agg cs)=>some (cs.toList.map .v)
 | .v (.tuple _)=>none
 |p=>some [p]
def po:List PV→List (Nat×Nat×PV)→Option (List PV)
 |c,[]=>some c
 |c,(off,n,p)::l=>match dU p with
  |some ds=>if ds.length=n∧off+n≤c.length then po (vI c off ds) l else none
  |none=>none
def Gu:PV→PV→PV→Option PV
 | .v (.bool t),a,b=>some (bif t then a else b)
 |_,_,_=>none
def Mn (h:PH):PV→Option PV
 | .ref b o t=>match h[b]? with
   |some (.cells _ cs)=>if cs.length=t then cs[o]? else none
   |_=>none
 | .fp cells=>cells.head?
 |_=>none
def vJ (n:Nat) (h:PH):PV→Option PV
 | .ref b o t=>match h[b]? with
   |some (.cells _ cs)=>if cs.length=t∧o+n≤t∧0<t then some (.agg ((cs.drop o).take n))else none
   |_=>none
 | .fp cells=>if n≤cells.length then some (.agg (cells.take n))else none
 |_=>none
def Po (n:Nat) (h:PH):PV→PV→Option PH
 | .ref b o t,p=>match h[b]?,dU p with
   |some (.cells z cs),some ds=>if cs.length=t∧o+n≤t∧0<t∧ds.length=n then some (h.set b (.cells z (vI cs o ds)))else none
   |_,_=>none
 |_,_=>none
def df (h:PH) (b:Nat):Option Nat:=match h[b]? with
 |some (.cells _ cs)=>some cs.length
 |_=>none
def Bt (h:PH):PV→Option PV
 | .ref b o t=>if df h b=some t then some (.ref b o t)else none
 | .fp c=>some (.fp c)
 |_=>none
def Gv (op:BinOp):PV→PV→Option PV
 | .v x,.v y=>(de op x y).map .v
 |_,_=>none
def vK:Nat→Value→Bool
 |1,.pointer none=>true
 |2,.slice none _ _=>true
 |3,.nilFunc=>true
 |4,.map none=>true
 |_,_=>false
def Kv (h:PH) (k:Nat) (p:PV) (y:Value):Option Bool:=
 match p with
 | .v x=>hU k x y
 | .ref b _ t=>match h[b]? with
   |some (.cells _ cs)=>if cs.length=t∧k=1∧vK 1 y=true then some false else none
   |_=>none
 | .fp _=>if k=1∧vK 1 y=true then some false else none
 | .sl sz b o n c=>match h[b]? with
   |some (.cells _ cs)=>if(o+c)*sz=cs.length∧0<c∧k=2∧vK 2 y=true then some false else none
   |_=>none
 | .fs _ rows=>if rows≠[]∧k=2∧vK 2 y=true then some false else none
 | .fn _ _ _=>if k=3∧vK 3 y=true then some false else none
 | .mp b=>match h[b]? with
   |some (.map _)=>if k=4∧vK 4 y=true then some false else none
   |_=>none
 |_=>none
def Kw (h:PH) (k:Nat):PV→PV→Option Bool
 |p,.v y=>Kv h k p y
 |_,_=>none
def pun (op:UnOp):PV→Option PV
 | .v x=>(DT op x).map .v
 |_=>none
def Pp (k:IntKind):PV→Option PV
 | .v (.int _ n)=>some (.v (.int k (k.wrap n)))
 |_=>none
def Pq:PV→Option PV
 | .v (.int _ n)=>some (.v (.string (Utf8.encode n)))
 |_=>none
def RZ (h:PH) (off:Nat):PV→Option PV
 | .ref b o t=>if df h b=some t then some (.ref b (o+off) t)else none
 | .fp cells=>if off≤cells.length then some (.fp (cells.drop off))else none
 |_=>none
def VE (h:PH) (sz:Nat):PV→PV→Option PV
 | .sl gO b o n c, .v (.int _ k)=>match h[b]? with
   |some (.cells _ cs)=>if gO=sz∧(o+c)*sz=cs.length∧0<c∧0≤k∧k<n then some (.ref b ((o+k.toNat)*sz) cs.length)else none
   |_=>none
 | .fs gO rows, .v (.int _ k)=>if gO=sz∧0≤k∧k<rows.length then(match rows[k.toNat]? with|some r=>some (.fp r)|none=>none)else none
 |_,_=>none
def Kx (h:PH) (len sz:Nat):PV→PV→Option PV
 | .ref b o t,.v (.int _ k)=>if df h b=some t∧0≤k∧k<len then some (.ref b (o+k.toNat*sz) t)else none
 | .fp cells,.v (.int _ k)=>if 0≤k∧k<len∧k.toNat*sz≤cells.length then some (.fp (cells.drop (k.toNat*sz)))else none
 |_,_=>none
def pix:PV→PV→Option PV
 | .v x,.v y=>(DC x y).map .v
 |_,_=>none
def Pt:PV→Nat→Option PV
 | .kG ps,i=>ps[i]?
 |_,_=>none
def Gw:PV→Option PV
 | .v x=>(sk x).map .v
 |_=>none
def iP (h:PH):PV→Bool
 | .sl sz b o _ c=>match h[b]? with
   |some (.cells _ cs)=>decide ((o+c)*sz=cs.length)
   |_=>false
 |_=>true
def qc:PV→Option Nat
 | .v (.slice none 0 0)=>some 0
 | .v (.string s)=>some s.size
 | .sl _ _ _ n _=>some n
 | .fs _ rows=>some rows.length
 |_=>none
def Bu (h:PH):PV→Option PV
 | .v x=>(sn x).map .v
 | .sl sz b o n c=>some (.v (.int .i64 n))
 | .fs _ rows=>some (.v (.int .i64 rows.length))
 |_=>none
def ur (k:Value):List (Value×PV)→Option (Option PV)
 |[]=>some none
 |(k',p)::es=>match iI k k' with
  |some true=>some (some p)
  |some false=>ur k es
  |none=>none
def zU (k:Value) (p:PV):List (Value×PV)→Option (List (Value×PV))
 |[]=>some [(k,p)]
 |(k',p')::es=>match iI k k' with
  |some true=>some ((k,p)::es)
  |some false=>(zU k p es).map fun l=>(k',p')::l
  |none=>none
def Bv (kk:Nat) (z:Value) (h:PH) (x k:PV) (ok:Bool):Option PV:=
 match x,k with
 | .v (.map none), .v kx=>if cO kk kx=true then some (bif ok then .kG [wx z, .v (.bool false)]else wx z)else none
 | .mp b, .v kx=>match h[b]? with
   |some (.map es)=>if cO kk kx=true then(match ur kx es with
    |some (some p)=>some (bif ok then .kG [p, .v (.bool true)]else p)
    |some none=>some (bif ok then .kG [wx z, .v (.bool false)]else wx z)
    |none=>none)else none
   |_=>none
 |_,_=>none
def Gx (kk:Nat) (h:PH) (x k p:PV):Option PH:=
 match x,k with
 | .mp b, .v kx=>match h[b]? with
   |some (.map es)=>if cO kk kx=true∧(dU p).isSome=true then(zU kx p es).map fun es'=>h.set b (.map es')else none
   |_=>none
 |_,_=>none
def Ky:Option PV→Option (Option Value)
 |none=>some none
 |some (.v x)=>some (some x)
 |_=>none
def Mo (sz:Nat) (h:PH) (x:PV) (lo hi mx:Option PV):Option (PV×PH):=
 match Ky lo,Ky hi,Ky mx with
 |some lo,some hi,some mx=>match x with
  | .sl gO b o n c=>match h[b]?,bQ n c lo hi mx with
    |some (.cells z cs),some (l,e,m)=>if gO=sz∧0<sz∧z=sz∧(o+c)*sz=cs.length∧e≤m then
      (if c=0 then some (x,h)
      else if m=l then(if mx=none then some (.fs sz [],h)else some (.sl sz h.length 0 0 0,h++[.cells sz []]))
      else if m=c then some (.sl sz b (o+l) (e- l) (c- l),h)else none)else none
    |_,_=>none
  | .fs gO rows=>if gO=sz∧0<sz then
      (match mx with
      |none=>match bQ rows.length rows.length lo hi none with
       |some (l,e,_)=>if e≤rows.length then some (.fs sz ((rows.take e).drop l),h)else none
       |none=>none
      |some m=>if bQ rows.length rows.length lo hi (some m)=some (0,0,0)then(match rows with
       |[]=>some (.fs sz [],h)
       |_::_=>some (.sl sz h.length 0 0 0,h++[.cells sz []]))else none)else none
  | .v (.slice none 0 0)=>if 0<sz∧(bQ 0 0 lo hi mx).isSome=true then some (x,h)else none
  | .v (.string s)=>match mx with
    |some _=>none
    |none=>match bQ s.size s.size lo hi none with
     |some (l,e,_)=>if sz=0 then some (.v (.string (s.extract l e)),h)else none
     |none=>none
  |_=>none
 |_,_,_=>none
def kf (h:PH) (sz k:Nat):PV→Option (List PV)
 | .sl gO b o n c=>match h[b]? with
   |some (.cells _ cs)=>if gO=sz∧(o+c)*sz=cs.length∧k≤n∧n≤c then some ((cs.drop (o*sz)).take (k*sz))else none
   |_=>none
 | .fs gO rows=>if gO=sz∧k≤rows.length then some (rows.take k).flatten else none
 | .v (.string s)=>if sz=1 then some ((s.extract 0 k).data.toList.map fun b=> .v (.int .u8 b.toNat))else none
 | .v (.slice none 0 0)=>if k=0 then some []else none
 |_=>none
def zV (sz bytes:Nat) (h:PH) (s x:PV):Option (PV×PH):=
 match qc x with
 |none=>none
 |some k=>
  if k=0 then(if iP h x=true then match s with
   | .v (.slice none 0 0)=>some (s,h)
   | .sl gO b o n c=>match h[b]? with
     |some (.cells _ cs)=>if(o+c)*gO=cs.length∧n≤c then some (s,h)else none
     |_=>none
   | .fs _ _=>some (s,h)
   |_=>none
   else none)
  else match kf h sz k x with
  |none=>none
  |some new=>match s with
   | .v (.slice none 0 0)=>if 0<sz∧k*bytes≤2^47∧k<2^62 then some (.sl sz h.length 0 k k,h++[.cells sz new])else none
   | .sl gO b o n c=>match h[b]? with
     |some (.cells z cs)=>if gO=sz∧z=sz∧0<sz∧(o+c)*sz=cs.length∧n≤c∧(n+k)*bytes≤2^47∧n+k<2^62 then
       (if c=0 then(if o=0 then some (.sl sz b 0 k k,h.set b (.cells sz new))else none)
       else if n+k≤c then some (.sl sz b o (n+k) c,h.set b (.cells sz (vI cs ((o+n)*sz) new)))
       else if o=0 then some (.sl sz b 0 (n+k) (n+k),h.set b (.cells sz (cs.take (n*sz)++new)))else none)
       else none
     |_=>none
   |_=>none
def Bw (sz:Nat) (h:PH) (d s:PV):Option (PV×PH):=
 match(bif iP h s then qc s else none)with
 |none=>none
 |some m=>match d with
  | .v (.slice none 0 0)=>some (.v (.int .i64 0),h)
  | .sl gO b o n c=>match h[b]? with
    |some (.cells z cs)=>if gO=sz∧0<sz∧(o+c)*sz=cs.length∧n≤c then
      (if Nat.min m n=0 then some (.v (.int .i64 0),h)
      else match kf h sz (Nat.min m n) s with
       |some new=>some (.v (.int .i64 (Nat.min m n)),h.set b (.cells z (vI cs (o*sz) new)))
       |none=>none)else none
    |_=>none
  |_=>none
def Gy (sz bytes:Nat) (z:List Value) (h:PH):PV→Option (PV×PH)
 | .v (.int _ n)=>if 0≤n∧IntKind.i64.wrap n=n∧bytes*n≤2^47∧z.length=sz∧0<sz then some (.sl sz h.length 0 n.toNat n.toNat,h++[.cells sz (List.replicate n.toNat (z.map .v)).flatten])else none
 |_=>none
def Kz (len sz:Nat) (z:List Value) (h:PH) (ps:List (Nat×Nat×PV)):Option (PV×PH):=
 match po (z.map .v) ps with
 |some c=>if c.length=len*sz∧0<sz then some (.sl sz h.length 0 len len,h++[.cells sz c])else none
 |none=>none
def Pu:List PV→Option (List Value)
 |[]=>some []
 | .v x::l=>(Pu l).map fun m=>x::m
 |_=>none
def VF (f:Value→List Value→Option Value) (x:PV) (l:List PV):Option PV:=
 match x,Pu l with
 | .v x,some l=>(f x l).map .v
 |_,_=>none
def Dc (cs ds:List PV):List (Nat×Nat)→Option Bool
 |[]=>some true
 |(o,kk)::l=>match cs[o]?,ds[o]? with
  |some (.v a),some (.v b)=>if cO kk a=true then(match iI a b with
   |some true=>Dc cs ds l
   |some false=>some false
   |none=>none)else none
  |_,_=>none
def Pv (neg:Bool) (offs:List (Nat×Nat)):PV→PV→Option PV
 | .agg cs,.agg ds=>(Dc cs ds offs).map fun b=>.v (.bool (bif neg then !b else b))
 |_,_=>none
def KA (h:PH) (p:PV):Option (PV×PH):=
 match dU p with
 |some cs=>some (.ref h.length 0 cs.length,h++[.cells cs.length cs])
 |none=>none
def xT (l:List PV) (n:Nat) (ag:Bool):Option PV:=if l.length=n then(bif ag then some (.agg l)else match l with|[v]=>some v|_=>none)else none
def R7:XK→List PV→Option PV
 | .HR o n ag,[.agg cs]=>xT ((cs.drop o).take n) n ag
 | .HS len n ag,[.agg cs,.v (.int _ i)]=>if 0≤i∧i<len then xT ((cs.drop (i.toNat*n)).take n) n ag else none
 |_,_=>none
def R8:XK→List Value→Option Value
 | .HR o n ag,[.agg cs]=>qf ((cs.toList.drop o).take n) n ag
 | .HS len n ag,[.agg cs,.int _ i]=>if 0≤i∧i<len then qf ((cs.toList.drop (i.toNat*n)).take n) n ag else none
 |_,_=>none
def pop (p:cQ) (ρ:X→PV) (h:PH):Option (PV×PH):=
 match p with
 | .mv x=>some (ρ x,h)
 | .pick c a b=>(Gu (ρ c) (ρ a) (ρ b)).map fun v=>(v,h)
 | .alloc z=>some (.ref h.length 0 z.length,h++[.cells z.length (z.map .v)])
 | .box x=>KA h (ρ x)
 | .build z ps=>(po (z.map .v) (ps.map fun p=>(p.1,p.2.1,ρ p.2.2))).map fun c=>(.agg c,h)
 | .bsl len sz z ps=>Kz len sz z h (ps.map fun p=>(p.1,p.2.1,ρ p.2.2))
 | .ld x=>(Mn h (ρ x)).map fun v=>(v,h)
 | .ldn n x=>(vJ n h (ρ x)).map fun v=>(v,h)
 | .st n x v=>(Po n h (ρ x) (ρ v)).map fun h'=>(.v undef,h')
 | .bB x=>(Bt h (ρ x)).map fun v=>(v,h)
 | .bin op x y=>(Gv op (ρ x) (ρ y)).map fun v=>(v,h)
 | .eqk k neg x y=>(Kw h k (ρ x) (ρ y)).map fun b=>(.v (.bool (bif neg then !b else b)),h)
 | .un op x=>(pun op (ρ x)).map fun v=>(v,h)
 | .B9 k x=>(Pp k (ρ x)).map fun v=>(v,h)
 | .QH x=>(Pq (ρ x)).map fun v=>(v,h)
 | .mkf f first cap=>some (.fn f (first.map ρ) (cap.map ρ),h)
 | .mkmap=>some (.mp h.length,h++[.map []])
 | .mksl sz bytes z x=>Gy sz bytes z h (ρ x)
 | .sl sz x lo hi mx=>Mo sz h (ρ x) (lo.map ρ) (hi.map ρ) (mx.map ρ)
 | .fa off x=>(RZ h off (ρ x)).map fun v=>(v,h)
 | .ia sz x i=>(VE h sz (ρ x) (ρ i)).map fun v=>(v,h)
 | .wz len sz x i=>(Kx h len sz (ρ x) (ρ i)).map fun v=>(v,h)
 | .ix x i=>(pix (ρ x) (ρ i)).map fun v=>(v,h)
 | .look kk z x k ok=>(Bv kk z h (ρ x) (ρ k) ok).map fun v=>(v,h)
 | .qg kk x k v=>(Gx kk h (ρ x) (ρ k) (ρ v)).map fun h'=>(.v undef,h')
 | .ext x i=>(Pt (ρ x) i).map fun v=>(v,h)
 | .call _ _=>none
 | .callv _ _=>none
 | .app sz bytes s x=>zV sz bytes h (ρ s) (ρ x)
 | .copy sz d s=>Bw sz h (ρ d) (ρ s)
 | .lens x=>(Gw (ρ x)).map fun v=>(v,h)
 | .eQ x=>(Bu h (ρ x)).map fun v=>(v,h)
 | .QI t x=>some (.pj t (ρ x),h)
 | .mxl x l=>(VF HQ (ρ x) (l.map ρ)).map fun v=>(v,h)
 | .mnl x l=>(VF Lp (ρ x) (l.map ρ)).map fun v=>(v,h)
 | .eqs neg offs x y=>(Pv neg offs (ρ x) (ρ y)).map fun v=>(v,h)
 | .xt k l=>(R7 k (l.map ρ)).map fun v=>(v,h)
def xU (p:cQ) (ρ:X→PV):List Nat:=
 match p with
 | .st _ x _=>match ρ x with| .ref b _ _=>[b]|_=>[]
 | .app _ _ s _=>match ρ s with| .sl _ b _ _ _=>[b]|_=>[]
 | .copy _ d _=>match ρ d with| .sl _ b _ _ _=>[b]|_=>[]
 | .qg _ x _ _=>match ρ x with| .mp b=>[b]|_=>[]
 |_=>[]
end P
namespace P
open Go Go.RowKit
def pq (C:Cx) (W:Nat→Prop) (r:Option (Value×AH)) (p:PV) (h':PH):Prop:=∃x H' dE,r=some (x,H')∧RV ⟨C.F,H',dE,h'⟩ p x∧eu ⟨C.F,H',dE,h'⟩∧dR C.h.length W C ⟨C.F,H',dE,h'⟩
theorem pq.val {C:Cx} {W:Nat→Prop} (S:eu C) {r:Option (Value×AH)} {p:PV} {x:Value} (k:RV C p x) (e:r=some (x,C.H)):pq C W r p C.h:=⟨x,C.H,C.φ,e,k,S,dR.refl _ _ _⟩
variable{C:Cx} {W:Nat→Prop}
theorem RV.pk {x y:Value} (h:RV C (.v x) y):y=x:=by cases h;rfl
theorem zW (x:Value):RV C (wx x) x:=by
 cases x with
 |agg cs=>exact .agg (xs:=cs.toList) (cK.lits _)
 |_=>exact .v _
theorem Pw {x:Value} (h:one x=true):aW x=[x]∧cN x=false:=by
 cases x<;>first
  |exact ⟨rfl,rfl⟩
  |(simp [one]at h)
theorem jm {p:PV} {x:Value} {cs:List PV} (h:RV C p x) (k:dU p=some cs):cK C cs (aW x)∧cN x=false:=by
 have go:∀{p:PV} {x:Value},RV C p x→(Ku x=true∨one x=true)→cK C [p] (aW x)∧cN x=false:=by
  intro p x h c
  obtain ⟨a,b⟩:aW x=[x]∧cN x=false:=by
   rcases c with c|c
   ·cases x<;>first|exact ⟨rfl,rfl⟩|(simp [Ku]at c)
   ·exact Pw c
  rw [a];exact ⟨.cons h .nil,b⟩
 cases p with
 |v x=>
  cases h
  cases x with
  |agg d=>simp only [dU,apH]at k;subst k;exact ⟨cK.lits _,rfl⟩
  |tuple=>simp [dU]at k
  |_=>simp only [dU,apH]at k;subst k;exact ⟨.cons (.v _) .nil,rfl⟩
 |agg=>cases h with|agg q=>simp only [dU,apH]at k;subst k;exact ⟨by simpa [aW]using q,rfl⟩
 |kG=>simp [dU]at k
 |any=>simp [dU]at k
 |ref=>simp only [dU,apH]at k;subst k;exact go h (by cases h;left;assumption)
 |sl=>simp only [dU,apH]at k;subst k;exact go h (by cases h with|sl a _ _ _=>exact .inl a.sm)
 |mp=>simp only [dU,apH]at k;subst k;exact go h (by cases h;left;assumption)
 |fs=>simp only [dU,apH]at k;subst k;exact go h (by cases h with|fs q=>cases q;exact .inr rfl)
 |fp=>simp only [dU,apH]at k;subst k;exact go h (by cases h;exact .inr rfl)
 |fn=>simp only [dU,apH]at k;subst k;exact go h (by cases h;exact .inr rfl)
 |pj=>simp only [dU,apH]at k;subst k;exact go h (by cases h;exact .inr rfl)
theorem cK.vI {cs:List PV} {xs:List Value} (h:cK C cs xs):∀{k:Nat} {ds:List PV} {ys:List Value},cK C ds ys→cK C (vI cs k ds) (aM xs k ys):=by
 have z:∀(xs ys:List Value),aM xs 0 ys=ys++xs.drop ys.length:=fun xs ys=>by cases xs<;>rfl
 have c:∀(xs ys:List PV),P.vI xs 0 ys=ys++xs.drop ys.length:=fun xs ys=>by cases xs<;>rfl
 intro k
 induction k generalizing cs xs with
 |zero=>
  intro ds ys q;rw [z,c,q.length];exact q.append (h.drop _)
 |succ k ih=>
  intro ds ys q
  cases h with
  |nil=>exact .nil
  |cons a b=>exact .cons a (ih b q)
theorem jD {α:Type}:∀{c:List α} {k:Nat} {vs:List α},k+vs.length≤c.length→(vI c k vs).length=c.length
 |c,0,vs,h=>by
  have:vI c 0 vs=vs++c.drop vs.length:=by cases c<;>rfl
  rw [this];simp;omega
 |[],k+1,vs,h=>by simp at h
 |x::c,k+1,vs,h=>by
  have:=jD (c:=c) (k:=k) (vs:=vs) (by simp at h;omega);simp [vI,this]
inductive KB (C:Cx):List (Nat×Nat×PV)→List (Nat×Nat×Value)→Prop
 |nil:KB C [] []
 |cons {o n:Nat} {p:PV} {x:Value} {l:List (Nat×Nat×PV)} {m:List (Nat×Nat×Value)}:RV C p x→KB C l m→KB C ((o,n,p)::l) ((o,n,x)::m)
theorem KB.of {a:X→PV} {b:X→Value} (h:∀x,RV C (a x) (b x)):∀(ps:List (Nat×Nat×X)),KB C (ps.map fun p=>(p.1,p.2.1,a p.2.2)) (ps.map fun p=>(p.1,p.2.1,b p.2.2))
 |[]=>.nil
 |p::ps=>.cons (h _) (KB.of h ps)
theorem cK.of {a:X→PV} {b:X→Value} (h:∀x,RV C (a x) (b x)):∀(l:List X),cK C (l.map a) (l.map b)
 |[]=>.nil
 |p::ps=>.cons (h _) (cK.of h ps)
theorem Bx {ps:List (Nat×Nat×PV)} {qs:List (Nat×Nat×Value)} (j:KB C ps qs):∀{c d:List PV} {xs:List Value},cK C c xs→po c ps=some d→∃ys,jo xs qs=some ys∧cK C d ys:=by
 induction j with
 |nil=>intro c d xs h k;simp only [po,apH]at k;subst k;exact ⟨xs,rfl,h⟩
 | @cons o n p x l m i _ ih=>
  intro c d xs h k;simp only [po]at k
  cases f:dU p with
  |none=>simp [f]at k
  |some r=>
   simp only [f]at k;split at k
   case isFalse=>cases k
   rename_i g;obtain ⟨a,b⟩:=jm i f;obtain ⟨ys,e,q⟩:=ih (h.vI a) k;refine ⟨ys,?_,q⟩;simp only [jo,nb];rw [←a.length,←h.length,b];simp [g.1,g.2,e]
theorem eu.cells (S:eu C) {b z t:Nat} {cs:List PV} (e:C.h[b]?=some (.cells z cs)) (d:0<cs.length):∃vs,C.H.get (C.φ b)=some (.cells z vs)∧cK C cs vs∧C.H.n0≤C.φ b:=by
 obtain ⟨vs,a,b,c,_⟩:=S.aU _ _ _ e (List.length_pos_iff.1 d);exact ⟨vs,a,b,c⟩
theorem Mq (S:eu C) {p q:PV} {x:Value} (h:RV C p x) (k:Mn C.h p=some q):∃y,Rq C.H x=some y∧RV C q y:=by
 cases h with
 | @ref b o t x _ D d s=>
  simp only [Mn]at k
  cases e:C.h[b]? with
  |none=>simp [e]at k
  |some B=>
   cases B with
   |cells z cs=>
    simp only [e]at k;split at k
    case isFalse=>cases k
    rename_i l;obtain ⟨f,n,i,u⟩:=S.cells (t:=t) e (by have:=(apM.1 k).1;omega);obtain ⟨y,g,m⟩:=i.get k;rw [s ⟨z,cs,e,l⟩];exact ⟨y,aI n u g,m⟩
   |map=>simp [e]at k
   |dead=>simp [e]at k
 | @fp cells b o f A d r=>
  simp only [Mn]at k
  cases r with
  |nil=>simp at k
  | @cons w c ps xs a E=>
   simp only [List.head?_cons,apH]at k;subst k;refine ⟨c,?_,a.pk⟩;have:=aL d (j:=0) (v:=c) rfl
   simpa using this
 |_=>simp [Mn]at k
theorem qC {n0:Nat}:∀{l vs:List Value},aQ n0 l=some vs→∀n,aQ n0 (l.take n)=some (vs.take n)
 |[],vs,h,n=>by simp [aQ]at h;subst h;simp [aQ]
 |y::l,vs,h,n=>by
  simp only [aQ]at h;split at h
  case h_2=>cases h
  rename_i c d a b;cases h
  cases n with
  |zero=>simp [aQ]
  |succ n=>simp [aQ,a,qC b n]
theorem qD {n0:Nat}:∀{l vs:List Value},aQ n0 l=some vs→∀n,aQ n0 (l.drop n)=some (vs.drop n)
 |[],vs,h,n=>by simp [aQ]at h;subst h;simp [aQ]
 |y::l,vs,h,n=>by
  have b:=h;simp only [aQ]at h;split at h
  case h_2=>cases h
  rename_i c d e a;cases h
  cases n with
  |zero=>simpa using b
  |succ n=>simpa using qD a n
theorem zX (S:eu C) {n:Nat} {p q:PV} {x:Value} (h:RV C p x) (k:vJ n C.h p=some q):∃y,tB n C.H x=some y∧RV C q y:=by
 cases h with
 | @ref b o t x _ w a r=>
  simp only [vJ]at k
  cases e:C.h[b]? with
  |none=>simp [e]at k
  |some B=>
   cases B with
   |cells z cs=>
    simp only [e]at k;split at k
    case isFalse=>cases k
    rename_i j;cases k;obtain ⟨f,d,g,u⟩:=S.cells (t:=t) e (by omega);rw [r ⟨z,cs,e,j.1⟩];refine ⟨.agg ((f.drop o).take n).toArray,?_,.agg ((g.drop o).take n)⟩;simp only [tB];rw [bM d u (by have:=g.length;omega)];rfl
   |map=>simp [e]at k
   |dead=>simp [e]at k
 | @fp cells b o f v a m=>
  simp only [vJ]at k;split at k
  case isFalse=>cases k
  rename_i l;cases k;refine ⟨.agg (f.take n).toArray,?_,.agg ((m.take n).pk)⟩;simp only [tB]
  have:C.H.ldn ⟨b,o,none⟩ n=some (f.take n):=by
   unfold AH.ldn at a⊢;dsimp only at a⊢
   cases d:C.H.get b with
   |none=>simp [d]at a
   |some B=>
    cases B with
    |map=>simp [d]at a
    |cells z c=>
     simp only [d]at a⊢;obtain ⟨s,a⟩:=aP a;simp only [apS]at s;rw [show decide (o+n≤c.length)=true by simp;omega,cond_true];have e:(c.drop o).take n=((c.drop o).take cells.length).take n:=by rw [List.take_take,Nat.min_eq_left l]
     cases i:decide (b<C.H.n0)with
     |false=>
      rw [i]at a;simp only [cond_false,apH]at a⊢;rw [e,a]
     |true=>
      rw [i]at a;simp only [cond_true]at a⊢;rw [e];exact qC a n
  rw [this];rfl
 |_=>simp [vJ]at k
theorem Gz {H:AH} {b o n k:Nat} {vs:List Value} (h:H.ldn ⟨b,o,none⟩ n=some vs) (g:k≤n):H.ldn ⟨b,o+k,none⟩ (n- k)=some (vs.drop k):=by
 unfold AH.ldn at h⊢;dsimp only at h⊢
 cases a:H.get b with
 |none=>simp [a]at h
 |some B=>
  cases B with
  |map=>simp [a]at h
  |cells z c=>
   simp only [a]at h⊢;obtain ⟨f,h⟩:=aP h;simp only [apS]at f;rw [show decide (o+k+(n- k)≤c.length)=true by simp;omega,cond_true];have e:(c.drop (o+k)).take (n- k)=((c.drop o).take n).drop k:=by rw [List.drop_take,List.drop_drop]
   rw [e]
   cases d:decide (b<H.n0)with
   |false=>rw [d]at h;simp only [cond_false,apH]at h⊢;rw [h]
   |true=>rw [d]at h;simp only [cond_true]at h⊢;exact qD h k
theorem cellsOf {p:PV} {cs:List PV} {x:Value} (h:RV C p x) (a:dU p=some cs):∃ys,aW x=ys∧cN x=false∧cK C cs ys:=⟨_,rfl,(jm h a).2,(jm h a).1⟩
theorem VG (S:eu C) {n:Nat} {p q:PV} {x y:Value} {c:PH} (h:RV C p x) (g:RV C q y) (k:Po n C.h p q=some c) (s:∀b o t,p= .ref b o t→W b):∃H',Fp n C.H x y=some H'∧eu ⟨C.F,H',C.φ,c⟩∧dR C.h.length W C ⟨C.F,H',C.φ,c⟩:=by
 cases h with
 | @ref b o t x _ E D r=>
  simp only [Po]at k
  cases e:C.h[b]? with
  |none=>simp [e]at k
  |some B=>
   cases B with
   |cells z cs=>
    cases a:dU q with
    |none=>simp [e,a]at k
    |some G=>
     simp only [e,a]at k;split at k
     case isFalse=>cases k
     rename_i f;cases k;obtain ⟨l,m,d,u⟩:=S.cells (t:=t) e (by omega);obtain ⟨j,v⟩:=jm g a;have i:=j.length;have w:=d.length;obtain ⟨A,B⟩:=S.put (W:=W) (s _ _ _ rfl) e (by intro q;subst q;simp at f;omega) (jD (by omega)) (d.vI (k:=o) j);rw [r ⟨z,cs,e,f.1⟩];refine ⟨_,?_,A,B⟩;rw [TL,if_pos ⟨by omega,v⟩];unfold AH.st;simp only [m];rw [show decide (C.H.n0≤C.φ b)=true by simp [u],show decide (o+(aW y).length≤l.length)=true by simp;omega];rfl
   |map=>simp [e]at k
   |dead=>simp [e]at k
 |_=>simp [Po]at k
theorem mT {k:Nat} {y:Value} (h:vK k y=true):(k=1∧y= .pointer none)∨(k=2∧∃n c,y= .slice none n c)∨(k=3∧y= .nilFunc)∨(k=4∧y= .map none):=by
 unfold vK at h;split at h<;>simp_all
theorem KC {k:Nat} {p q:PV} {x y:Value} {r:Bool} (h:RV C p x) (g:RV C q y) (e:Kw C.h k p q=some r):hU k x y=some r:=by
 cases q with
 |v z=>
  cases g;replace e:Kv C.h k p y=some r:=e;unfold Kv at e
  cases p with
  |v w=>cases h;exact e
  |ref b o t=>
   cases h with|ref _ s m j=>
   dsimp only at e;split at e
   case h_2=>cases e
   rename_i l cs i;split at e
   case isFalse=>cases e
   rename_i d;cases e;rw [j ⟨l,cs,i,d.1⟩,d.2.1];rcases mT d.2.2 with⟨a,rfl⟩|⟨a,_⟩|⟨a,_⟩|⟨a,_⟩<;>first|rfl|cases a
  |fp cells=>
   cases h;dsimp only at e;split at e
   case isFalse=>cases e
   rename_i d;cases e;rw [d.1];rcases mT d.2 with⟨a,rfl⟩|⟨a,_⟩|⟨a,_⟩|⟨a,_⟩<;>first|rfl|cases a
  |sl sz b o n c=>
   cases h with|sl _ s m j=>
   dsimp only at e;split at e
   case h_2=>cases e
   rename_i l cs i;split at e
   case isFalse=>cases e
   rename_i d;cases e;rw [d.2.2.1];rcases j ⟨l,cs,i,d.1.symm⟩with⟨a,_⟩|⟨_,rfl⟩
   ·omega
   ·rcases mT d.2.2.2 with⟨a,_⟩|⟨a,B,A,rfl⟩|⟨a,_⟩|⟨a,_⟩<;>first|rfl|cases a
  |fs sz rows=>
   cases h with|fs q=>
   dsimp only at e;split at e
   case isFalse=>cases e
   rename_i d;cases e;rw [d.2.1]
   cases q with| @fs _ _ a c rs E m G D=>
   obtain ⟨H,A,u,F⟩:=E.is;simp only [Value.slice.injEq]at u;obtain ⟨rfl,_,rfl⟩:=u;have:0<rs.length:=by rw [←D.length];exact List.length_pos_iff.2 d.1
   obtain ⟨b,o,rfl,_⟩:=F 0 _ (apG this);rcases mT d.2.2 with⟨a,_⟩|⟨a,B,A,rfl⟩|⟨a,_⟩|⟨a,_⟩<;>first|rfl|cases a
  |fn f a b=>
   cases h;dsimp only at e;split at e
   case isFalse=>cases e
   rename_i d;cases e;rw [d.1];rcases mT d.2 with⟨a,_⟩|⟨a,_⟩|⟨a,rfl⟩|⟨a,_⟩<;>first|rfl|cases a
  |mp b=>
   cases h with|mp _ s j=>
   dsimp only at e;split at e
   case h_2=>cases e
   rename_i es i;split at e
   case isFalse=>cases e
   rename_i d;cases e;rw [d.1,j ⟨es,i⟩];rcases mT d.2 with⟨a,_⟩|⟨a,_⟩|⟨a,_⟩|⟨a,rfl⟩<;>first|rfl|cases a
  |_=>cases e
 |_=>cases e
theorem sV {b o t:Nat} {x:Value} (h:RV C (.ref b o t) x) (k:df C.h b=some t):x= .pointer (some ⟨C.φ b,o,none⟩):=by
 cases h with|ref _ e d c=>
 unfold df at k;split at k
 case h_2=>cases k
 rename_i z cs a;cases k;exact c ⟨z,cs,a,rfl⟩
theorem RV.VH {b o a t:Nat} {x:Value} (h:RV C (.ref b o t) x):RV C (.ref b a t) (.pointer (some ⟨C.φ b,a,none⟩)):=by
 cases h with|ref _ d c e=>exact .ref rfl d c fun _=>rfl
theorem By {cells:List PV} {b o k:Nat} (c:k≤cells.length) (h:RV C (.fp cells) (.pointer (some ⟨b,o,none⟩))):RV C (.fp (cells.drop k)) (.pointer (some ⟨b,o+k,none⟩)):=by
 cases h with|fp d a e=>
 refine .fp d ?_ (e.drop k);rw [List.length_drop];exact Gz a c
theorem VI {off:Nat} {p q:PV} {x:Value} (h:RV C p x) (k:RZ C.h off p=some q):∃y,LV off x=some y∧RV C q y:=by
 cases p with
 |ref b o t=>
  simp only [RZ]at k;split at k
  case isFalse=>cases k
  rename_i a;cases k;rw [sV h a];exact ⟨_,rfl,h.VH⟩
 |fp cells=>
  simp only [RZ]at k;split at k
  case isFalse=>cases k
  rename_i a;cases k;have c:=h
  cases h with|fp e d f=>
  exact ⟨_,rfl,By a c⟩
 |_=>cases k
theorem KD {p q:PV} {x:Value} (h:RV C p x) (k:Bt C.h p=some q):tO x=some x∧RV C q x:=by
 cases p with
 |ref b o t=>
  simp only [Bt]at k;split at k
  case isFalse=>cases k
  rename_i a;cases k;refine ⟨?_,h⟩;rw [sV h a];rfl
 |fp cells=>
  cases k;exact ⟨by cases h;rfl,h⟩
 |_=>cases k
theorem Px {len sz:Nat} {p q r:PV} {x y:Value} (h:RV C p x) (g:RV C q y) (k:Kx C.h len sz p q=some r):∃z,xf len sz x y=some z∧RV C r z:=by
 unfold Kx at k;split at k
 ·rename_i b o t kk n
  cases g;split at k
  case isFalse=>cases k
  rename_i a;cases k;rw [sV h a.1];refine ⟨_,?_,h.VH⟩;rw [Ft,if_pos ⟨a.2.1,a.2.2⟩]
 ·rename_i cells kk n
  cases g;split at k
  case isFalse=>cases k
  rename_i a;cases k;have c:=h
  cases h with|fp e d f=>
  refine ⟨_,?_,By a.2.2 c⟩;rw [Ft,if_pos ⟨a.1,a.2.1⟩]
 ·cases k
theorem VJ {sz:Nat} {p q r:PV} {x y:Value} (h:RV C p x) (g:RV C q y) (k:VE C.h sz p q=some r):∃z,LW sz x y=some z∧RV C r z:=by
 unfold VE at k;split at k
 ·rename_i v b o n c kk m
  cases g;split at k
  case h_2=>cases k
  rename_i u cs F;split at k
  case isFalse=>cases k
  rename_i i;cases k;obtain ⟨rfl,f,h2,J,I⟩:=i
  cases h with|sl N G s H=>
  rcases H ⟨u,cs,F,f.symm⟩with⟨a,_⟩|⟨_,rfl⟩
  ·omega
  ·refine ⟨_,by rw [LX,if_pos ⟨J,I⟩],?_⟩
   rw [←Nat.add_mul];exact .ref rfl G (by rw [←f];exact s) fun _=>rfl
 ·rename_i v rows kk m
  cases g;split at k
  case isFalse=>cases k
  rename_i i;obtain ⟨rfl,f,h2⟩:=i;split at k
  case h_2=>cases k
  rename_i L j;cases k
  cases h with|fs q=>
  cases q with| @fs _ _ a c rs D s E A=>
  obtain ⟨K,w,d⟩:=A.get j;obtain ⟨P,O,e,B⟩:=D.is;simp only [Value.slice.injEq]at e;obtain ⟨rfl,_,rfl⟩:=e;obtain ⟨b,o,rfl,l⟩:=B _ _ w;have M:=(apM.1 j).1;refine ⟨_,by rw [LX,if_pos ⟨f,h2⟩],?_⟩;refine .fp ?_ ?_ d
  ·rcases (E _ rfl).2 with t|t
   ·omega
   ·exact t.1
  ·rw [d.length,(dF l).2]
   exact l
 ·cases k
theorem xV {h:PH} {sz b o n c:Nat} (k:iP h (.sl sz b o n c)=true):At h b ((o+c)*sz):=by
 unfold iP at k;dsimp only at k;split at k
 ·rename_i z cs e;exact ⟨z,cs,e,by simpa using(of_decide_eq_true k).symm⟩
 ·cases k
theorem GA {p:PV} {x:Value} {n:Nat} (h:RV C p x) (k:qc p=some n) (a:iP C.h p=true):mW x=some n:=by
 unfold qc at k;split at k
 ·cases h;cases k;rfl
 ·cases h;cases k;rfl
 ·cases k
  cases h with|sl _ e c b=>
  rcases b (xV a)with⟨_,rfl,d,rfl,_⟩|⟨_,rfl⟩<;>rfl
 ·cases k
  cases h with|fs q=>cases q;rfl
 ·cases k
end P
namespace P
open Go Go.RowKit
variable{C:Cx} {W:Nat→Prop}
theorem sW {sz b o n c:Nat} {x:Value} (h:RV C (.sl sz b o n c) x) {z:Nat} {cs:List PV} (e:C.h[b]?=some (.cells z cs)) (a:(o+c)*sz=cs.length):slV (C.φ b) sz o n c x:=by
 cases h with|sl _ g f d=>exact d ⟨z,cs,e,a.symm⟩
theorem RV.slT {sz b o n c a d f:Nat} {x y:Value} (h:RV C (.sl sz b o n c) x) (e:a+f=o+c) (g:Y4 d y) (k:slV (C.φ b) sz a d f y):RV C (.sl sz b a d f) y:=by
 cases h with|sl _ j i l=>exact .sl g j (by rw [e];exact i) fun _=>k
theorem Bz:∀(l:List UInt8),cK C (l.map fun b=>.v (.int .u8 b.toNat)) (l.map fun b=>.int .u8 b.toNat)
 |[]=>.nil
 |b::l=>.cons (.v _) (Bz l)
theorem sX (S:eu C) {sz m:Nat} {p:PV} {x:Value} {new:List PV} (h:RV C p x) (k:kf C.h sz m p=some new) (D:0<m) (v:0<sz):
 ∃ys,j0 C.H sz m x=some ys∧cK C new ys∧(qc p=some m→pJ C.H sz x=some ys∧mW x=some m∧ys.length=m*sz)∧(∀q,mW x=some q→m≤q→ys.length=m*sz):=by
 have f:¬ m*sz=0:=by have:=Nat.mul_pos D v;omega
 unfold kf at k;split at k
 ·rename_i gO b o n c
  split at k
  case h_2=>cases k
  rename_i z cs E;split at k
  case isFalse=>cases k
  rename_i i;cases k;obtain ⟨rfl,G,h2,P⟩:=i;have g:(o+m)*gO≤(o+c)*gO:=Nat.mul_le_mul_right _ (by omega);rw [Nat.add_mul]at g;obtain ⟨l,K,y,L⟩:=S.cells (t:=0) E (by have:=Nat.mul_pos (show 0<o+c by omega) v;omega);have N:=y.length;rcases sW h E G with⟨a,_⟩|⟨_,rfl⟩
  ·omega
  have u:C.H.ldn ⟨C.φ b,o*gO,none⟩ (m*gO)=some ((l.drop (o*gO)).take (m*gO)):=bM K L (by omega);have d:((l.drop (o*gO)).take (m*gO)).length=m*gO:=by simp;omega
  refine ⟨(l.drop (o*gO)).take (m*gO),?_,(y.drop _).take _,fun e=>?_,fun q e B=>d⟩
  ·simp only [j0,nb,f,decide_false,cond_false,u]
  ·simp only [qc,apH]at e
   subst e;refine ⟨?_,rfl,d⟩;simp only [pJ,nb,show¬ n=0 by omega,decide_false,cond_false,u]
 ·rename_i gO rows
  split at k
  case isFalse=>cases k
  rename_i i;cases k;obtain ⟨rfl,G⟩:=i
  cases h with|fs q=>
  cases q with| @fs _ _ a c rs j u O A=>
  have d:=A.length;obtain ⟨R,Q,I,M⟩:=j.is;simp only [Value.slice.injEq]at I;obtain ⟨rfl,_,rfl⟩:=I;obtain ⟨b,o,rfl,_⟩:=M 0 _ (apG (by omega));rw [d]at j;have w:=j.whole m (by omega) D
  have F:(rs.take m).flatten.length=m*gO:=by
   rw [bW (sz:=gO) fun r J=>j.FN r (List.mem_of_mem_take J),List.length_take,Nat.min_eq_left (by omega)]
  refine ⟨(rs.take m).flatten,?_,(A.take m).flat.pk,fun e=>?_,fun _ _ _=>F⟩
  ·simp only [j0,nb,f,decide_false,cond_false,w]
  ·simp only [qc,apH]at e
   refine ⟨?_,by simp [mW,e],F⟩;simp only [pJ,nb,show¬ rows.length=0 by omega,decide_false,cond_false];rw [e,w]
 ·rename_i s
  split at k
  case isFalse=>cases k
  rename_i i;cases k;subst i;cases h;refine ⟨(s.extract 0 m).data.toList.map fun b=>.int .u8 b.toNat,rfl,Bz _,fun e=>?_,fun q e B=>?_⟩
  ·simp only [qc,apH]at e
   subst e;refine ⟨?_,rfl,by simp⟩;simp [pJ]
  ·simp only [mW,apH]at e
   subst e;simp [B]
 ·split at k
  case isFalse=>cases k
  omega
 ·cases k
theorem Py (S:eu C) {sz bytes:Nat} {p q r:PV} {x y:Value} {h':PH} (s:RV C p x) (U:RV C q y) (k:zV sz bytes C.h p q=some (r,h')) (hW:∀sz b o n c,p= .sl sz b o n c→W b):
 pq C W (bL sz bytes C.H x y) r h':=by
 unfold zV at k;split at k
 ·cases k
 rename_i m Z;split at k
 ·rename_i O
  subst O;split at k
  case isFalse=>cases k
  rename_i hv;have f:=GA U Z hv;split at k
  ·cases k
   cases s;exact pq.val S (.v _) (by simp [bL,f])
  ·rename_i gO b o n c
   split at k
   case h_2=>cases k
   rename_i z cs j;split at k
   case isFalse=>cases k
   rename_i w;cases k;have I:=sW s j w.1;refine pq.val S s ?_;rcases I with⟨_,rfl,d,rfl,_⟩|⟨_,rfl⟩
   ·simp [bL,f]
   ·simp [bL,f,w.2]
  ·cases k
   refine pq.val S s ?_
   cases s with|fs g=>
   cases g with|fs hr hl hk qN=>simp [bL,f,hl]
  ·cases k
 rename_i O;have E:0<m:=by omega
 split at k
 ·cases k
 rename_i new FO;split at k
 ·split at k
  case isFalse=>cases k
  rename_i w;cases k;obtain ⟨u,L,M⟩:=w;obtain ⟨Q,_,l,i,_⟩:=sX S U FO E u;obtain ⟨i,f,R9⟩:=i Z;cases s;obtain ⟨A,B⟩:=S.new (P:=.cells sz new) (B:=.cells sz Q) W (.inl ⟨_,_,_,rfl,rfl,l⟩);refine ⟨.slice (some ⟨C.H.nx,0,none⟩) m m,_,_,?_,.sl ⟨_,_,rfl⟩ (by simp) ?_ (fun _=>.inr ⟨E,?_⟩),A,B⟩
  ·have:¬ m=0:=O
   simp [bL,f,this,i,nb,L,M]
  ·intro z cs e
   rw [show(C.h++[PB.cells sz new])[C.h.length]?=_ from lq _ _]at e;cases e;have:=l.length;simp;omega
  ·simp [gZ]
 ·rename_i gO b o n c
  split at k
  case h_2=>cases k
  rename_i z cs j;split at k
  case isFalse=>cases k
  rename_i w;obtain ⟨rfl,rfl,u,N,h2,L,M⟩:=w;obtain ⟨Q,_,l,i,_⟩:=sX S U FO E u;obtain ⟨i,f,R9⟩:=i Z;have I:=sW s j N;have D:=(apM.1 j).1;have It:=l.length;have VK:=hW _ _ _ _ _ rfl;have Y:¬ m=0:=O;split at k
  ·rename_i qT
   split at k
   case isFalse=>cases k
   rename_i V;cases k;subst qT;subst V;obtain rfl:n=0:=by omega
   have F:cs=[]:=ap9.1 (by simpa using N.symm);rcases I with⟨_,_,d,rfl,hd⟩|⟨a,_⟩
   case inr=>omega
   obtain ⟨A,B⟩:=S.grow (H1:=C.H) VK j (by rw [F,It,R9];simpa using Nat.mul_pos E u) l (.inl ⟨F,rfl⟩);refine ⟨.slice (some ⟨C.H.nx,0,none⟩) m m,_,_,?_,.sl ⟨_,_,rfl⟩ (by simpa using D) ?_ (fun _=>.inr ⟨E,?_⟩),A,B⟩
   ·simp only [bL,f,if_neg Y,i]
    rw [show decide ((0+m)*bytes≤2^47)=true by simpa using L,show decide (0+m<2^62)=true by simpa using M];simp only [Bool.and_self,cond_true];rw [if_neg (by omega)]
    cases d with
    |none=>simp
    |some d=>simp [hd d rfl]
   ·intro z cz e
    rw [fi D]at e;cases e;simp;omega
   ·simp [gZ]
  rename_i qT;rcases I with⟨a,_⟩|⟨_,rfl⟩
  ·omega
  have qm:0<cs.length:=by rw [←N];exact Nat.mul_pos (by omega) u
  have F:cs≠[]:=List.length_pos_iff.1 qm;obtain ⟨vs,K,T,X⟩:=S.cells (t:=0) j qm;have kz:=T.length;have xu:C.H.lz (C.φ b) z=true:=by unfold AH.lz;rw [K];simp
  have d1:decide ((n+m)*bytes≤2^47)=true:=by simpa using L
  have d2:decide (n+m<2^62)=true:=by simpa using M
  have VM:n*z≤c*z:=Nat.mul_le_mul_right _ h2;have adm:(o+c)*z=o*z+c*z:=Nat.add_mul ..;have G:(o+n)*z=o*z+n*z:=Nat.add_mul ..;have anm:(n+m)*z=n*z+m*z:=Nat.add_mul ..;split at k
  ·rename_i J
   cases k;have R:(n+m)*z≤c*z:=Nat.mul_le_mul_right _ J;obtain ⟨A,B⟩:=S.put VK j F (jD (by omega)) (T.vI (k:=(o+n)*z) l);refine ⟨.slice (some ⟨C.φ b,o*z,none⟩) (n+m) c,_,_,?_,.sl ⟨_,_,rfl⟩ (by simpa using D) ?_ (fun _=>.inr ⟨by omega,rfl⟩),A,B⟩
   ·simp only [bL,f,if_neg Y,i,d1,d2,Bool.and_self,cond_true,if_pos J,xu,Option.isNone_none]
    unfold AH.st;simp only [K];rw [show decide (C.H.n0≤C.φ b)=true by simp [X],show decide (o*z+n*z+Q.length≤vs.length)=true by simp;omega,G];rfl
   ·intro z9 cz e
    rw [fi D]at e;cases e;rw [jD (by omega)];omega
  ·rename_i J
   split at k
   case isFalse=>cases k
   rename_i V;cases k;subst V;simp only [Nat.zero_mul,Nat.zero_add]at adm G K N;have R:c*z<(n+m)*z:=Nat.mul_lt_mul_of_pos_right (by omega) u;have hdl:(cs.take (n*z)++new).length=(n+m)*z:=by rw [apP,List.length_take,Nat.min_eq_left (by omega)];omega
   obtain ⟨A,B⟩:=S.grow (H1:=C.H.put (C.φ b) none) VK j (ds:=cs.take (n*z)++new) (by omega) ((T.take _).append l) (.inr ⟨F,rfl⟩);refine ⟨.slice (some ⟨C.H.nx,0,none⟩) (n+m) (n+m),_,_,?_,.sl ⟨_,_,rfl⟩ (by simpa using D) ?_ (fun _=>.inr ⟨by omega,?_⟩),A,B⟩
   ·have dP:C.H.ldn ⟨C.φ b,0,none⟩ (n*z)=some (vs.take (n*z)):=by
     rw [bM K X (by omega)];simp
    simp only [bL,f,if_neg Y,i,d1,d2,Bool.and_self,cond_true,if_neg J,if_neg qT,xu,Option.isNone_none,Nat.zero_mul,dP];rw [show decide (C.H.n0≤C.φ b)=true by simp [X]];rfl
   ·intro z9 cz e
    rw [fi D]at e;cases e;rw [hdl];simp
   ·simp [gZ]
 ·cases k
end P
end Go.Proofs.YtppcmpmnglaleaaGreat.A
