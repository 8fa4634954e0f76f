/- Texts that stand one behind the other: Y4, Y5, Y6, Y7. -/
import Derived.Test.YtppcmpmnglaleaaGreatG18
set_option linter.unusedVariables false
set_option linter.unusedSimpArgs false
set_option maxRecDepth 10000
namespace Go.Proofs.YtppcmpmnglaleaaGreat.A
section
open Go
open P (CO iD)
theorem pF (H:AH):Ca E O 7 [] H (fun x H'=>x= .bool true∧H'=H):=Ca.pI (g:=fun z H=>match z with|[]=>some (.bool true,H)|_=>none) (by rfl) rfl ⟨rfl,rfl⟩
theorem da.set {H:AH} {sz:Nat} {v:Value} {rows:List (List Value)} {r':List Value} {k:Nat} (h:da H sz v rows) (c:k<rows.length) (n:r'.length=sz):∃b,v= .slice (some ⟨b,0,none⟩) rows.length rows.length∧∃H',H.st ⟨b,k*sz,none⟩ r'=some H'∧da H' sz v (rows.set k r')∧Mod (fun q=>q=b) H H'∧H'.nx=H.nx∧H'.n0=H.n0:=by
 rcases h.is with⟨_,e⟩|⟨b,e,i,g⟩
 ·subst e;simp at c
 have r:rows=rows.take k++rows[k]::rows.drop (k+1):=by rw [←List.drop_eq_getElem_cons c,List.take_append_drop]
 have m:∀q∈rows.take k,q.length=sz:=fun q a=>h.len q (List.mem_of_mem_take a)
 have f:=bW m;rw [List.length_take,Nat.min_eq_left (by omega)]at f;have s:=h.len rows[k] (List.getElem_mem c);have o:(k+1)*sz≤rows.length*sz:=Nat.mul_le_mul_right _ (by omega);rw [Nat.succ_mul]at o;obtain ⟨H',st,M,l,d,p⟩:=bV g i (k:=k*sz) (vs:=r') (by rw [bW h.len];omega);refine ⟨b,e,H',st,⟨.inr ⟨b,by rw [e,List.length_set],by rw [d];exact i,?_⟩,?_⟩,M,l,d⟩
 ·rw [p]
  have:=mQ (rows.take k).flatten rows[k] r' (rows.drop (k+1)).flatten (by omega);rw [f]at this;have j:(rows.take k++rows[k]::rows.drop (k+1)).flatten=(rows.take k).flatten++(rows[k]++(rows.drop (k+1)).flatten):=by rw [List.flatten_append,List.flatten_cons]
  rw [←r]at j;rw [←j]at this;rw [this,List.set_eq_take_append_cons_drop,if_pos c,List.flatten_append,List.flatten_cons]
 ·intro q a
  rcases List.mem_or_eq_of_mem_set a with a|rfl
  ·exact h.len q a
  ·exact n
theorem Ll {G H:AH} {m:Nat} {p:eD} {ps:List Int} {v:MV} {c:dS} {F W:Nat→Prop} {cs:List Value} (R:jC G H m p ps v c) (k:CO F H W cs c):
 Ca E O 23 [.pointer (some ⟨m,0,none⟩),.agg cs.toArray] H (fun x H'=>x= .bool true∧Ext H H'):=by
 have sm:=gY R.inv;have e:=k.wf;have C8:=k;obtain ⟨vs,vo,vt,vl,rs,rfl,RR,hi,wL,qK,hh⟩:=k.run sm;refine Ca.aJ (F:=W0) rfl rfl rfl ?_;have T:=Ext.alloc H (.cells 10 [.int .i64 c.en,vs,vo,vt,.int .i64 c.cost,.int .i64 c.used,.int .i64 c.wh,.int .i64 c.fuel,vl,.bool c.dG]);have q0:(H.alloc (.cells 10 [.int .i64 c.en,vs,vo,vt,.int .i64 c.cost,.int .i64 c.used,.int .i64 c.wh,.int .i64 c.fuel,vl,.bool c.dG])).ld ⟨H.nx,0,none⟩=some (.int .i64 c.en):=ai e rfl;have B:(H.alloc (.cells 10 [.int .i64 c.en,vs,vo,vt,.int .i64 c.cost,.int .i64 c.used,.int .i64 c.wh,.int .i64 c.fuel,vl,.bool c.dG])).ld ⟨H.nx,1,none⟩=some vs:=ai e rfl;have q2:(H.alloc (.cells 10 [.int .i64 c.en,vs,vo,vt,.int .i64 c.cost,.int .i64 c.used,.int .i64 c.wh,.int .i64 c.fuel,vl,.bool c.dG])).ld ⟨H.nx,2,none⟩=some vo:=ai e rfl;have q3:(H.alloc (.cells 10 [.int .i64 c.en,vs,vo,vt,.int .i64 c.cost,.int .i64 c.used,.int .i64 c.wh,.int .i64 c.fuel,vl,.bool c.dG])).ld ⟨H.nx,3,none⟩=some vt:=ai e rfl;have q4:(H.alloc (.cells 10 [.int .i64 c.en,vs,vo,vt,.int .i64 c.cost,.int .i64 c.used,.int .i64 c.wh,.int .i64 c.fuel,vl,.bool c.dG])).ld ⟨H.nx,4,none⟩=some (.int .i64 c.cost):=ai e rfl;have q5:(H.alloc (.cells 10 [.int .i64 c.en,vs,vo,vt,.int .i64 c.cost,.int .i64 c.used,.int .i64 c.wh,.int .i64 c.fuel,vl,.bool c.dG])).ld ⟨H.nx,5,none⟩=some (.int .i64 c.used):=ai e rfl;have q6:(H.alloc (.cells 10 [.int .i64 c.en,vs,vo,vt,.int .i64 c.cost,.int .i64 c.used,.int .i64 c.wh,.int .i64 c.fuel,vl,.bool c.dG])).ld ⟨H.nx,6,none⟩=some (.int .i64 c.wh):=ai e rfl;have q7:(H.alloc (.cells 10 [.int .i64 c.en,vs,vo,vt,.int .i64 c.cost,.int .i64 c.used,.int .i64 c.wh,.int .i64 c.fuel,vl,.bool c.dG])).ld ⟨H.nx,7,none⟩=some (.int .i64 c.fuel):=ai e rfl;have Q:(H.alloc (.cells 10 [.int .i64 c.en,vs,vo,vt,.int .i64 c.cost,.int .i64 c.used,.int .i64 c.wh,.int .i64 c.fuel,vl,.bool c.dG])).ld ⟨H.nx,8,none⟩=some vl:=ai e rfl;have q9:(H.alloc (.cells 10 [.int .i64 c.en,vs,vo,vt,.int .i64 c.cost,.int .i64 c.used,.int .i64 c.wh,.int .i64 c.fuel,vl,.bool c.dG])).ld ⟨H.nx,9,none⟩=some (.bool c.dG):=ai e rfl;have q:(H.alloc (.cells 10 [.int .i64 c.en,vs,vo,vt,.int .i64 c.cost,.int .i64 c.used,.int .i64 c.wh,.int .i64 c.fuel,vl,.bool c.dG])).ldn ⟨H.nx,0,none⟩ 10=some [.int .i64 c.en,vs,vo,vt,.int .i64 c.cost,.int .i64 c.used,.int .i64 c.wh,.int .i64 c.fuel,vl,.bool c.dG]:=bj e 10 rfl;generalize cA:H.alloc (.cells 10 [.int .i64 c.en,vs,vo,vt,.int .i64 c.cost,.int .i64 c.used,.int .i64 c.wh,.int .i64 c.fuel,vl,.bool c.dG])=H1 at T q0 B q2 q3 q4 q5 q6 q7 Q q9 q;have bD:=T.wf e;have g1:H1.get H.nx=some (.cells 10 [.int .i64 c.en,vs,vo,vt,.int .i64 c.cost,.int .i64 c.used,.int .i64 c.wh,.int .i64 c.fuel,vl,.bool c.dG]):=by rw [←cA];exact cx _ _
 have u:H1.ldn ⟨H.nx,0,none⟩ 7=some [.int .i64 c.en,vs,vo,vt,.int .i64 c.cost,.int .i64 c.used,.int .i64 c.wh]:=by rw [bM g1 (by rw [T.n0];exact e) (by simp)];rfl
 simp (maxSteps:=9^7)-implicitDefEqProofs+contextual [-X.ev,W0,cA];apply ah
 ·(simp-implicitDefEqProofs [-X.ev];rfl)
 refine (Gs (R.ext T)).mono ?_;rintro x H2 ⟨rfl,X2⟩;have gT:=X2.wf bD;simp (maxSteps:=9^7)-implicitDefEqProofs+contextual [-X.ev];apply ah
 ·(simp-implicitDefEqProofs [-X.ev];rfl)
 refine (Kr (R.ext (T.trans X2))).mono ?_;rintro x o ⟨cs3,rfl,R3,X3⟩;have kn:=X3.wf gT;obtain ⟨Wu,ZI,Ml,rfl,os1,oo1,ot1,f1⟩:=R3.is;obtain ⟨t,Ud,X4,Ue,Uf,y,r⟩:=fg (H:=o) kn (z:=7) (c:=[.int .i64 0,.slice none 0 0,.slice none 0 0,.slice none 0 0,.int .i64 0,.int .i64 0,.int .i64 0]) (vs:=[.int .i64 c.run.en,Wu,ZI,Ml,.int .i64 c.run.cost,.int .i64 c.run.used,.int .i64 c.run.wh]) rfl;have y0:t.ld ⟨o.nx,0,none⟩=some (.int .i64 c.run.en):=r 0 _ rfl;have y1:t.ld ⟨o.nx,1,none⟩=some Wu:=r 1 _ rfl;have y2:t.ld ⟨o.nx,2,none⟩=some ZI:=r 2 _ rfl;have y3:t.ld ⟨o.nx,3,none⟩=some Ml:=r 3 _ rfl;have y4:t.ld ⟨o.nx,4,none⟩=some (.int .i64 c.run.cost):=r 4 _ rfl;have y5:t.ld ⟨o.nx,5,none⟩=some (.int .i64 c.run.used):=r 5 _ rfl;have y6:t.ld ⟨o.nx,6,none⟩=some (.int .i64 c.run.wh):=r 6 _ rfl;clear r;replace y:t.ldn ⟨o.nx,0,none⟩ 7=some [.int .i64 c.run.en,Wu,ZI,Ml,.int .i64 c.run.cost,.int .i64 c.run.used,.int .i64 c.run.wh]:=y;have J0:=X4.wf kn;have S:=(X2.trans X3).trans X4;have lE:=T.trans S;replace q0:=S.ld q0;replace B:=S.ld B;replace Q:=S.ld Q;replace q:=S.ldn q;replace u:=S.ldn u;have R4:=(xR.toR R3 sm).ext X4;simp (maxSteps:=9^7)-implicitDefEqProofs+contextual [-X.ev,Ud,q];apply ah
 ·(simp-implicitDefEqProofs [-X.ev];rfl)
 refine (iD (k.ext lE)).mono ?_;rintro x H5 ⟨rfl,i⟩;have vu:=lE.trans i;have rk:=i.wf J0;replace q0:=i.ld q0;replace B:=i.ld B;replace Q:=i.ld Q;replace q:=i.ldn q;replace u:=i.ldn u;replace y:=i.ldn y;replace R4:=R4.ext i
 have key:lI c=if cW c then 0 else lI c:=by
  unfold lI cW
  cases C:c.todo with
  |nil=>simp
  |cons a l=>
   cases ho:c.dG with
   |false=>simp
   |true=>rw [R.ov ho]at C;cases C
 cases g:cW c with
 |true=>
  rw [g,if_pos rfl]at key;simp (maxSteps:=9^7)-implicitDefEqProofs+contextual [-X.ev,g,q];apply ah
  ·(simp-implicitDefEqProofs [-X.ev];rfl)
  refine (iD (k.ext vu)).mono ?_;rintro x H6 ⟨rfl,d⟩;have Bi:=vu.trans d;have A0:=d.wf rk;have A:=d.ldn q;have Z:=d.ldn y;simp (maxSteps:=9^7)-implicitDefEqProofs+contextual [-X.ev,g,A,key];apply ah
  ·(simp-implicitDefEqProofs [-X.ev];rfl)
  refine (iD (k.ext Bi)).mono ?_;rintro x H7 ⟨rfl,b⟩;have Wv:=Bi.trans b;have CN:=b.wf A0;have qb:=b.ldn A;have Y:=b.ldn Z;have V:=b.ld (d.ld B);have ub:=b.ldn (d.ldn u);simp (maxSteps:=9^7)-implicitDefEqProofs+contextual [-X.ev,g,qb,Y,ub];apply ah
  ·(simp-implicitDefEqProofs [-X.ev];rfl)
  refine (nS CN ((R4.ext d).ext b) (RR.ext Wv)).mono ?_;rintro x H8 ⟨rfl,f⟩;have Ww:=Wv.trans f;have w:=f.ld V;have eh:=f.wf CN;simp (maxSteps:=9^7)-implicitDefEqProofs+contextual [-X.ev,w];apply ah
  ·(simp-implicitDefEqProofs [-X.ev];rfl)
  refine (uk (R.ext Ww)).mono ?_;rintro x H9 ⟨o9,h,k9⟩;have Wx:=Ww.trans h;simp (maxSteps:=9^7)-implicitDefEqProofs+contextual [-X.ev];apply ah
  ·(simp-implicitDefEqProofs [-X.ev];rfl)
  refine (sD o9.ints (hi.ext Wx) (by have:=sm.1;simp only [dS.run]at this;omega)).mono ?_;rintro x Ha ⟨rfl,rfl⟩;have U:=aV.1 w;have z4:=h.ldn U;have P:=d.n0;have N:=d.nx;have M:=b.n0;have L:=b.nx;have K:=f.n0;have J:=f.nx;have I:=h.n0;have D:=h.nx;simp (maxSteps:=9^7)-implicitDefEqProofs+contextual [-X.ev,aN,aD,aE,P,N,M,L,K,J,I,D,q,A,qb,y,Z,Y,V,w,U,z4];exact ⟨by obtain ⟨u1,u2,u3⟩:=hi.len;rw [u3];simp,Wx⟩
 |false=>
  have C:∃n s l,c.todo=(n,s)::l:=by
   unfold cW at g
   cases hc:c.todo with
   |nil=>rw [hc]at g;simp at g
   |cons a l=>exact ⟨a.1,a.2,l,rfl⟩
  obtain ⟨n,s,l,C⟩:=C;obtain ⟨r0,rs',rfl⟩:=hh n s l C;have en:lI c=n:=by unfold lI;rw [C]
  obtain ⟨av,cv,rfl,hel⟩:=(wL.ext vu).is;obtain ⟨bb,oo,rfl,qH⟩:=hel 0 _ rfl;have l0:=aL (j:=0) qH rfl;have dh:0<(List.length (((.int .i64 n:Value)::r0)::rs'):Int):=by simp
  simp only [Nat.zero_mul,Nat.add_zero]at qH l0;simp (maxSteps:=9^7)-implicitDefEqProofs+contextual [-X.ev,g,q,Q,l0,dh];apply ah
  ·(simp-implicitDefEqProofs [-X.ev];rfl)
  refine (iD (k.ext vu)).mono ?_;rintro x H6 ⟨rfl,d⟩;have Bi:=vu.trans d;have A0:=d.wf rk;have A:=d.ldn q;have Z:=d.ldn y;simp (maxSteps:=9^7)-implicitDefEqProofs+contextual [-X.ev,g,A,en];apply ah
  ·(simp-implicitDefEqProofs [-X.ev];rfl)
  refine (iD (k.ext Bi)).mono ?_;rintro x H7 ⟨rfl,b⟩;have Wv:=Bi.trans b;have CN:=b.wf A0;have qb:=b.ldn A;have Y:=b.ldn Z;have V:=b.ld (d.ld B);have ub:=b.ldn (d.ldn u);simp (maxSteps:=9^7)-implicitDefEqProofs+contextual [-X.ev,g,qb,Y,ub];apply ah
  ·(simp-implicitDefEqProofs [-X.ev];rfl)
  refine (nS CN ((R4.ext d).ext b) (RR.ext Wv)).mono ?_;rintro x H8 ⟨rfl,f⟩;have Ww:=Wv.trans f;have w:=f.ld V;have eh:=f.wf CN;simp (maxSteps:=9^7)-implicitDefEqProofs+contextual [-X.ev,w];apply ah
  ·(simp-implicitDefEqProofs [-X.ev];rfl)
  refine (uk (R.ext Ww)).mono ?_;rintro x H9 ⟨o9,h,k9⟩;have Wx:=Ww.trans h;simp (maxSteps:=9^7)-implicitDefEqProofs+contextual [-X.ev];apply ah
  ·(simp-implicitDefEqProofs [-X.ev];rfl)
  refine (sD o9.ints (hi.ext Wx) (by have:=sm.1;simp only [dS.run]at this;omega)).mono ?_;rintro x Ha ⟨rfl,rfl⟩;have U:=aV.1 w;have z4:=h.ldn U;have P:=d.n0;have N:=d.nx;have M:=b.n0;have L:=b.nx;have K:=f.n0;have J:=f.nx;have I:=h.n0;have D:=h.nx;simp (maxSteps:=9^7)-implicitDefEqProofs+contextual [-X.ev,aN,aD,aE,P,N,M,L,K,J,I,D,q,A,qb,y,Z,Y,V,w,U,z4];exact ⟨by obtain ⟨u1,u2,u3⟩:=hi.len;rw [u3];simp,Wx⟩
theorem Lm (H:AH):Ca E O 30 [.pointer none] H (fun x H'=>x= .tuple #[.int .i64 0,.bool false]∧H'=H):=by
 refine Ca.aJ (F:=LN) rfl rfl rfl ?_;simp (maxSteps:=9^7)-implicitDefEqProofs+contextual [-X.ev,LN]
theorem Ln (H:AH):Ca E O 13 [.pointer none] H (fun x H'=>x= .bool false∧H'=H):=by
 refine Ca.aJ (F:=LL) rfl rfl rfl ?_;simp (maxSteps:=9^7)-implicitDefEqProofs+contextual [-X.ev,LL]
theorem HM (H:AH):Ca E O 12 [.pointer none] H (fun x H'=>x= .slice none 0 0∧H'=H):=by
 refine Ca.aJ (F:=Q9) rfl rfl rfl ?_;simp (maxSteps:=9^7)-implicitDefEqProofs+contextual [-X.ev,Q9]
theorem Lo (H:AH):Ca E O 19 [.pointer none] H (fun x H'=>x= .pointer none∧H'=H):=by
 refine Ca.aJ (F:=Ra) rfl rfl rfl ?_;simp (maxSteps:=9^7)-implicitDefEqProofs+contextual [-X.ev,Ra]
theorem QA {H:AH} (a:H.n0≤H.nx):Ca E O 11 [.pointer none] H (fun x H'=>x= .tuple #[.agg #[.int .i64 0,.slice none 0 0,.slice none 0 0,.slice none 0 0,.int .i64 0,.int .i64 0,.int .i64 0],.bool false]∧Ext H H'):=by
 refine Ca.aJ (F:=N2) rfl rfl rfl ?_;have f:eM [.int .i64 0,.slice none 0 0,.slice none 0 0,.slice none 0 0,.int .i64 0,.int .i64 0,.int .i64 0] []=some (.agg #[.int .i64 0,.slice none 0 0,.slice none 0 0,.slice none 0 0,.int .i64 0,.int .i64 0,.int .i64 0]):=rfl;obtain ⟨i,b,h,j,d,g⟩:=fC a (z:=7) (c:=zR) (vs:=zR) rfl;have e:i.ldn ⟨H.nx,0,none⟩ 7=some zR:=by rw [bM g (by rw [d];exact a) (by simp)];rfl
 simp (maxSteps:=9^7)-implicitDefEqProofs+contextual [-X.ev,N2,f,b,e];exact h
end
section
open Go
open P (CO Fw tj)
theorem jC.none {G H:AH} {m:Nat} {p:eD} {ps:List Int} {v:MV} {c:dS} (h:jC G H m p ps v c) {b:Nat} (a:Mf m v b):G.get b=none∧b<H.nx:=by
 obtain ⟨rows,d,_⟩:=h.is;exact ⟨d.out b a,d.lt a⟩
theorem jC.gnx {G H:AH} {m:Nat} {p:eD} {ps:List Int} {v:MV} {c:dS} (h:jC G H m p ps v c):G.nx≤H.nx:=by
 obtain ⟨rows,a,_⟩:=h.is;exact a.sub.nx
structure Pr where
 m:Nat
 v:MV
 c:dS
 d:dS
 cs:List Value
 W:Nat→Prop
def Pr.ft (q:Pr) (b:Nat):Prop:=Mf q.m q.v b∨q.W b
structure rC (N:Nat) (F:Nat→Prop) (G H:AH) (p:eD) (ps:List Int) (X:Nat→Prop) (L:List Pr):Prop where
 DQ:∀q∈L,jC G H q.m p ps q.v q.c
 co:∀q∈L,CO F H q.W q.cs q.d
 inr:∀q∈L,tj p ps q.d
 wg:∀q∈L,∀b,q.W b→G.get b=none
 lo:∀q∈L,∀b,q.ft b→N≤b
 mf:∀q∈L,∀b,Mf q.m q.v b→¬ F b∧¬ q.W b
 dj:∀(i j:Nat) (q r:Pr),L[i]?=some q→L[j]?=some r→i≠j→∀b,q.ft b→¬ r.ft b
 xs:∀b,X b→N≤b∧b<H.nx∧¬ F b∧G.get b=none∧∀q∈L,¬ q.ft b
 gl:G.nx≤H.nx
 fl:∀b,F b→b<H.nx
 nn:N≤H.nx
section
variable{N:Nat} {F F' X X':Nat→Prop} {G H H':AH} {p:eD} {ps:List Int} {L:List Pr} {k:Nat} {q:Pr}
theorem rC.lt (h:rC N F G H p ps X L) {r:Pr} (a:r∈L) {b:Nat} (c:r.ft b):b<H.nx:=by
 rcases c with z|z
 ·exact ((h.DQ r a).none z).2
 ·exact ((h.co r a).nF z).2
theorem rC.gn (h:rC N F G H p ps X L) {r:Pr} (a:r∈L) {b:Nat} (c:r.ft b):G.get b=none:=by
 rcases c with z|z
 ·exact ((h.DQ r a).none z).1
 ·exact h.wg r a b z
theorem rC.mod {T:Nat→Prop} (h:rC N F G H p ps X L) (M:Mod T H H') (d:∀b,T b→X b) (f:∀b,X' b→b<H'.nx∧(X b∨H.nx≤b)):rC N F G H' p ps X' L where
 DQ:=fun r c=>(h.DQ r c).mod M (fun b a z=>(h.xs b (d b a)).2.2.2.2 r c (.inl z)) (fun b a=>(h.xs b (d b a)).2.2.2.1)
 co:=fun r c=>(h.co r c).mod M (fun b a=>⟨(h.xs b (d b a)).2.2.1,fun z=>(h.xs b (d b a)).2.2.2.2 r c (.inr z)⟩)
 inr:=h.inr
 wg:=h.wg
 lo:=h.lo
 mf:=h.mf
 dj:=h.dj
 xs:=fun b a=>by
  obtain ⟨e,h2⟩:=f b a;rcases h2 with h2|h2
  ·obtain ⟨i,j,g⟩:=h.xs b h2
   exact ⟨i,e,g⟩
  ·exact ⟨ap2 h.nn h2,e,fun z=>by have:=h.fl b z;omega,AH.iF (by have:=h.gl;omega),fun r c z=>by have:=h.lt c z;omega⟩
 gl:=ap2 h.gl M.nx
 fl:=fun b a=>ap3 (h.fl b a) M.nx
 nn:=ap2 h.nn M.nx
theorem rC.ext (h:rC N F G H p ps X L) (E:Ext H H'):rC N F G H' p ps X L:=h.mod (Mod.bU (S:=fun _=>False) E) (by simp) (fun b a=>⟨ap3 (h.xs b a).2.1 E.nx,.inl a⟩)
theorem mem_set {L:List Pr} {k:Nat} {b r:Pr} (h:r∈L.set k b):r=b∨∃j,j≠k∧L[j]?=some r:=by
 obtain ⟨j,a⟩:=List.getElem?_of_mem h;rw [List.getElem?_set]at a;by_cases e:k=j
 ·rw [if_pos e]at a
  split at a
  ·cases a;exact .inl rfl
  ·cases a
 ·rw [if_neg e]at a
  exact .inr ⟨j,fun z=>e z.symm,a⟩
theorem HO {L:List Pr} {k n:Nat} {q f:Pr} (h:L[k]?=some q) (g:∀(i j:Nat) (q r:Pr),L[i]?=some q→L[j]?=some r→i≠j→∀b,q.ft b→¬ r.ft b) (l:∀b,f.ft b→q.ft b∨n≤b) (lt:∀r∈L,∀b,r.ft b→b<n):∀(i j:Nat) (a r:Pr),(L.set k f)[i]?=some a→(L.set k f)[j]?=some r→i≠j→∀b,a.ft b→¬ r.ft b:=by
 intro i j a r hi c ne b e d;rw [List.getElem?_set]at hi c;by_cases o:k=i
 ·subst o
  rw [if_neg ne]at c;rw [if_pos rfl]at hi;split at hi
  ·cases hi
   rcases l b e with z|z
   ·exact g _ _ _ _ h c ne b z d
   ·have:=lt r (apL c) b d;omega
  ·cases hi
 ·rw [if_neg o]at hi
  by_cases m:k=j
  ·subst m
   rw [if_pos rfl]at c;split at c
   ·cases c
    rcases l b d with z|z
    ·exact g _ _ _ _ hi h ne b e z
    ·have:=lt a (apL hi) b e;omega
   ·cases c
  ·rw [if_neg m]at c
   exact g _ _ _ _ hi c ne b e d
theorem rC.bG {v':MV} {t:dS} (h:rC N F G H p ps X L) (l:L[k]?=some q) (S:jC G H' q.m p ps v' t) (M:Mod (Mf q.m q.v) H H') (i:∀b,Mf q.m v' b→Mf q.m q.v b∨H.nx≤b):rC N F G H' p ps X (L.set k {q with v:=v',c:=t}):=by
 have g:=apL l;have s:=h.dj;have o:∀j r,j≠k→L[j]?=some r→∀b,Mf q.m q.v b→¬ r.ft b:=fun j r ne d b a z=>s _ _ _ _ l d (fun e=>ne e.symm) b (.inl a) z
 have own:=fun b (a:Mf q.m q.v b)=>h.mf q g b a
 refine ⟨fun r f=>?_,fun r f=>?_,fun r f=>?_,fun r f b a=>?_,fun r f b a=>?_,fun r f b a=>?_,HO l s (n:=H.nx) ?_ (fun r f b a=>h.lt f a),fun b a=>?_,ap2 h.gl M.nx,fun b a=>ap3 (h.fl b a) M.nx,ap2 h.nn M.nx⟩
 ·rcases mem_set f with rfl|⟨j,ne,d⟩
  ·exact S
  ·exact (h.DQ r (apL d)).mod M (fun b a z=>o j r ne d b a (.inl z)) (fun b a=>h.gn g (.inl a))
 ·rcases mem_set f with rfl|⟨j,ne,d⟩
  ·exact (h.co q g).mod M own
  ·exact (h.co r (apL d)).mod M (fun b a=>⟨(own b a).1,fun z=>o j r ne d b a (.inr z)⟩)
 ·rcases mem_set f with rfl|⟨j,ne,d⟩
  ·exact h.inr q g
  ·exact h.inr r (apL d)
 ·rcases mem_set f with rfl|⟨j,ne,d⟩
  ·exact h.wg q g b a
  ·exact h.wg r (apL d) b a
 ·rcases mem_set f with rfl|⟨j,ne,d⟩
  ·rcases a with z|z
   ·rcases i b z with z|z
    ·exact h.lo q g b (.inl z)
    ·exact ap2 h.nn z
   ·exact h.lo q g b (.inr z)
  ·exact h.lo r (apL d) b a
 ·rcases mem_set f with rfl|⟨j,ne,d⟩
  ·rcases i b a with z|z
   ·exact own b z
   ·exact ⟨fun y=>by have:=h.fl b y;omega,fun y=>by have:=h.lt g (.inr y);omega⟩
  ·exact h.mf r (apL d) b a
 ·intro b a
  rcases a with z|z
  ·rcases i b z with z|z
   ·exact .inl (.inl z)
   ·exact .inr z
  ·exact .inl (.inr z)
 ·obtain ⟨x,w,u,a4,a5⟩:=h.xs b a
  refine ⟨x,ap3 w M.nx,u,a4,fun r f z=>?_⟩;rcases mem_set f with rfl|⟨j,ne,d⟩
  ·rcases z with z|z
   ·rcases i b z with z|z
    ·exact a5 q g (.inl z)
    ·omega
   ·exact a5 q g (.inr z)
  ·exact a5 r (apL d) z
theorem rC.MO {v:Nat→Prop} {E:List Value} {A:dS} (h:rC N F G H p ps X L) (w:L[k]?=some q) (K:CO F' H' v E A) (I:tj p ps A) (M:Mod q.W H H') (C:Fw F q.W H.nx F') (o:∀b,v b→q.W b∨H.nx≤b):rC N F' G H' p ps X (L.set k {q with W:=v,cs:=E,d:=A}):=by
 have g:=apL w;have D:=h.dj;have u:∀j r,j≠k→L[j]?=some r→∀b,q.W b→¬ r.ft b:=fun j r ne c b a z=>D _ _ _ _ w c (fun e=>ne e.symm) b (.inr a) z
 have t:∀b,¬ F b→¬ q.W b→b<H.nx→¬ F' b:=fun b J h2 P z=>by
  rcases C.of b z with y|y|y
  ·exact J y
  ·exact h2 y
  ·omega
 have O:∀b,v b→G.get b=none:=fun b a=>by
  rcases o b a with z|z
  ·exact h.wg q g b z
  ·exact AH.iF (by have:=h.gl;omega)
 refine ⟨fun r f=>?_,fun r f=>?_,fun r f=>?_,fun r f b a=>?_,fun r f b a=>?_,fun r f b a=>?_,HO w D (n:=H.nx) ?_ (fun r f b a=>h.lt f a),fun b a=>?_,ap2 h.gl M.nx,fun b a=>K.fz a,ap2 h.nn M.nx⟩
 ·rcases mem_set f with rfl|⟨j,ne,c⟩
  ·exact (h.DQ q g).mod M (fun b a z=>(h.mf q g b z).2 a) (fun b a=>h.wg q g b a)
  ·exact (h.DQ r (apL c)).mod M (fun b a z=>u j r ne c b a (.inl z)) (fun b a=>h.wg q g b a)
 ·rcases mem_set f with rfl|⟨j,ne,c⟩
  ·exact K
  ·have l:=apL c
   refine (h.co r l).to M.n0 M.nx (fun x i=>⟨C.up x i,M.old x (h.fl x i) fun z=>((h.co q g).nF z).1 i⟩) (fun x i=>⟨M.old x (h.lt l (.inr i)) fun z=>u j r ne c x z (.inr i),t x ((h.co r l).nF i).1 (fun z=>u j r ne c x z (.inr i)) (h.lt l (.inr i))⟩) (fun x i=>K.fz i)
 ·rcases mem_set f with rfl|⟨j,ne,c⟩
  ·exact I
  ·exact h.inr r (apL c)
 ·rcases mem_set f with rfl|⟨j,ne,c⟩
  ·exact O b a
  ·exact h.wg r (apL c) b a
 ·rcases mem_set f with rfl|⟨j,ne,c⟩
  ·rcases a with z|z
   ·exact h.lo q g b (.inl z)
   ·rcases o b z with z|z
    ·exact h.lo q g b (.inr z)
    ·exact ap2 h.nn z
  ·exact h.lo r (apL c) b a
 ·rcases mem_set f with rfl|⟨j,ne,c⟩
  ·obtain ⟨s,m⟩:=h.mf q g b a
   have B:=h.lt g (.inl a);refine ⟨t b s m B,fun z=>?_⟩;rcases o b z with z|z
   ·exact m z
   ·omega
  ·have l:=apL c
   obtain ⟨s,m⟩:=h.mf r l b a;exact ⟨t b s (fun z=>u j r ne c b z (.inl a)) (h.lt l (.inl a)),m⟩
 ·intro b a
  rcases a with z|z
  ·exact .inl (.inl z)
  ·rcases o b z with z|z
   ·exact .inl (.inr z)
   ·exact .inr z
 ·obtain ⟨s,m,B,a4,a5⟩:=h.xs b a
  refine ⟨s,ap3 m M.nx,t b B (fun z=>a5 q g (.inr z)) m,a4,fun r f z=>?_⟩;rcases mem_set f with rfl|⟨j,ne,c⟩
  ·rcases z with z|z
   ·exact a5 q g (.inl z)
   ·rcases o b z with z|z
    ·exact a5 q g (.inr z)
    ·omega
  ·exact a5 r (apL c) z
theorem rC.push {q:Pr} (h:rC N F G H p ps X L) (A:jC G H q.m p ps q.v q.c) (B:CO F H q.W q.cs q.d) (I:tj p ps q.d) (x:∀b,q.W b→G.get b=none) (n:∀b,q.ft b→N≤b∧¬ X b∧∀r∈L,¬ r.ft b) (y:∀b,Mf q.m q.v b→¬ F b∧¬ q.W b):rC N F G H p ps X (L++[q]):=by
 have mem:∀{r},r∈L++[q]→r∈L∨r=q:=fun h=>by simpa using h
 refine ⟨fun r f=>?_,fun r f=>?_,fun r f=>?_,fun r f b g=>?_,fun r f b g=>?_,fun r f b g=>?_,fun i j a r hi t ne b o f=>?_,fun b g=>?_,h.gl,h.fl,h.nn⟩
 ·rcases mem f with f|rfl
  ·exact h.DQ r f
  ·exact A
 ·rcases mem f with f|rfl
  ·exact h.co r f
  ·exact B
 ·rcases mem f with f|rfl
  ·exact h.inr r f
  ·exact I
 ·rcases mem f with f|rfl
  ·exact h.wg r f b g
  ·exact x b g
 ·rcases mem f with f|rfl
  ·exact h.lo r f b g
  ·exact (n b g).1
 ·rcases mem f with f|rfl
  ·exact h.mf r f b g
  ·exact y b g
 ·have two:∀{i:Nat} {a:Pr},(L++[q])[i]?=some a→L[i]?=some a∨(i=L.length∧a=q):=fun{i a} e=>by
   by_cases l:i<L.length
   ·rw [apT l]at e;exact .inl e
   ·rw [apX (by omega)]at e
    have:i- L.length=0:=by
     have:=(apM.1 e).1;simp at this;omega
    rw [this]at e;cases e;exact .inr ⟨by omega,rfl⟩
  rcases two hi with u|⟨M,C⟩
  ·rcases two t with s|⟨D,w⟩
   ·exact h.dj _ _ _ _ u s ne b o f
   ·rw [w]at f
    exact (n b f).2.2 a (apL u) o
  ·rw [C]at o
   rcases two t with s|⟨D,w⟩
   ·exact (n b o).2.2 r (apL s) f
   ·omega
 ·obtain ⟨K,J,E,a4,a5⟩:=h.xs b g
  refine ⟨K,J,E,a4,fun r f z=>?_⟩;rcases mem f with f|rfl
  ·exact a5 r f z
  ·exact (n b z).2.1 g
end
end
section
open Go Go.RowKit Go.WideShapes Go.ChangeShapes
open P (dH tg K3 Zz Hr Hs CO Fw tj yp BW B1 iD)
theorem uA (H:AH):vG H [.int .i64 0,.slice none 0 0,.slice none 0 0,.slice none 0 0,.int .i64 0,.int .i64 0,.int .i64 0] ph:=
 (xR.zero H 0).toR ⟨by simp [ph],by simp [ph],by simp [ph]⟩
theorem tm {H:AH} (e:H.n0≤H.nx):Ca E O 17 [] H (fun x H'=>x= .bool true∧Ext H H'):=by
 refine Ca.aJ (F:=WX) rfl rfl rfl ?_;have l:eM [.int .i64 0,.slice none 0 0,.slice none 0 0,.slice none 0 0,.int .i64 0,.int .i64 0,.int .i64 0] []=some (.agg #[.int .i64 0,.slice none 0 0,.slice none 0 0,.slice none 0 0,.int .i64 0,.int .i64 0,.int .i64 0]):=rfl;simp (maxSteps:=9^7)-implicitDefEqProofs+contextual [-X.ev,WX];apply ah
 ·(simp-implicitDefEqProofs [-X.ev];rfl)
 refine (Lm H).mono ?_;rintro x t ⟨rfl,rfl⟩;simp (maxSteps:=9^7)-implicitDefEqProofs+contextual [-X.ev];apply ah
 ·(simp-implicitDefEqProofs [-X.ev];rfl)
 refine (QA e).mono ?_;rintro x q ⟨rfl,g⟩;have a:=g.wf e;obtain ⟨i,b,f,r,j,m⟩:=fC a (z:=7) (c:=zR) (vs:=zR) rfl;have k:=f.wf a;have d:i.ldn ⟨q.nx,0,none⟩ 7=some zR:=by rw [bM m (by rw [j];exact a) (by simp)];rfl
 simp (maxSteps:=9^7)-implicitDefEqProofs+contextual [-X.ev,b,d];apply ah
 ·(simp-implicitDefEqProofs [-X.ev];rfl)
 refine (Ln i).mono ?_;rintro x h ⟨rfl,rfl⟩;simp (maxSteps:=9^7)-implicitDefEqProofs+contextual [-X.ev,b,d,l];apply ah
 ·(simp-implicitDefEqProofs [-X.ev];rfl)
 refine (nS k (uA h) (uA h)).mono ?_;rintro x p ⟨rfl,n⟩;simp (maxSteps:=9^7)-implicitDefEqProofs+contextual [-X.ev];apply ah
 ·(simp-implicitDefEqProofs [-X.ev];rfl)
 refine (HM p).mono ?_;rintro x o ⟨rfl,rfl⟩;simp (maxSteps:=9^7)-implicitDefEqProofs+contextual [-X.ev];apply ah
 ·(simp-implicitDefEqProofs [-X.ev];rfl)
 refine (Lo o).mono ?_;rintro x s ⟨rfl,rfl⟩;simp (maxSteps:=9^7)-implicitDefEqProofs+contextual [-X.ev];exact (g.trans f).trans n
theorem da.cell {H:AH} {sz k:Nat} {v:Value} {rows:List (List Value)} {r:List Value} (h:da H sz v rows) (a:rows[k]?=some r):∃b,v= .slice (some ⟨b,0,none⟩) rows.length rows.length∧H.ldn ⟨b,k*sz,none⟩ sz=some r:=by
 rcases h.is with⟨_,e⟩|⟨b,e,i,g⟩
 ·subst e;simp at a
 obtain ⟨l,f,j,d,c⟩:=h.rows.at a;rw [e]at d;cases d;exact ⟨b,e,by rw [Nat.zero_add]at c;exact c⟩
abbrev B7 (q:Pr):List Value:=[.pointer (some ⟨q.m,0,none⟩)]
structure MI (F:Nat→Prop) (G H3 H:AH) (p:eD) (ps:List Int) (vm vc:Value) (L:List Pr):Prop where
 X:Ext H3 H
 Sa:∃F',(∀x,F x→F' x)∧rC H3.nx F' G H p ps (fun b=>aU vm b∨aU vc b) L
 om:da H 1 vm (L.map B7)
 oc:da H 10 vc (L.map (·.cs))
 cd:∀q∈L,q.c=q.d
theorem MI.ext {F:Nat→Prop} {G c H H':AH} {p:eD} {ps:List Int} {a b:Value} {L:List Pr} (h:MI F G c H p ps a b L) (E:Ext H H'):MI F G c H' p ps a b L:=by
 obtain ⟨e,d,h2⟩:=h.Sa;exact ⟨h.X.trans E,⟨e,d,h2.ext E⟩,h.om.ext E,h.oc.ext E,h.cd⟩
theorem MI.len {F:Nat→Prop} {G f H:AH} {p:eD} {ps:List Int} {b d:Value} {L:List Pr} (h:MI F G f H p ps b d L):∃a c,b= .slice a L.length c:=by
 obtain ⟨a,c,e⟩:=h.om.shape;exact ⟨a,c,by rw [List.length_map]at e;exact e⟩
theorem MI.here {F:Nat→Prop} {G f H:AH} {p:eD} {ps:List Int} {c d:Value} {L:List Pr} (h:MI F G f H p ps c d L) {j:Nat} {q:Pr} (e:L[j]?=some q):
 Ca E O 23 [.pointer (some ⟨q.m,0,none⟩),.agg q.cs.toArray] H (fun x H'=>x= .bool true∧Ext H H'):=by
 obtain ⟨i,g,h2⟩:=h.Sa;have a:=apL e;have b:=h2.co q a;rw [←h.cd q a]at b;exact Ll (h2.DQ q a) b
theorem MI.cells {F:Nat→Prop} {G n H:AH} {p:eD} {ps:List Int} {d e:Value} {L:List Pr} (h:MI F G n H p ps d e L) {j:Nat} {q:Pr} (c:L[j]?=some q):∃a b,d= .slice (some ⟨a,0,none⟩) L.length L.length∧e= .slice (some ⟨b,0,none⟩) L.length L.length∧H.ld ⟨a,j,none⟩=some (.pointer (some ⟨q.m,0,none⟩))∧H.ldn ⟨b,j*10,none⟩ 10=some q.cs∧q.cs.length=10:=by
 obtain ⟨a,i,f⟩:=h.om.cell (k:=j) (r:=B7 q) (by rw [aqa,c];rfl);obtain ⟨b,g,l⟩:=h.oc.cell (k:=j) (r:=q.cs) (by rw [aqa,c];rfl);rw [List.length_map]at i g;rw [Nat.mul_one]at f;obtain ⟨s,o,h2⟩:=h.Sa;exact ⟨a,b,i,g,aV.2 f,l,(h2.co q (apL c)).len⟩
structure SJ (F:Nat→Prop) (G H3:AH) (p:eD) (ps:List Int) (h0 h1:Nat) (va:Value) (i:Nat) (vm vc:Value) (L:List Pr) (fr:Fr) (H':AH):Prop where
 I:MI F G H3 H' p ps vm vc L
 l0:0<L.length
 l8:L.length≤8
 f3:fr.get 3=va
 f4:fr.get 4= .pointer (some ⟨h0,0,none⟩)
 f6:fr.get 6= .pointer (some ⟨h1,0,none⟩)
 f12:fr.get 12=vm
 f13:fr.get 13=vc
 f14:fr.get 14= .int .i64 i
def SI (F:Nat→Prop) (G H3:AH) (p:eD) (ps:List Int) (n h0 h1:Nat) (va:Value) (kk:Nat) (fr:Fr) (H':AH):Prop:=
 ∃(i:Nat) (vm vc:Value) (L:List Pr),i+kk=n∧SJ F G H3 p ps h0 h1 va i vm vc L fr H'
def SP (F:Nat→Prop) (G H3:AH) (p:eD) (ps:List Int) (h0 h1:Nat) (va:Value) (i:Nat) (fr:Fr) (H':AH):Prop:=
 ∃(vm vc:Value) (L:List Pr),SJ F G H3 p ps h0 h1 va i vm vc L fr H'
def SL (F:Nat→Prop) (G H3:AH) (p:eD) (ps:List Int) (h0 h1:Nat) (va:Value) (i:Nat) (vm vc:Value) (L:List Pr) (kk:Nat) (fr:Fr) (H':AH):Prop:=
 ∃j:Nat,j+kk=L.length∧fr.get 18= .int .i64 j∧SJ F G H3 p ps h0 h1 va i vm vc L fr H'
theorem tn {α:Type} {l:List α} {k:Nat} {a:α} (h:l[k]?=some a):l.set k a=l:=by
 apply List.ext_getElem?;intro i;rw [List.getElem?_set];by_cases e:k=i
 ·subst e
  rw [if_pos rfl,h,if_pos (apM.1 h).1]
 ·rw [if_neg e]
theorem QD {F W:Nat→Prop} {H:AH} {cs:List Value} {c:dS} (k:CO F H W cs c):eG cs cs=true:=by
 have h:=k.nW;unfold P.DP at h
 cases h with|cons i h=>
 cases h with|cons g h=>
 cases h with|cons f h=>
 cases h with|cons e h=>
 cases h with|cons a4 h=>
 cases h with|cons a5 h=>
 cases h with|cons a6 h=>
 cases h with|cons a7 h=>
 cases h with|cons d h=>
 cases h with|cons a9 h=>
 cases h;obtain ⟨o,n,rfl⟩:=(P.jZ g).len;obtain ⟨m,h2,_⟩:=P.fG f;obtain ⟨l,b,_⟩:=P.fG e;obtain ⟨j,a,_⟩:=P.fG d;obtain ⟨_,_,rfl,_⟩:=h2.is;obtain ⟨_,_,rfl,_⟩:=b.is;obtain ⟨_,_,rfl,_⟩:=a.is;cases i;cases a4;cases a5;cases a6;cases a7;cases a9;simp [eG,dz]
theorem B8 {H:AH} {sz:Nat} {c:List Value} (a:H.n0≤H.nx) (h:c.length=sz):da (H.alloc (.cells sz c)) sz (.slice (some ⟨H.nx,0,none⟩) 1 1) [c]:=⟨.inr ⟨H.nx,rfl,a,by rw [cx];simp⟩,by simpa using h⟩
theorem v9 {p:eD} {t:wu} {c d:List Value} {fuel:Int} {F:Nat→Prop} {H:AH} {va:Value} {lM:List Int} (hw:H.n0≤H.nx) (hF:∀x,F x→x<H.nx) (hfi:oh fuel) (okp:K3 p) (hp:P.gg F H (dH p) c) (Dq:Zz t) (ht:P.gg F H (tg t) d) (ha:Rows H 1 va (lM.map fun n=>[.int .u8 n])) (hal:lM.length<2^60) (hab:∀n∈lM,0≤n∧n<256):
 Ca E O 4 [.agg c.toArray,.int .i64 fuel,.agg d.toArray,va] H (fun x _=>x= .bool true):=by
 have PL:=Hr okp hp;have ZK:=Hs Dq ht;obtain ⟨vv,vb,rb,rfl,hi,hv,uG,hr,hl,lP⟩:=PL.is;obtain ⟨vs,vp,rfl,ss,sp,l1,l2,_,_⟩:=ZK.is;refine Ca.aJ (F:=a4) rfl rfl rfl ?_;obtain ⟨u1,c1,lD⟩:=hv.len;obtain ⟨u2,c2,hvb⟩:=hr.len;rw [hl.length]at hvb;obtain ⟨u3,c3,fO,afh⟩:=ha.is;rw [List.length_map]at fO;subst fO;have X1:=Ext.alloc H (.cells 3 [.int .i64 p.w,vv,vb]);have q0:(H.alloc (.cells 3 [.int .i64 p.w,vv,vb])).ld ⟨H.nx,0,none⟩=some (.int .i64 p.w):=ai hw rfl;have M:(H.alloc (.cells 3 [.int .i64 p.w,vv,vb])).ld ⟨H.nx,1,none⟩=some vv:=ai hw rfl;have D:(H.alloc (.cells 3 [.int .i64 p.w,vv,vb])).ld ⟨H.nx,2,none⟩=some vb:=ai hw rfl;have q:(H.alloc (.cells 3 [.int .i64 p.w,vv,vb])).ldn ⟨H.nx,0,none⟩ 3=some [.int .i64 p.w,vv,vb]:=bj hw 3 rfl;generalize cA:H.alloc (.cells 3 [.int .i64 p.w,vv,vb])=Z at X1 q0 M D q;have bD:=X1.wf hw;have X2:=Ext.alloc Z (.cells 2 [vs,vp]);have r0:(Z.alloc (.cells 2 [vs,vp])).ld ⟨Z.nx,0,none⟩=some vs:=ai bD rfl;have r1:(Z.alloc (.cells 2 [vs,vp])).ld ⟨Z.nx,1,none⟩=some vp:=ai bD rfl;have r:(Z.alloc (.cells 2 [vs,vp])).ldn ⟨Z.nx,0,none⟩ 2=some [vs,vp]:=bj bD 2 rfl;generalize iE:Z.alloc (.cells 2 [vs,vp])=H2 at X2 r0 r1 r;have jL:=X2.wf bD;replace q0:=X2.ld q0;replace M:=X2.ld M;replace D:=X2.ld D;replace q:=X2.ldn q;have X:=X1.trans X2;simp (maxSteps:=9^7)-implicitDefEqProofs+contextual [-X.ev,a4,cA,iE,D];apply ah
 ·(simp-implicitDefEqProofs [-X.ev];rfl)
 refine (w7 jL lP (hr.ext X) (hl.ext X) (by omega)).mono ?_;rintro x R ⟨rfl,X3⟩;by_cases h1:aw p.body≤600
 case neg=>
  simp (maxSteps:=9^7)-implicitDefEqProofs+contextual [-X.ev,h1];apply ah
  ·(simp-implicitDefEqProofs [-X.ev];rfl)
  refine (pF R).mono ?_;rintro x H4 ⟨rfl,rfl⟩;simp (maxSteps:=9^7)-implicitDefEqProofs+contextual [-X.ev]
 by_cases h2:lM.length≤200
 case neg=>
  have h3:(200:Int)<lM.length:=by omega
  simp (maxSteps:=9^7)-implicitDefEqProofs+contextual [-X.ev,h1,h3];apply ah
  ·(simp-implicitDefEqProofs [-X.ev];rfl)
  refine (pF R).mono ?_;rintro x H4 ⟨rfl,rfl⟩;simp (maxSteps:=9^7)-implicitDefEqProofs+contextual [-X.ev]
 have hps:P.RF F H (P.m8 t.bz) vp:=by
  cases ht with|cons _ h=>cases h with|cons h _=>exact h
 have gM:=X.trans X3;have kn:=X3.wf jL;have h3:¬ (200:Int)<lM.length:=by omega
 replace q0:=X3.ld q0;replace M:=X3.ld M;replace D:=X3.ld D;replace q:=X3.ldn q;replace r:=X3.ldn r;have qB:=q;have rB:=r;simp (maxSteps:=9^7)-implicitDefEqProofs+contextual [-X.ev,h1,h3,q,r];apply ah
 ·(simp-implicitDefEqProofs [-X.ev];rfl)
 refine (Pf (fuel:=fuel) kn (PL.ext gM) (ZK.ext gM)).mono ?_;rintro x H4 B;by_cases hk:j9 p fuel t=0
 case neg=>
  rw [if_neg hk]at B;obtain ⟨rfl,K⟩:=B;have lE:=gM.trans K;have mK:=K.wf kn;replace q0:=K.ld q0;replace M:=K.ld M;replace D:=K.ld D;replace q:=K.ldn q;replace r:=K.ldn r;simp (maxSteps:=9^7)-implicitDefEqProofs+contextual [-X.ev,q,r];apply ah
  ·(simp-implicitDefEqProofs [-X.ev];rfl)
  refine (tN (fuel:=fuel) mK (PL.ext lE) (ZK.ext lE)).mono ?_;rintro x H5 ⟨rfl,X5⟩;simp (maxSteps:=9^7)-implicitDefEqProofs+contextual [-X.ev,hk];apply ah
  ·(simp-implicitDefEqProofs [-X.ev];rfl)
  refine (tm (X5.wf mK)).mono ?_;rintro x H6 ⟨rfl,X6⟩;simp (maxSteps:=9^7)-implicitDefEqProofs+contextual [-X.ev];apply ah
  ·(simp-implicitDefEqProofs [-X.ev];rfl)
  refine (pF H6).mono ?_;rintro x H7 ⟨rfl,rfl⟩;simp (maxSteps:=9^7)-implicitDefEqProofs+contextual [-X.ev]
 rw [if_pos hk]at B;obtain ⟨m,rfl,G,v,hM,K,pf,hG⟩:=B;obtain ⟨hinv,_,hf1,Pg,_⟩:=uh hk;have hlen:=P.eO p.body
 have I0:tj p t.bz (gI p fuel t):={toInv:=hinv,Dq:=P.kM okp.2.2.1,len:=by show((bI p.body 0).length:Int)+500*fuel≤2^30;rw [P.fH];omega}
 have lE:=gM.trans K;have mK:=K.wf kn;replace q0:=K.ld q0;replace M:=K.ld M;replace D:=K.ld D;replace q:=K.ldn q;replace r:=K.ldn r;simp (maxSteps:=9^7)-implicitDefEqProofs+contextual [-X.ev,q,r];apply ah
 ·(simp-implicitDefEqProofs [-X.ev];rfl)
 refine (tN (fuel:=fuel) mK (PL.ext lE) (ZK.ext lE)).mono ?_;rintro x H5 ⟨rfl,X5⟩;have vu:=lE.trans X5;have rk:=X5.wf mK;replace q0:=X5.ld q0;replace M:=X5.ld M;replace D:=X5.ld D;replace q:=X5.ldn q;replace r:=X5.ldn r;have b1:=mZ (sz:=1) (z:=[.pointer none]) (H:=H5) (v:=.pointer (some ⟨m,0,none⟩)) rfl rfl rfl
 obtain ⟨H6,Mm⟩:∃H6,H5.alloc (.cells 1 [.pointer (some ⟨m,0,none⟩)])=H6:=⟨_,rfl⟩
 have X6:Ext H5 H6:=by rw [←Mm];exact Ext.alloc _ _
 have A0:=X6.wf rk;have e6:H6.nx=H5.nx+1:=by rw [←Mm];rfl
 have g6:H6.get H5.nx=some (.cells 1 [.pointer (some ⟨m,0,none⟩)]):=by rw [←Mm];exact cx _ _
 simp only [mi,Mm]at b1;have Bi:=vu.trans X6
 have hF6:∀x,F x→F x∧H6.get x=H.get x:=fun x B=>⟨B,Bi.old x (hF x B)⟩
 replace q0:=X6.ld q0;replace M:=X6.ld M;replace D:=X6.ld D;replace q:=X6.ldn q;replace r:=X6.ldn r;simp (maxSteps:=9^7)-implicitDefEqProofs+contextual [-X.ev,hk,b1,q,r];apply ah
 ·(simp-implicitDefEqProofs [-X.ev];rfl)
 refine (yp (F:=F) (fuel:=fuel) (fun x B=>ap3 (hF x B) Bi.nx) A0 (P.gg.mono Bi.n0 hF6 hp) (P.gg.mono Bi.n0 hF6 ht) (gY hinv).1 (by omega)).mono ?_;rintro x H7 ⟨cs,F7,W,rfl,hC,X7,fw7,Wy⟩;have CN:=X7.wf A0;have Sp:=hC.len;have b2:=mZ (sz:=10) (z:=[.int .i64 0,.slice none 0 0,.slice none 0 0,.slice none 0 0,.int .i64 0,.int .i64 0,.int .i64 0,.int .i64 0,.slice none 0 0,.bool false]) (H:=H7) (v:=.agg cs.toArray) (by rw [dM];exact Sp) rfl rfl
 obtain ⟨H8,Wz⟩:∃H8,H7.alloc (.cells 10 cs)=H8:=⟨_,rfl⟩
 have X8:Ext H7 H8:=by rw [←Wz];exact Ext.alloc _ _
 have eh:=X8.wf CN;have e8:H8.nx=H7.nx+1:=by rw [←Wz];rfl
 have g8:H8.get H7.nx=some (.cells 10 cs):=by rw [←Wz];exact cx _ _
 simp only [dM,Wz]at b2;have X48:=X5.trans ((X6.trans X7).trans X8);have X38:=K.trans X48;have MP:=X7.trans X8;have n34:=K.nx;have n45:=X5.nx;have n67:=X7.nx;have lF:=gM.nx;have hF3:∀x,F x→x<R.nx:=fun x B=>ap3 (hF x B) lF
 have hM4:=fun b (f:Mf m v b)=>hM.none f
 have nF7:∀b,F7 b→F b∨H6.nx≤b:=fun b f=>by
  rcases fw7.of b f with z|z|z
  ·exact .inl z
  ·exact z.elim
  ·exact .inr z
 have hG4:=hM.gnx
 have O6:da H8 1 (.slice (some ⟨H5.nx,0,none⟩) 1 1) [[.pointer (some ⟨m,0,none⟩)]]:=⟨.inr ⟨H5.nx,rfl,by rw [MP.n0,X6.n0];exact rk,by rw [MP.old _ (by omega)];exact g6⟩,by simp⟩
 have O8:da H8 10 (.slice (some ⟨H7.nx,0,none⟩) 1 1) [cs]:=⟨.inr ⟨H7.nx,rfl,by rw [X8.n0];exact CN,by rw [g8];simp⟩,by simpa using Sp⟩
 have g:rC R.nx F7 G H8 p t.bz (fun b=>aU (.slice (some ⟨H5.nx,0,none⟩) 1 1) b∨aU (.slice (some ⟨H7.nx,0,none⟩) 1 1) b) [⟨m,v,gI p fuel t,gI p fuel t,cs,W⟩]:={
  DQ:=fun q o=>by simp at o;subst o;exact hM.ext X48
  co:=fun q o=>by simp at o;subst o;exact hC.ext X8
  inr:=fun q o=>by simp at o;subst o;exact I0
  wg:=fun q o b f=>by simp at o;subst o;exact AH.iF (by have:=Wy b f;omega)
  lo:=fun q o b f=>by
   simp at o;subst o;rcases f with z|z
   ·exact pf b z
   ·have:=Wy b z;omega
  mf:=fun q o b f=>by
   simp at o;subst o;have a1:=(hM4 b f).2;have a2:=pf b f;refine ⟨fun z=>?_,fun z=>by have:=Wy b z;omega⟩;rcases nF7 b z with z|z
   ·have:=hF3 b z;omega
   ·omega
  dj:=fun i j q r hi hj ne=>by
   have l1:=(apM.1 hi).1;have l2:=(apM.1 hj).1;simp at l1 l2;omega
  xs:=fun b f=>by
   simp only [aS]at f;have nb:b<H8.nx∧H5.nx≤b:=by omega
   refine ⟨by omega,nb.1,fun z=>?_,AH.iF (by omega),fun q o z=>?_⟩
   ·rcases nF7 b z with z1|z1
    ·have:=hF3 b z1;omega
    ·rcases f with rfl|rfl
     ·omega
     ·have:=hC.fz z;omega
   ·simp at o;subst o
    rcases z with z|z
    ·have:=(hM4 b z).2;omega
    ·have a1:=Wy b z
     have a2:=(hC.nF z).2;rcases f with rfl|rfl<;>omega
  gl:=by omega
  fl:=fun b f=>by have:=hC.fz f;omega
  nn:=by omega}
 have F07:∀x,F x→F7 x:=fw7.up;have XB:Ext R H8:=X38;replace q0:=MP.ld q0;replace M:=MP.ld M;replace D:=MP.ld D;replace q:=MP.ldn q;replace r:=MP.ldn r;simp (maxSteps:=9^7)-implicitDefEqProofs+contextual [-X.ev,b2];clear Wz Mm g8 g6 b1 b2
 have I0:MI F G R H8 p t.bz (.slice (some ⟨H5.nx,0,none⟩) 1 1) (.slice (some ⟨H7.nx,0,none⟩) 1 1) [⟨m,v,gI p fuel t,gI p fuel t,cs,W⟩]:=⟨XB,⟨F7,F07,g⟩,O6,O8,fun q o=>by simp at o;subst o;rfl⟩
 refine bZ (SI F G R p t.bz lM.length H.nx Z.nx (.slice u3 lM.length c3)) ?_ lM.length ⟨0,_,_,_,by omega,I0,by simp,by simp,by simp,by simp,by simp,by simp,by simp,by simp⟩;clear I0 g O6 O8 hM pf hC fw7 Wy hM4 nF7;clear q r q0 M D hG hG4 hF6 F07 XB X38 MP X48 e8 eh X8 X7 CN Sp;rintro kk C H9 ⟨i,vm,vc,L,hik,⟨I,qH,RB,Y,U,T,f12,f13,f14⟩⟩;have X9:=I.X;have q:=X9.ldn qB;have r:=X9.ldn rB;have r1:=X9.ld (aL (j:=1) rB rfl);have Ov:=X9.wf kn;have x39:=X9.nx;have wi:∀{i:Nat},i≤1000→IntKind.i64.wrap ((i:Int)+1)=((i+1:Nat):Int):=fun h=>aj ⟨by omega,by omega⟩
 by_cases h:i<lM.length
 case neg=>
  obtain ⟨q0,hq0⟩:∃q0,L[0]?=some q0:=⟨_,apG qH⟩
  obtain ⟨bm,bc,rfl,rfl,g1,S,g3⟩:=I.cells hq0;rw [Nat.zero_mul]at S;simp (maxSteps:=9^7)-implicitDefEqProofs+contextual [-X.ev,h,Y,U,T,f12,f13,f14,g1,S,qH];apply ah
  ·(simp-implicitDefEqProofs [-X.ev];rfl)
  refine (I.here hq0).mono ?_;rintro x Ha ⟨rfl,s⟩;have g1a:=s.ld g1;have QE:=s.ldn S;have ean:=s.n0;have eax:=s.nx;simp (maxSteps:=9^7)-implicitDefEqProofs+contextual [-X.ev];apply ah
  ·(simp-implicitDefEqProofs [-X.ev];rfl)
  refine (tm (s.wf Ov)).mono ?_;rintro x Hb ⟨rfl,Xb⟩;simp (maxSteps:=9^7)-implicitDefEqProofs+contextual [-X.ev];apply ah
  ·(simp-implicitDefEqProofs [-X.ev];rfl)
  refine (pF Hb).mono ?_;rintro x Hc ⟨rfl,rfl⟩;have ebn:=Xb.n0;have ebx:=Xb.nx;simp (maxSteps:=9^7)-implicitDefEqProofs+contextual [-X.ev,aN,aD,aE,ean,eax,ebn,ebx,g1,S,g1a,QE]
 obtain ⟨a,hya⟩:∃a,lM[i]?=some a:=⟨_,apG h⟩
 obtain ⟨ba,oa,rfl,la⟩:=afh i [.int .u8 a] (by rw [aqa,hya];rfl);have ea:=(gM.trans X9).ld (aV.2 la);rw [Nat.mul_one]at ea;obtain ⟨a1,a2⟩:=hab a (apL hya)
 obtain ⟨k,hk⟩:∃k:Nat,a/2%(L.length:Int)=k:=⟨(a/2%(L.length:Int)).toNat,(Int.toNat_of_nonneg (Int.emod_nonneg _ (by omega))).symm⟩
 have V:k<L.length:=by have:=Int.emod_lt_of_pos (a/2) (show(0:Int)<L.length by omega);omega
 obtain ⟨u,hu⟩:∃u,L[k]?=some u:=⟨_,apG V⟩
 have A:=apL hu;have w0:IntKind.i64.wrap a=a:=aj ⟨by omega,by omega⟩;have ab1:=sy (a:=a) (b:=2) a1 (by omega) (by omega);have ZL:=gG (a:=a/2) (b:=(L.length:Int)) (by omega);rw [if_neg (by omega),hk]at ZL
 have ab3:de .rem (.int .u8 a) (.int .u8 2)=some (.int .u8 (a%2)):=by
  simp [de,dL,jq];rw [Int.tmod_eq_emod_of_nonneg a1]
 obtain ⟨bm,bc,em,ec,g1,S,g3⟩:=I.cells hu;subst em ec;obtain ⟨F',ZM,g⟩:=I.Sa;have Dy:=g.co u A;have IG:=I.cd u A;refine AV [.r,.l,.l,.r,.r] (fun C H'=>H9=H'∧C.get 3= .slice (some ⟨ba,oa,none⟩) lM.length c3∧C.get 4= .pointer (some ⟨H.nx,0,none⟩)∧C.get 6= .pointer (some ⟨Z.nx,0,none⟩)∧C.get 12= .slice (some ⟨bm,0,none⟩) L.length L.length∧C.get 13= .slice (some ⟨bc,0,none⟩) L.length L.length∧C.get 14= .int .i64 i∧C.get 15= .int .i64 k) rfl ?_ ?_
 ·clear Y U T f12 f13 f14
  rintro C _ ⟨rfl,Y,U,T,f12,f13,f14,f15⟩;refine AV [.r,.r,.r] (SP F G R p t.bz H.nx Z.nx (.slice (some ⟨ba,oa,none⟩) lM.length c3) i) rfl ?_ ?_
  ·rintro C Hj ⟨vm,vc,L,J⟩
   simp (maxSteps:=9^7)-implicitDefEqProofs+contextual [-X.ev];refine bZ (SL F G R p t.bz H.nx Z.nx (.slice (some ⟨ba,oa,none⟩) lM.length c3) i vm vc L) ?_ L.length ⟨0,by omega,by simp,J.I,J.l0,J.l8,by simp [J.f3],by simp [J.f4],by simp [J.f6],by simp [J.f12],by simp [J.f13],by simp [J.f14]⟩;clear J;rintro kj C Hl ⟨j,hjk,f18,I,qH,RB,Y,U,T,f12,f13,f14⟩;have wl:=(I.X).wf kn;by_cases hj:j<L.length
   ·obtain ⟨qj,hqj⟩:∃q,L[j]?=some q:=⟨_,apG hj⟩
    obtain ⟨bm,bc,rfl,rfl,g1,S,g3⟩:=I.cells hqj;simp (maxSteps:=9^7)-implicitDefEqProofs+contextual [-X.ev,f12,f13,f18,hj,g1,S,g3];apply ah
    ·(simp-implicitDefEqProofs [-X.ev];rfl)
    refine (I.here hqj).mono ?_;rintro x Hm ⟨rfl,Xm⟩;have g1m:=Xm.ld g1;have g2m:=Xm.ldn S;have emn:=Xm.n0;have emx:=Xm.nx;simp (maxSteps:=9^7)-implicitDefEqProofs+contextual [-X.ev,aN,aD,aE,emn,emx,g1,S,g1m,g2m,f18,wi (show j≤1000 by omega)];exact ⟨kj- 1,by omega,j+1,by omega,by simp,I.ext Xm,qH,RB,by simp [Y],by simp [U],by simp [T],by simp [f12],by simp [f13],by simp [f14]⟩
   ·obtain ⟨am,cm,rfl⟩:=I.len
    simp (maxSteps:=9^7)-implicitDefEqProofs+contextual [-X.ev,f12,f14,f18,hj,wi (show i≤1000 by omega)];exact ⟨kk- 1,by omega,i+1,_,_,L,by omega,I,qH,RB,by simp [Y],by simp [U],by simp [T],by simp [f12],by simp [f13],by simp⟩
  intro rest fI;simp (maxSteps:=9^7)-implicitDefEqProofs+contextual [-X.ev,f13,f15,V,S,g3];apply ah
  ·(simp-implicitDefEqProofs [-X.ev];rfl)
  refine (iD Dy).mono ?_;rintro x Ha ⟨rfl,s⟩;have PW:=s.wf Ov;have ZN:=gM.trans (X9.trans s);have QE:=s.ldn S;have qa:=s.ldn q;have r1a:=s.ld r1;have xa:=s.nx;simp (maxSteps:=9^7)-implicitDefEqProofs+contextual [-X.ev,U,T,f12,f13,f15,V,QE,g3,qa,r1a];apply ah
  ·(simp-implicitDefEqProofs [-X.ev];rfl)
  refine (BW (Dy.ext s) (g.inr u A) (P.gg.mono ZN.n0 (fun x B=>⟨ZM x B,ZN.old x (hF x B)⟩) hp) (P.RF.mono ZN.n0 (fun x B=>⟨ZM x B,ZN.old x (hF x B)⟩) hps)).mono ?_;rintro x Hb ⟨N,F2,W',rfl,hC',Mb,fwb,VK⟩;have Fa:=g.ext s;have Q:∀b,aU (.slice (some ⟨b,0,none⟩) L.length L.length) b:=fun b=>(aS _ _ _ _ _).2 rfl
  have hbk:∀b,u.W b→b≠bm∧b≠bc:=fun b f=>by
   refine ⟨fun e=>?_,fun e=>?_⟩
   ·exact (g.xs bm (.inl (Q _))).2.2.2.2 u A (.inr (e▸f))
   ·exact (g.xs bc (.inr (Q _))).2.2.2.2 u A (.inr (e▸f))
  have Hoc:da Hb 10 (.slice (some ⟨bc,0,none⟩) L.length L.length) (L.map (·.cs)):=(I.oc.ext s).mod Mb (fun b f z=>(hbk b z).2 (((aS _ _ _ _ _).1 f)));have qm:=hC'.len;obtain ⟨b',e',Hc,sc,Oc,Mc,nxc,YZ⟩:=Hoc.set (k:=k) (r':=N) (by simpa using V) qm;rw [Value.slice.injEq]at e';obtain rfl:bc=b':=by have:=e'.1;simp at this;exact this
  have Fb:=Fa.MO hu hC' (P.uz (g.inr u A)) Mb fwb VK
  obtain ⟨L1,Ds⟩:∃L1,L.set k {u with W:=W',cs:=N,d:=bG p t.bz u.d}=L1:=⟨_,rfl⟩
  have Lz:L1[k]?=some {u with W:=W',cs:=N,d:=bG p t.bz u.d}:=by rw [←Ds,List.getElem?_set];simp [V]
  rw [Ds]at Fb;have Fc:rC R.nx F2 G Hc p t.bz (fun b=>aU (.slice (some ⟨bm,0,none⟩) L.length L.length) b∨aU (.slice (some ⟨bc,0,none⟩) L.length L.length) b) L1:=Fb.mod Mc (fun b f=>.inr (f▸Q _)) (fun b f=>⟨by rw [nxc];exact (Fb.xs b f).2.1,.inl f⟩);have afr:jC G Hc u.m p t.bz u.v u.c:=by have h:=Fc.DQ _ (apL Lz);exact h
  obtain ⟨Wu,ZI,Ml,vl1,rs1,ecs,_⟩:=hC'.run (gY (P.uz (g.inr u A)).toInv)
  have Omb:da Hc 1 (.slice (some ⟨bm,0,none⟩) L.length L.length) (L.map B7):=((I.om.ext s).mod Mb (fun b f z=>(hbk b z).1 (((aS _ _ _ _ _).1 f)))).mod Mc (fun b f z=>by
   have e1:=(aS _ _ _ _ _).1 f;subst e1
   exact da.ne (I.om.ext s) (I.oc.ext s) (by decide) f (z▸Q _))
  obtain ⟨b1,eb1,lm⟩:=Omb.cell (k:=k) (r:=B7 u) (by rw [aqa,hu];rfl);rw [Value.slice.injEq]at eb1;obtain rfl:bm=b1:=by have:=eb1.1;simp at this;exact this
  rw [Nat.mul_one]at lm;have lm1:=aV.2 lm;have mbn:=Mb.n0;have mbx:=Mb.nx;simp (maxSteps:=9^7)-implicitDefEqProofs+contextual [-X.ev,f12,f13,f15,V,sc,qm,aN,aD,aE,lm1,mbn,mbx,nxc,YZ];apply ah
  ·(simp-implicitDefEqProofs [-X.ev];rfl)
  refine (Kn afr).mono ?_;rintro x Hd ⟨rfl,Ns⟩;obtain ⟨v',S',Md,mr,_⟩:=Ns.is;have Fd:=Fc.bG Lz S' Md mr;have lo:=g.lo u A
  have X3d:Ext R Hd:=((((X9.trans s).mod Mb (fun b f=>lo b (.inr f))).mod Mc (fun b f=>(Fb.xs b (.inr (f▸Q _))).1)).mod Md (fun b f=>lo b (.inl f)))
  have om2:=Omb.mod Md (fun b f z=>(Fc.xs b (.inl f)).2.2.2.2 _ (apL Lz) (.inl z));have oc2:=Oc.mod Md (fun b f z=>(Fc.xs b (.inr f)).2.2.2.2 _ (apL Lz) (.inl z));obtain ⟨b2,eb2,lcd⟩:=oc2.cell (k:=k) (r:=N) (by rw [List.getElem?_set];simp [V]);rw [Value.slice.injEq]at eb2;obtain rfl:bc=b2:=by have:=eb2.1;simp at this;exact this
  have lov:=aL (j:=9) lcd (by rw [ecs];rfl)
  have I2:MI F G R Hd p t.bz (.slice (some ⟨bm,0,none⟩) L.length L.length) (.slice (some ⟨bc,0,none⟩) L.length L.length) (L1.set k {u with W:=W',cs:=N,d:=bG p t.bz u.d,v:=v',c:=bG p t.bz u.c}):=by
   refine ⟨X3d,⟨F2,fun x B=>fwb.up x (ZM x B),Fd⟩,?_,?_,?_⟩
   ·rw [←Ds,List.map_set,List.map_set]
    have:=tn (l:=L.map B7) (k:=k) (a:=B7 u) (by rw [aqa,hu];rfl);rw [show B7 {u with W:=W',cs:=N,d:=bG p t.bz u.d}=B7 u from rfl,show B7 {u with W:=W',cs:=N,d:=bG p t.bz u.d,v:=v',c:=bG p t.bz u.c}=B7 u from rfl,this,this];exact om2
   ·rw [←Ds,List.map_set,List.map_set,List.set_set]
    exact oc2
   ·intro q o
    rcases mem_set o with rfl|⟨j,ne,hj⟩
    ·show bG p t.bz u.c=bG p t.bz u.d
     rw [IG]
    ·rw [←Ds,List.getElem?_set,if_neg (fun e=>ne e.symm)]at hj
     exact I.cd q (apL hj)
  have yE:(L1.set k {u with W:=W',cs:=N,d:=bG p t.bz u.d,v:=v',c:=bG p t.bz u.c}).length=L.length:=by rw [←Ds];simp
  have fin:∀C:Fr,C.get 3= .slice (some ⟨ba,oa,none⟩) lM.length c3→C.get 4= .pointer (some ⟨H.nx,0,none⟩)→C.get 6= .pointer (some ⟨Z.nx,0,none⟩)→C.get 12= .slice (some ⟨bm,0,none⟩) L.length L.length→C.get 13= .slice (some ⟨bc,0,none⟩) L.length L.length→C.get 14= .int .i64 i→SP F G R p t.bz H.nx Z.nx (.slice (some ⟨ba,oa,none⟩) lM.length c3) i C Hd:=fun C e3 e4 e6 e12 e13 e14=>⟨_,_,_,I2,by rw [yE];exact qH,by rw [yE];exact RB,e3,e4,e6,e12,e13,e14⟩
  rw [IG]
  cases he:cW u.d with
  |true=>
   simp (maxSteps:=9^7)-implicitDefEqProofs+contextual [-X.ev,he,f12,f13,f15,V];refine fI _ _ (fin _ ?_ ?_ ?_ ?_ ?_ ?_)<;>simp [Y,U,T,f12,f13,f14]
  |false=>
   simp (maxSteps:=9^7)-implicitDefEqProofs+contextual [-X.ev,he,f12,f13,f15,V,lov];refine fI _ _ (fin _ ?_ ?_ ?_ ?_ ?_ ?_)<;>simp [Y,U,T,f12,f13,f14]
 ·intro rest fI
  by_cases QF:a%2=1
  ·by_cases h8:L.length<8
   ·have h8':(L.length:Int)<8:=by omega
    simp (maxSteps:=9^7)-implicitDefEqProofs+contextual [-X.ev,h,Y,U,T,f12,f13,f14,g1,S,qH,ea,w0,ab1,ZL,ab3,V,QF,h8,h8'];apply ah
    ·(simp-implicitDefEqProofs [-X.ev];rfl)
    refine (Kt (g.DQ u A)).mono ?_;rintro x Ha ⟨m2,v2,rfl,hM2,s,Pg⟩;have PW:=s.wf Ov;have QE:=s.ldn S;have xa:=s.nx
    obtain ⟨Hb,RT⟩:∃Hb,Ha.alloc (.cells 1 [.pointer (some ⟨m2,0,none⟩)])=Hb:=⟨_,rfl⟩
    have Ob:=B8 (sz:=1) (c:=[.pointer (some ⟨m2,0,none⟩)]) PW rfl;have Xb:Ext Ha Hb:=by rw [←RT];exact Ext.alloc _ _
    have eb:Hb.nx=Ha.nx+1:=by rw [←RT];rfl
    rw [RT]at Ob;have YY:=Xb.wf PW;have ZO:=s.trans Xb;have b1:=mZ (sz:=1) (z:=[.pointer none]) (H:=Ha) (v:=.pointer (some ⟨m2,0,none⟩)) rfl rfl rfl;simp only [mi,RT]at b1;obtain ⟨Sq,Hc,ac,Oc,Mc,nc⟩:=oN (bytes:=8) YY (I.om.ext ZO) Ob.rows (by simp;omega) (by simp;omega);have g2b:=Xb.ldn QE;have Q:∀b,aU (.slice (some ⟨b,0,none⟩) L.length L.length) b:=fun b=>(aS _ _ _ _ _).2 rfl
    have nmc:bm≠bc:=fun e=>da.ne I.om I.oc (by decide) (e▸Q bm) (Q _)
    have Sr:∀b,aU (.slice (some ⟨bm,0,none⟩) L.length L.length) b→b=bm:=fun b f=>(aS _ _ _ _ _).1 f
    have we:∀b,aU (.slice (some ⟨bc,0,none⟩) L.length L.length) b→b=bc:=fun b f=>(aS _ _ _ _ _).1 f
    have g2c:Hc.ldn ⟨bc,k*10,none⟩ 10=some u.cs:=Mc.ldn (fun z=>nmc (Sr _ z).symm) g2b;have Fb:=g.ext ZO
    have Fc:rC R.nx F' G Hc p t.bz (fun b=>aU Sq b∨aU (.slice (some ⟨bc,0,none⟩) L.length L.length) b) L:=Fb.mod Mc (fun b f=>.inl f) (fun b f=>by
     rcases f with z|z
     ·exact ⟨Oc.lt z,(nc b z).imp .inl id⟩
     ·exact ⟨ap3 (Fb.xs b (.inr z)).2.1 Mc.nx,.inl (.inr z)⟩)
    have sm:=gY (g.inr u A).toInv;simp (maxSteps:=9^7)-implicitDefEqProofs+contextual [-X.ev,b1,ac,QE,g2b,g2c,g3,f12,f13,V];apply ah
    ·(simp-implicitDefEqProofs [-X.ev];rfl)
    refine (B1 (Fc.co u A) (by have:=sm.1;simp only [dS.run]at this;omega) (by have:=(g.inr u A).ou;have:=(g.inr u A).fuel;omega) (by have:=(g.inr u A).tr;have:=(g.inr u A).fuel;omega) (by have:=(g.inr u A).len;have:=(g.inr u A).fuel;omega)).mono ?_;rintro x Hd ⟨N,F2,W1,W2,rfl,hC1,hC2,Md,fwd,n1,n2,OK⟩;have Sp:=hC2.len;have mcn:=Mc.n0;have mcx:=Mc.nx;have mdn:=Md.n0;have mdx:=Md.nx;have ebn:=Xb.n0;have tW:Hd.n0≤Hd.nx:=hC1.wf
    obtain ⟨He,ZP⟩:∃He,Hd.alloc (.cells 10 N)=He:=⟨_,rfl⟩
    have Oe:=B8 (sz:=10) tW Sp;have Xe:Ext Hd He:=by rw [←ZP];exact Ext.alloc _ _
    have ee:He.nx=Hd.nx+1:=by rw [←ZP];rfl
    rw [ZP]at Oe;have hwe:=Xe.wf tW;have b2:=mZ (sz:=10) (z:=[.int .i64 0,.slice none 0 0,.slice none 0 0,.slice none 0 0,.int .i64 0,.int .i64 0,.int .i64 0,.int .i64 0,.slice none 0 0,.bool false]) (H:=Hd) (v:=.agg N.toArray) (by rw [dM];exact Sp) rfl rfl;simp only [dM,ZP]at b2
    obtain ⟨L1,Ds⟩:∃L1,L.set k {u with W:=W1,cs:=u.cs,d:=u.d}=L1:=⟨_,rfl⟩
    have Fd:=Fc.MO hu hC1 (g.inr u A) Md fwd n1;rw [Ds]at Fd;have Fe:=Fd.ext Xe;have ubc:∀b,b=bc→¬ u.W b:=fun b e z=>(Fc.xs b (.inr (e▸Q _))).2.2.2.2 u A (.inr z)
    have ubm:∀b,aU Sq b→¬ u.W b:=fun b e z=>(Fc.xs b (.inl e)).2.2.2.2 u A (.inr z)
    have Obc:da He 10 (.slice (some ⟨bc,0,none⟩) L.length L.length) (L.map (·.cs)):=((((I.oc.ext ZO).mod Mc (fun b f z=>nmc ((Sr _ z).symm.trans (we _ f)))).mod Md (fun b f=>ubc b (we _ f))).ext Xe)
    obtain ⟨ZQ,Hf,af,Of,Da,nf⟩:=oN (bytes:=144) hwe Obc Oe.rows (by simp;omega) (by simp;omega)
    have Ff:rC R.nx F2 G Hf p t.bz (fun b=>aU Sq b∨aU ZQ b) L1:=Fe.mod Da (fun b f=>.inr f) (fun b f=>by
     rcases f with z|z
     ·exact ⟨ap3 (Fe.xs b (.inl z)).2.1 Da.nx,.inl (.inl z)⟩
     ·exact ⟨Of.lt z,(nf b z).imp .inr id⟩)
    have men:=Xe.n0;have mfn:=Da.n0;have mfx:=Da.nx;have mex:=Xe.nx;have mbx:=Xb.nx;have man:=s.n0;simp (maxSteps:=9^7)-implicitDefEqProofs+contextual [-X.ev,b2,af,aN,aD,aE,mcn,mcx,mdn,mdx,ebn,mbx,men,mex,mfn,mfx,QE,g2b,g2c,g3,f12,f13,f14,V,wi (show i≤1000 by omega)];have lbm:=(g.xs bm (.inl (Q _))).2.1;have lbc:=(g.xs bc (.inr (Q _))).2.1;have gbm:=(g.xs bm (.inl (Q _))).2.2.2.1;have gbc:=(g.xs bc (.inr (Q _))).2.2.2.1;have nbm:=(g.xs bm (.inl (Q _))).1;have nbc:=(g.xs bc (.inr (Q _))).1;have ZR:∀b,u.ft b→b<H9.nx:=fun b z=>g.lt A z
    have gl:=g.gl;have c2:∀b,aU Sq b→b=bm∨Hb.nx≤b:=fun b z=>(nc b z).imp (Sr _) id
    have c3:∀b,aU ZQ b→b=bc∨He.nx≤b:=fun b z=>(nf b z).imp (we _) id
    have afx:∀r∈L1,∀b,r.ft b→b<H9.nx∨W1 b:=fun r hr b f=>by
     rw [←Ds]at hr;rcases mem_set hr with rfl|⟨j,ne,hj⟩
     ·rcases f with z|z
      ·exact .inl (ZR b (.inl z))
      ·exact .inr z
     ·exact .inl (g.lt (apL hj) f)
    have ZH:∀b,W1 b→b<H9.nx∨Hc.nx≤b:=fun b z=>(n1 b z).imp (fun y=>ZR b (.inr y)) id
    have I2:MI F G R Hf p t.bz Sq ZQ (L1++[⟨m2,v2,u.c,u.d,N,W2⟩]):=by
     refine ⟨((((X9.trans ZO).mod Mc (fun b f=>(Sr b f)▸nbm)).mod Md (fun b f=>g.lo u A b (.inr f))).trans Xe).mod Da (fun b f=>(we b f)▸nbc),⟨F2,fun x B=>fwd.up x (ZM x B),Ff.push ?_ ?_ (g.inr u A) (fun b f=>AH.iF (by have:=n2 b f;omega)) (fun b f=>?_) (fun b f=>?_)⟩,?_,?_,fun q o=>?_⟩
     ·refine ((((hM2.ext Xb).mod Mc (fun b f z=>?_) (fun b f=>(Sr b f)▸gbm)).mod Md (fun b f z=>?_) (fun b f=>g.wg u A b f)).ext Xe).mod Da (fun b f z=>?_) (fun b f=>(we b f)▸gbc)
      ·have:=Pg b z;have:=Sr b f;omega
      ·have:=Pg b z;have:=ZR b (.inr f);omega
      ·have:=Pg b z;have:=we b f;omega
     ·refine (hC2.ext Xe).mod Da (fun b f=>⟨(we b f)▸(Fe.xs bc (.inr (Q _))).2.2.1,fun z=>?_⟩)
      have:=n2 b z;have:=we b f;omega
     ·have lo:H9.nx≤b∧(b<Ha.nx∨(Hc.nx≤b∧b<Hd.nx∧W2 b)):=by
       rcases f with z|z
       ·exact ⟨Pg b z,.inl (hM2.none z).2⟩
       ·have:=n2 b z;exact ⟨by omega,.inr ⟨this,(hC2.nF z).2,z⟩⟩
      refine ⟨by omega,fun z=>?_,fun r hr z=>?_⟩
      ·rcases z with z|z
       ·have a1:=c2 b z
        have a2:=Oc.lt z;omega
       ·have:=c3 b z;omega
      ·rcases afx r hr b z with y|y
       ·omega
       ·rcases lo.2 with w|w
        ·have:=ZH b y;omega
        ·exact OK b y w.2.2
     ·have a1:=Pg b f
      have a2:=(hM2.none f).2;refine ⟨fun z=>?_,fun z=>by have:=n2 b z;omega⟩;rcases fwd.of b z with y|y|y
      ·have:=g.fl b y;omega
      ·have:=ZR b (.inr y);omega
      ·omega
     ·have e1:(L1++[(⟨m2,v2,u.c,u.d,N,W2⟩:Pr)]).map B7=L.map B7++[[.pointer (some ⟨m2,0,none⟩)]]:=by
       rw [List.map_append,←Ds,List.map_set,show B7 {u with W:=W1,cs:=u.cs,d:=u.d}=B7 u from rfl,tn (by rw [aqa,hu];rfl)];rfl
      rw [e1];exact ((Oc.mod Md ubm).ext Xe).mod Da (fun b f z=>by have:=c2 b f;have:=we b z;omega)
     ·have e1:(L1++[(⟨m2,v2,u.c,u.d,N,W2⟩:Pr)]).map (·.cs)=L.map (·.cs)++[N]:=by
       rw [List.map_append,←Ds,List.map_set,tn (by rw [aqa,hu];rfl)];rfl
      rw [e1];exact Of
     ·rcases ap0.1 o with o|o
      ·rw [←Ds]at o
       rcases mem_set o with rfl|⟨j,ne,hj⟩
       ·exact IG
       ·exact I.cd q (apL hj)
      ·simp at o;subst o;exact IG
    have yE:(L1++[(⟨m2,v2,u.c,u.d,N,W2⟩:Pr)]).length=L.length+1:=by rw [←Ds];simp
    refine ⟨QD Dy,?_⟩;exact ⟨kk- 1,by omega,i+1,Sq,ZQ,_,by omega,I2,by omega,by omega,by simp [Y],by simp [U],by simp [T],by simp,by simp,by simp⟩
   ·have h8':¬ (L.length:Int)<8:=by omega
    simp (maxSteps:=9^7)-implicitDefEqProofs+contextual [-X.ev,h,Y,U,T,f12,f13,f14,g1,S,qH,ea,w0,ab1,ZL,ab3,V,QF,h8,h8'];refine fI _ _ ?_;simp [Y,U,T,f12,f13,f14]
  ·simp (maxSteps:=9^7)-implicitDefEqProofs+contextual [-X.ev,h,Y,U,T,f12,f13,f14,g1,S,qH,ea,w0,ab1,ZL,ab3,V,QF]
   refine fI _ _ ?_;simp [Y,U,T,f12,f13,f14]
end
section
open Go Go.RowKit Go.WideShapes Go.ChangeShapes
theorem cU8:Tryz.prog.cellsOf 5=1:=by kernel_rfl
theorem QG {T:Type} {enc:TypeId×Value→T} {W:World} {n:Nat} {c:Value} {d:DataW T} (h:Rd enc Tryz.prog W n 49 [c] d) (p:tV Tryz.prog 49 d):∃(v:Value) (l:List Int),aQ W.heap.size [c]=some [v]∧Rows (H0 W) 1 v (l.map fun n=>[.int .u8 n])∧l.length<2^60∧∀n∈l,0≤n∧n<256:=by
 obtain ⟨v,rows,f,t,j,i,s⟩:=Bb (C:=fun l (y:Int)=>l=[.int .u8 y]∧(0≤y∧y<256)) Tryz.underlying49 (by rw [cU8];omega) (by decide+kernel) h p (fun k B A z q x=>by
  obtain ⟨m,e,b⟩:=jy Tryz.underlying5 q;subst e
  exact ⟨_,m,ei rfl,rfl,by have:=bounds_u8 b;omega⟩)
 have o:∀{rows:List (List Value)} {f:List Int},fE (fun l (y:Int)=>l=[.int .u8 y]∧(0≤y∧y<256)) rows f→rows=f.map (fun n=>[.int .u8 n])∧∀v∈f,0≤v∧v<256:=by
  intro rows f h
  induction h with
  |nil=>exact ⟨rfl,by simp⟩
  |cons a b ih=>
   refine ⟨by rw [a.1,ih.1];rfl,fun v g=>?_⟩;rcases apY.1 g with rfl|g
   ·exact a.2
   ·exact ih.2 v g
 obtain ⟨w,u⟩:=o i;rw [cU8,w]at j;refine ⟨v,f,t,j,?_,u⟩;have r:Tryz.prog.bytesOf 5=1:=by kernel_rfl
 rw [r,i.length]at s;have:reachBytes=140737488351232:=rfl;omega
end
end Go.Proofs.YtppcmpmnglaleaaGreat.A
