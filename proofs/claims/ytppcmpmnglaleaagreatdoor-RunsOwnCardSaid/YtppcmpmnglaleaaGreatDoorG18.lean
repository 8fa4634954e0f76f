/- Texts that stand one behind the other: S39, S40, S41, S42, S43, S44, S45, S46, S47, S48, S49, S50, S51, S52. -/
import Derived.Test.YtppcmpmnglaleaaGreatDoorG17
set_option linter.unusedVariables false
set_option linter.unusedSimpArgs false
set_option maxRecDepth 10000
namespace Go.Proofs.YtppcmpmnglaleaaGreatDoor.A
section
open Go
theorem G9 {G:AH} {w:Int} {h o:Value} {V:List Vr} {S:List (List Int)} {f:Nat} {first cap:Array Value} {I:List Ev→(Nat→Prop)→AH→Prop} (D:aA w V=true) (J:Od w V S) (A:dh G h V) (u:GZ h) (r:gO G o S) (k:Wu G f first cap I)
 {e:bQ} {c:List Value} {H:AH} {i:List Ev} {R:Nat→Prop} (p:H.n0≤H.nx) (X:Sub G H) (v:I i R H) (K:∀b,R b→G.get b=none) (t:oO G c e) (B:dz w V S.length e=true) (l:(i.length:Int)+av e≤2^40):
 Ca E O 157 [.int .i64 w,h,o,.agg c.toArray,.func (.func f) first cap] H (fun x H'=>x= .int .i64 (bF w V S e)∧∃y,I (i++pO w V S e) y H'∧Mod R H H'∧∀b,y b→R b∨H.nx≤b):=by
 refine Ca.aW (F:=a157) rfl rfl rfl ?_;obtain ⟨a,Z,j⟩:=r.len;have U:c.length=4:=by cases t;rfl
 have W:=k.lt v;have g:=Ext.alloc H (.cells c.length c);have d:(H.alloc (.cells c.length c)).ldn ⟨H.nx,0,none⟩ 4=some c:=bj p 4 (by assumption);generalize L:H.alloc (.cells c.length c)=P at g d;have z:=g.wf p
 have C:eS [.int .i64 0,.slice none 0 0,.int .i64 0] [(0,1,.int .i64 w),(1,1,h),(2,1,.int .i64 S.length)]=some (.agg #[.int .i64 w,h,.int .i64 S.length]):=by
  obtain ⟨a1,T,Y,rfl,_⟩:=u;rfl
 have s:=G6 D J A u r k _ e c P i R (aqV _) z (X.QF g) (k.ext v g) K t B l;rw [j]at s⊢;simp (maxSteps:=9^7)-implicitDefEqProofs+contextual [-X.ev,a157,L,C,d];apply ah
 ·(simp-implicitDefEqProofs [-X.ev];rfl)
 refine (s).mono ?_;rintro x H2 ⟨rfl,M,n,N,m⟩;have Q:=g.nx;simp (maxSteps:=9^7)-implicitDefEqProofs+contextual [-X.ev];exact ⟨M,n,(Mod.bT g).then N (fun b _ q=>q),fun b l=>(m b l).imp id (fun q=>by omega)⟩
theorem Hg {G H:AH} {R:Nat→Prop} (X:Sub G H) (a:∀b,R b→G.get b=none):Sub G (part H 0 R):=
 ⟨by rw [oY,X.n0],by rw [vR];exact X.nx,fun b x k=>jj.2 ⟨X.get b x k,aq8 _,fun q=>by rw [a b q]at k;cases k⟩⟩
theorem uC {H:AH} {n:Nat} {R:Nat→Prop} {b:Nat} (a:R b):(part H n R).get b=none:=by
 cases h:(part H n R).get b with
 |none=>rfl
 |some x=>exact absurd a (jj.1 h).2.2
theorem kr {G H:AH} {m:Nat} {v:MV} {rows:List (List Value)} {store:List Int} {outs:List (Int×Int)} {trace:List Ev} {V:List Vr} {e:bQ} {c:List Value} (h:MH G H m v rows store outs trace) (hV:aA v.w V=true) (hS:bB v.w V store=true) (hv:dh G v.vv V) (gU:GZ v.vv) (S:oO G c e) (hf:dz v.w V 1 e=true) (a:(trace.length:Int)+av e≤2^40) (hc:0≤v.cost∧v.cost+av e≤2^60):
 Ca E O 142 [.pointer (some ⟨m,0,none⟩),.agg c.toArray] H (fun x H'=>x= .int .i64 (bF v.w V [store] e)∧∃s,MH G H' m {v with vt:=s,cost:=v.cost+av e} rows store outs (trace++pO v.w V [store] e)∧Mod (fun b=>b=m∨aR v.vt b) H H'∧∀b,aR s b→aR v.vt b∨H.nx≤b):=by
 refine Ca.aW (F:=Ku) rfl rfl rfl ?_;have hc4:c.length=4:=by cases S;rfl
 have u:=h.wf;have gB:=cq H (.cells 1 [.pointer (some ⟨m,0,none⟩)]);have J:=Ext.alloc H (.cells 1 [.pointer (some ⟨m,0,none⟩)]);have d0:(H.alloc (.cells 1 [.pointer (some ⟨m,0,none⟩)])).ld ⟨H.nx,0,none⟩=some (.pointer (some ⟨m,0,none⟩)):=aj u rfl;have d:(H.alloc (.cells 1 [.pointer (some ⟨m,0,none⟩)])).ldn ⟨H.nx,0,none⟩ 1=some [.pointer (some ⟨m,0,none⟩)]:=bj u 1 rfl;generalize cF:H.alloc (.cells 1 [.pointer (some ⟨m,0,none⟩)])=B at J d0 d;have bD:=J.wf u;rw [cF]at gB;have p:=Ext.alloc B (.cells c.length c);have q:(B.alloc (.cells c.length c)).ldn ⟨B.nx,0,none⟩ 4=some c:=bj bD 4 (by assumption);generalize j0:B.alloc (.cells c.length c)=H2 at p q;have jh:=p.wf bD;have kC:=J.trans p;have h2:=h.ext kC;have x1:=J.nx;have x2:=p.nx;have pn:=ec e;have ltm:=h.lt (.inl rfl);have Tu:=p.ld d0;have l10:=aG h2.get h2.n0 (k:=10) (v:=.int .i64 v.cost) rfl;have dn:=bo.1 Tu;have ln:=bo.1 l10;simp (maxSteps:=9^7)-implicitDefEqProofs+contextual [-X.ev,Ku,cF,j0,Tu,l10,q];apply ah
 ·(simp-implicitDefEqProofs [-X.ev];rfl)
 refine (uw _ _ c H2 (aqV _) jh (S.sub h2.sub) (by omega)).mono ?_;rintro x H3 ⟨rfl,i⟩;have I:=h2.ext i;have x3:=i.nx;have r:=i.n0;have Z:=i.ldn dn;have M:=i.ldn ln;have ww:IntKind.i64.wrap (v.cost+av e)=v.cost+av e:=ai ⟨by omega,by omega⟩;obtain ⟨f,s4,A,y9,nN,g4⟩:=bR I.get I.n0 (k:=10) (vs:=[.int .i64 (v.cost+av e)]) (by simp);have g:MH G f m {v with vt:=v.vt,cost:=v.cost+av e} rows store outs trace:=I.vV (A.mono fun x _ Q=>.inl Q) g4 (I.tr.mod A fun b a q=>h.d1.2.2.2 (q▸a)) (fun b a=>.inl a);have qO:=g.wf;have WD:f.n0=H.n0:=nN.trans (r.trans kC.n0);have Tz:=A.get (fun q=>by omega) (i.get (p.get gB));have P:f.ld ⟨H.nx,0,none⟩=some (.pointer (some ⟨m,0,none⟩)):=aG Tz (by rw [WD];exact u) rfl;have q4:f.ldn ⟨B.nx,0,none⟩ 4=some c:=A.ldn (fun q=>by simp at q;omega) (i.ldn q);have r1:=aG g.get g.n0 (k:=1) (v:=.int .i64 v.w) rfl;have r2:=aG g.get g.n0 (k:=2) (v:=v.vv) rfl;have r7:=aG g.get g.n0 (k:=7) (v:=v.vs) rfl;obtain ⟨sa,sc,C⟩:=h.st.shape;have D:=vM (sz:=1) (z:=[.slice none 0 0]) (H:=f) (v:=v.vs) (by rw [C];rfl) (by rw [C];rfl) rfl;have R:aT v.vs=[v.vs]:=by rw [C];rfl
 rw [R]at D;have l:=Ext.alloc f (.cells 1 [v.vs]);have g5:=cq f (.cells 1 [v.vs])
 obtain ⟨H5,Y⟩:∃H5,f.alloc (.cells 1 [v.vs])=H5:=⟨_,rfl⟩
 rw [Y]at D l g5;have j:=g.ext l;have x5:=l.nx;have qP:=j.wf;have L:=l.n0
 obtain ⟨o,y⟩:∃o:Nat→Prop,o=(fun b=>b=m∨aR v.vt b):=⟨_,rfl⟩
 have Og:∀b,o b→G.get b=none:=fun b a=>h.out b (by subst y;rcases a with q|q;exact .inl q;exact .inr (.inr (.inr (.inr q))))
 have WG:∀b,o b→b<H.nx:=fun b a=>h.lt (by subst y;rcases a with q|q;exact .inl q;exact .inr (.inr (.inr (.inr q))))
 have SG:=Hg j.sub Og;have N:(part H5 0 o).ld ⟨H.nx,0,none⟩=some (.pointer (some ⟨m,0,none⟩)):=aG (jj.2 ⟨l.get Tz,aq8 _,fun q=>by have:=WG _ q;omega⟩) (by rw [oY,L,WD];exact u) rfl
 have oS:dK H5 1 (.slice (some ⟨f.nx,0,none⟩) 1 1) [[v.vs]]:=⟨.inr ⟨f.nx,rfl,by rw [L];exact qO,g5⟩,by simp⟩
 have sC:gO (part H5 0 o) (.slice (some ⟨f.nx,0,none⟩) 1 1) [store]:=⟨[[v.vs]],(oS.part fun b a=>⟨aq8 _,fun q=>by rw [bl]at a;have:=WG _ q;omega⟩).rows,.cons ⟨v.vs,rfl,(j.st.part fun b a=>⟨aq8 _,fun q=>by
  subst y;rcases q with rfl|q
  ·exact h.d1.2.1 a
  ·exact (h.d3 b a).2 q⟩).ints⟩ .nil⟩
 have hI:WC m {v with vt:=v.vt,cost:=v.cost+av e} trace [] o H5:=⟨v.vt,y,j.get,j.n0,by simpa using j.tr,h.d1.2.2.2⟩
 have LD:Od v.w V [store]:=fun t ht=>by simp at ht;subst ht;exact hS
 have key:=G9 hV LD (dh.sub SG hv) gU sC (Q5 N (by omega)) qP (BM _ _ _) hI (fun b a=>uC a) (S.sub SG) hf (by simp;omega);have w1:=ai (n:=v.cost+av e) ⟨by omega,by omega⟩;rw [C]at r7 D;simp (maxSteps:=9^7)-implicitDefEqProofs+contextual [-X.ev,ww,s4,x3,r,y9,nN,dn,Z,ln,M,bq,aM,aN,P,r1,r2,r7,D,l.ldn q4];rw [y9]at key;apply ah
 ·(simp-implicitDefEqProofs [-X.ev];rfl)
 refine (key).mono ?_;rintro x H6 ⟨rfl,R6,⟨s,U,g6,h06,o6,T⟩,K,W⟩;have x6:=K.nx;have WB:=K.n0;simp (maxSteps:=9^7)-implicitDefEqProofs+contextual [-X.ev,bq,aM,aN,x5,L,x6,WB];subst y
 have fresh:∀b,aR s b→aR v.vt b∨H5.nx≤b:=fun b a=>by
  rcases W b (by rw [U];exact .inr a)with(q|q)|q
  ·subst q;exact absurd a T
  ·exact .inl q
  ·exact .inr q
 refine ⟨s,j.vV K g6 (by simpa using o6) fresh,?_,fun b a=>(fresh b a).imp id (fun q=>by omega)⟩;exact (((Mod.bT (kC.trans i)).trans (A.mono fun x _ Q=>.inl Q)).trans (Mod.bT l)).trans K
open Go
section
variable{G H H':AH} {m:Nat} {v:MV} {rows dj:List (List Value)} {store:List Int} {outs ta:List (Int×Int)} {trace sZ:List Ev}
theorem MH.afD {vf:Value} (h:MH G H m v rows store outs trace) (M:Mod (fun b=>b=m∨aR v.vf b) H H') (g:H'.get m=some (.cells 14 ({v with vf:=vf}:MV).cells)) (o:fu H' 2 vf dj) (c:∀b,aR vf b→aR v.vf b∨H.nx≤b):MH G H' m {v with vf:=vf} dj store outs trace where
 get:=g
 n0:=by rw [M.n0];exact h.n0
 sub:=h.sub.mod M fun b a=>h.out b (by rcases a with q|q;exact .inl q;exact .inr (.inl q))
 wf:=M.wf h.wf
 fr:=o
 st:=h.st.mod M fun b a q=>by rcases q with rfl|q;exact h.d1.2.1 a;exact (h.d2 b q).1 a
 ou:=h.ou.mod M fun b a q=>by rcases q with rfl|q;exact h.d1.2.2.1 a;exact (h.d2 b q).2.1 a
 tr:=h.tr.mod M fun b a q=>by rcases q with rfl|q;exact h.d1.2.2.2 a;exact (h.d2 b q).2.2 a
 d1:=⟨fun q=>by rcases c m q with q|q;exact h.d1.1 q;have:=h.lt (.inl rfl);omega,h.d1.2.1,h.d1.2.2.1,h.d1.2.2.2⟩
 d2:=fun b a=>by
  rcases c b a with q|q
  ·exact h.d2 b q
  ·exact ⟨fun k=>by have:=h.lt (.inr (.inr (.inl k)));omega,fun k=>by have:=h.lt (.inr (.inr (.inr (.inl k))));omega,fun k=>by have:=h.lt (.inr (.inr (.inr (.inr k))));omega⟩
 d3:=h.d3
 d4:=h.d4
 out:=fun b a=>by
  rcases a with q|q|q
  ·exact h.out b (.inl q)
  ·rcases c b q with q|q
   ·exact h.out b (.inr (.inl q))
   ·exact AH.rU (aq2 h.sub.nx q)
  ·exact h.out b (.inr (.inr q))
theorem MH.WH {vo:Value} (h:MH G H m v rows store outs trace) (M:Mod (fun b=>b=m∨aR v.vo b) H H') (g:H'.get m=some (.cells 14 ({v with vo:=vo}:MV).cells)) (o:dK H' 2 vo (cY ta)) (c:∀b,aR vo b→aR v.vo b∨H.nx≤b):MH G H' m {v with vo:=vo} rows store ta trace where
 get:=g
 n0:=by rw [M.n0];exact h.n0
 sub:=h.sub.mod M fun b a=>h.out b (by rcases a with q|q;exact .inl q;exact .inr (.inr (.inr (.inl q))))
 wf:=M.wf h.wf
 fr:=h.fr.mod M fun b a q=>by rcases q with rfl|q;exact h.d1.1 a;exact (h.d2 b a).2.1 q
 st:=h.st.mod M fun b a q=>by rcases q with rfl|q;exact h.d1.2.1 a;exact (h.d3 b a).1 q
 ou:=o
 tr:=h.tr.mod M fun b a q=>by rcases q with rfl|q;exact h.d1.2.2.2 a;exact h.d4 b q a
 d1:=⟨h.d1.1,h.d1.2.1,fun q=>by rcases c m q with q|q;exact h.d1.2.2.1 q;have:=h.lt (.inl rfl);omega,h.d1.2.2.2⟩
 d2:=fun b a=>⟨(h.d2 b a).1,fun q=>by rcases c b q with q|q;exact (h.d2 b a).2.1 q;have:=h.lt (.inr (.inl a));omega,(h.d2 b a).2.2⟩
 d3:=fun b a=>⟨fun q=>by rcases c b q with q|q;exact (h.d3 b a).1 q;have:=h.lt (.inr (.inr (.inl a)));omega,(h.d3 b a).2⟩
 d4:=fun b a q=>by rcases c b a with k|k;exact h.d4 b k q;have:=h.lt (.inr (.inr (.inr (.inr q))));omega
 out:=fun b a=>by
  rcases a with q|q|q|q|q
  ·exact h.out b (.inl q)
  ·exact h.out b (.inr (.inl q))
  ·exact h.out b (.inr (.inr (.inl q)))
  ·rcases c b q with q|q
   ·exact h.out b (.inr (.inr (.inr (.inl q))))
   ·exact AH.rU (aq2 h.sub.nx q)
  ·exact h.out b (.inr (.inr (.inr (.inr q))))
theorem MH.Q6 {v':MV} (h:MH G H m v rows store outs trace) (M:Mod (fun b=>b=m) H H') (g:H'.get m=some (.cells 14 v'.cells)) (f:v'.vf=v.vf) (e:v'.vs=v.vs) (d:v'.vo=v.vo) (c:v'.vt=v.vt):MH G H' m v' rows store outs trace where
 get:=g
 n0:=by rw [M.n0];exact h.n0
 sub:=h.sub.mod M fun b a=>h.out b (.inl a)
 wf:=M.wf h.wf
 fr:=by rw [f];exact h.fr.mod M fun b a q=>h.d1.1 (q▸a)
 st:=by rw [e];exact h.st.mod M fun b a q=>h.d1.2.1 (q▸a)
 ou:=by rw [d];exact h.ou.mod M fun b a q=>h.d1.2.2.1 (q▸a)
 tr:=by rw [c];exact h.tr.mod M fun b a q=>h.d1.2.2.2 (q▸a)
 d1:=by rw [f,e,d,c];exact h.d1
 d2:=by rw [f,e,d,c];exact h.d2
 d3:=by rw [e,d,c];exact h.d3
 d4:=by rw [d,c];exact h.d4
 out:=fun b a=>h.out b (by unfold Mf at a⊢;rw [f,e,d,c]at a;exact a)
theorem nP {x:Value}:∀{l:List Value} {k:Nat},k<l.length→aJ l k [x]=l.set k x
 |y::l,0,_=>by simp [aJ]
 |y::l,k+1,h=>by simp only [aJ,List.set_cons_succ];rw [nP (by simpa using h)]
theorem fS (l:List Int):(bg l).flatten=l.map (fun n=>.int .i64 n):=by
 induction l with
 |nil=>rfl
 |cons x l ih=>simp only [bg,List.map_cons,List.flatten_cons,List.singleton_append]at ih⊢;rw [ih]
theorem MH.afE {k:Nat} (a:Int) (h:MH G H m v rows store outs trace) (f:k<store.length):∃b H',v.vs= .slice (some ⟨b,0,none⟩) store.length store.length∧H.st ⟨b,k,none⟩ [.int .i64 a]=some H'∧MH G H' m v rows (store.set k a) outs trace∧Mod (Mf m v) H H'∧H'.nx=H.nx∧H'.n0=H.n0:=by
 rcases h.st.is with⟨_,e⟩|⟨b,e,i,g⟩
 · have:=congrArg List.length e;simp [bg]at this;subst this;simp at f
 rw [fS]at g;have el:(bg store).length=store.length:=by simp [bg]
 rw [el]at e;have d:aR v.vs b:=by rw [e];exact (bl _ _ _ _ _).2 rfl
 obtain ⟨H',st,M,l,n0,j⟩:=bR g i (k:=k) (vs:=[.int .i64 a]) (by simp;omega);rw [nP (by simpa using f),←List.map_set,←fS]at j;refine ⟨b,H',e,st, ?_,M.mono fun x _ c=> .inr (.inr (.inl (c▸d))),l,n0⟩
 exact
  {get:=M.get (fun q=>h.d1.2.1 (by rw [q];exact d)) h.get
   n0:=by rw [n0];exact h.n0
   sub:=h.sub.mod M fun x c=>h.out x (.inr (.inr (.inl (c▸d))))
   wf:=M.wf h.wf
   fr:=h.fr.mod M fun x c q=>(h.d2 x c).1 (q▸d)
   st:=⟨.inr ⟨b,by rw [e];simp [bg],by rw [n0];exact i,j⟩,fun r n=>by obtain ⟨o,_,rfl⟩:=ard.1 n;rfl⟩
   ou:=h.ou.mod M fun x c q=>(h.d3 x (q▸d)).1 c
   tr:=h.tr.mod M fun x c q=>(h.d3 x (q▸d)).2 c
   d1:=h.d1,d2:=h.d2,d3:=h.d3,d4:=h.d4,out:=h.out}
end
section
variable{G H:AH} {m:Nat} {v:MV} {rows:List (List Value)} {store:List Int} {outs:List (Int×Int)} {trace:List Ev} {V:List Vr}
theorem BO {op n:Int} {va vt ve:Value} (h:MH G H m v rows store outs trace) (q:dh G v.vv V) (i:0≤n∧n<V.length) (j:¬ 1<al V n):
 Ca E O 141 [.pointer (some ⟨m,0,none⟩),.agg #[.int .i64 op,.int .i64 n,va,vt,ve]] H (fun x H'=>x= .int .i64 0∧Ext H H'):=by
 refine Ca.aW (F:=a141) rfl rfl rfl ?_;have a:=h.wf;have c:=Ext.alloc H (.cells 5 [.int .i64 op,.int .i64 n,va,vt,ve]);have z:(H.alloc (.cells 5 [.int .i64 op,.int .i64 n,va,vt,ve])).ld ⟨H.nx,0,none⟩=some (.int .i64 op):=aj a rfl;have l:(H.alloc (.cells 5 [.int .i64 op,.int .i64 n,va,vt,ve])).ld ⟨H.nx,1,none⟩=some (.int .i64 n):=aj a rfl;have y:(H.alloc (.cells 5 [.int .i64 op,.int .i64 n,va,vt,ve])).ld ⟨H.nx,2,none⟩=some va:=aj a rfl;have w:(H.alloc (.cells 5 [.int .i64 op,.int .i64 n,va,vt,ve])).ld ⟨H.nx,3,none⟩=some vt:=aj a rfl;have u:(H.alloc (.cells 5 [.int .i64 op,.int .i64 n,va,vt,ve])).ld ⟨H.nx,4,none⟩=some ve:=aj a rfl;have d:(H.alloc (.cells 5 [.int .i64 op,.int .i64 n,va,vt,ve])).ldn ⟨H.nx,0,none⟩ 5=some [.int .i64 op,.int .i64 n,va,vt,ve]:=bj a 5 rfl;generalize t:H.alloc (.cells 5 [.int .i64 op,.int .i64 n,va,vt,ve])=C at c z l y w u d;have A:=c.wf a;have e:=h.ext c
 obtain ⟨yv,g⟩:∃yv,V[n.toNat]?=some yv:=⟨_,aqG (by omega)⟩
 have s:al V n=yv.cells:=by simp [al,g]
 obtain ⟨b,o,B,p,_,_,_,r⟩:=(dh.sub e.sub q).at g;have f:=aG e.get e.n0 (k:=2) (v:=v.vv) rfl;rw [p]at f;rw [s]at j;simp (maxSteps:=9^7)-implicitDefEqProofs+contextual [-X.ev,a141,t,f,l,i.1,i.2,r,j,bq,aM,aN];exact c
theorem BP {op n:Int} {va vt ve:Value} {j:List (List Value)} {args:List bQ} {y:bQ} (h:MH G H m v rows store outs trace) (W:aA v.w V=true) (Y:bB v.w V store=true) (t:dh G v.vv V) (U:GZ v.vv) (u:0≤n∧n<V.length) (z:1<al V n)
 (L:Rows G 4 va j) (P:fY G j args) (s:args[0]?=some y) (Q:dz v.w V 1 y=true) (i:(trace.length:Int)+av y≤2^40) (T:0≤v.cost∧v.cost+av y≤2^60):
 Ca E O 141 [.pointer (some ⟨m,0,none⟩),.agg #[.int .i64 op,.int .i64 n,va,vt,ve]] H (fun x H'=>x= .int .i64 (bF v.w V [store] y)∧∃f,MH G H' m {v with vt:=f,cost:=v.cost+av y} rows store outs (trace++pO v.w V [store] y)∧Mod (fun b=>b=m∨aR v.vt b) H H'∧∀b,aR f b→aR v.vt b∨H.nx≤b):=by
 refine Ca.aW (F:=a141) rfl rfl rfl ?_;have a:=h.wf;have e:=Ext.alloc H (.cells 5 [.int .i64 op,.int .i64 n,va,vt,ve]);have d0:(H.alloc (.cells 5 [.int .i64 op,.int .i64 n,va,vt,ve])).ld ⟨H.nx,0,none⟩=some (.int .i64 op):=aj a rfl;have C:(H.alloc (.cells 5 [.int .i64 op,.int .i64 n,va,vt,ve])).ld ⟨H.nx,1,none⟩=some (.int .i64 n):=aj a rfl;have B:(H.alloc (.cells 5 [.int .i64 op,.int .i64 n,va,vt,ve])).ld ⟨H.nx,2,none⟩=some va:=aj a rfl;have d3:(H.alloc (.cells 5 [.int .i64 op,.int .i64 n,va,vt,ve])).ld ⟨H.nx,3,none⟩=some vt:=aj a rfl;have d4:(H.alloc (.cells 5 [.int .i64 op,.int .i64 n,va,vt,ve])).ld ⟨H.nx,4,none⟩=some ve:=aj a rfl;have d:(H.alloc (.cells 5 [.int .i64 op,.int .i64 n,va,vt,ve])).ldn ⟨H.nx,0,none⟩ 5=some [.int .i64 op,.int .i64 n,va,vt,ve]:=bj a 5 rfl;generalize Z:H.alloc (.cells 5 [.int .i64 op,.int .i64 n,va,vt,ve])=H1 at e d0 C B d3 d4 d;have bD:=e.wf a;have c:=h.ext e
 obtain ⟨yv,p⟩:∃yv,V[n.toNat]?=some yv:=⟨_,aqG (by omega)⟩
 have S:al V n=yv.cells:=by simp [al,p]
 obtain ⟨b,o,c',I,_,_,_,N⟩:=(dh.sub c.sub t).at p;have l:=aG c.get c.n0 (k:=2) (v:=v.vv) rfl;rw [I]at l;rw [S]at z;obtain ⟨b4,o4,c4,vy,r,J,M,K,R⟩:=fY.row L P s;have g:=c.sub.ldn M;simp only [Nat.zero_mul,Nat.add_zero]at g;have Q7:0<args.length:=by have:=(aqM.1 s).1;omega
 rw [←K]at g;have A:=B;rw [J]at A;have x1:=e.nx;simp (maxSteps:=9^7)-implicitDefEqProofs+contextual [-X.ev,a141,Z,l,C,A,u.1,u.2,N,z,Q7,g,bq,aM,aN];apply ah
 ·(simp-implicitDefEqProofs [-X.ev];rfl)
 refine (kr c W Y t U R Q i T).mono ?_;rintro x H2 ⟨rfl,f,h2,M2,D⟩;simp (maxSteps:=9^7)-implicitDefEqProofs+contextual [-X.ev];exact ⟨f,h2,(Mod.bT e).trans M2,fun b i=>(D b i).imp id (fun q=>by omega)⟩
end
end
section
open Go
section
variable{G H:AH} {m:Nat} {v:MV} {rows:List (List Value)} {store:List Int} {outs:List (Int×Int)} {trace:List Ev} {V:List Vr}
theorem MH.tell (e:Ev) (h:MH G H m v rows store outs trace) (g:trace.length≤2^41):
 ∃H1 a c f d,ng 1 3 [.int .i64 0,.int .i64 0,.int .i64 0] H [(0,3,.agg #[.int .i64 e.kind,.int .i64 e.at_,.int .i64 e.val])]=some (.slice (some ⟨H.nx,0,none⟩) 1 1,H1)∧bm 3 24 H1 v.vt (.slice (some ⟨H.nx,0,none⟩) 1 1)=some (.slice a (trace.length+1) c,f)∧f.st ⟨m,9,none⟩ [.slice a (trace.length+1) c]=some d∧
  MH G d m {v with vt:=.slice a (trace.length+1) c} rows store outs (trace++[e])∧Mod (fun b=>b=m∨aR v.vt b) H d∧(∀b,aR (.slice a (trace.length+1) c) b→H.nx≤b)∧H1.n0=H.n0∧H.nx≤H1.nx∧f.n0=H.n0∧H1.nx≤f.nx∧d.n0=H.n0∧d.nx=f.nx:=by
 obtain ⟨H1,a,c,f,d,t,u,s,w,k,j,i,r,o,x,q,n,p,l,y⟩:=A.tell e h.wf h.get h.n0 h.tr h.d1.2.2.2 g;exact ⟨H1,a,c,f,d,t,u,s,h.vV j w k (fun b g=>.inr (i b g)),j,i,r,o,q,n,p,l⟩
theorem mP {n i a:Int} (h:MH G H m v rows store outs trace) (J:aA v.w V=true) (hS:bB v.w V store=true) (T:dh G v.vv V) (gU:GZ v.vv) (hn:0≤n∧n<V.length) (hi:0≤i∧i≤2^40) (e:trace.length≤2^41):
 Ca E O 144 [.pointer (some ⟨m,0,none⟩),.int .i64 n,.int .i64 i,.int .i64 a] H (fun x H'=>∃f,MH G H' m {v with vt:=f} rows (store.set (bZ V n+i%al V n).toNat a) outs (trace++if 1<al V n then [⟨2,n,i%al V n⟩]else [])∧Mod (Mf m v) H H'∧∀b,aR f b→aR v.vt b∨H.nx≤b):=by
 refine Ca.aW (F:=Dr) rfl rfl rfl ?_;have hw:=h.wf
 obtain ⟨nn,rfl⟩:∃k:Nat,n=k:=⟨n.toNat,by omega⟩
 obtain ⟨yv,G8⟩:∃yv,V[nn]?=some yv:=⟨_,aqG (by omega)⟩
 have LC:al V nn=yv.cells:=by simp [al,G8]
 obtain ⟨b,o,c',R,_,_,_,Al⟩:=(dh.sub h.sub T).at G8;have uB:=vQ J hn i;have L:=Ah (b:=yv.cells) hi.1;rw [if_neg (by omega)]at L;have hVl:=(aP J).2.2.2
 have fR:1≤v.w∧v.w≤8:=⟨(aP J).1,(aP J).2.1⟩
 obtain ⟨x0,Q,_⟩:=lY fR hS (i:=bZ V nn+i%al V nn) (by omega);have cN:=(aqM.1 Q).1;rw [LC]at uB cN⊢;have M:=aG h.get h.n0 (k:=2) (v:=v.vv) rfl;rw [R]at M;have Hh:nn<V.length:=by omega
 have Oi:H.ld ⟨b,o+nn*3+2,none⟩=some (.int .i64 yv.cells):=by simpa using Al
 have anx:Mf m v m:=.inl rfl;have WJ:∀b,aR v.vt b→Mf m v b:=fun b e=>.inr (.inr (.inr (.inr e)))
 refine sL [.r,.r] (fun d B=>d.get 0= .pointer (some ⟨m,0,none⟩)∧d.get 1= .int .i64 nn∧d.get 2= .int .i64 i∧d.get 3= .int .i64 a∧d.get 8= .int .i64 yv.cells∧∃f,MH G B m {v with vt:=f} rows store outs (trace++if 1<yv.cells then [⟨2,nn,i%yv.cells⟩]else [])∧Mod (Mf m v) H B∧∀b,aR f b→aR v.vt b∨H.nx≤b) rfl ?_ ?_
 ·rintro d B ⟨s,f1,p,l,g,f,A,M1,k1⟩
  obtain ⟨a',c1,Y,wQ,U⟩:=QV (n:=nn) (dh.sub A.sub T) gU hn;rw [Int.toNat_natCast]at U;have s2:=aG A.get A.n0 (k:=2) (v:=v.vv) rfl;rw [R]at wQ U s2;cases wQ;have lu:=A.wf;simp (maxSteps:=9^7)-implicitDefEqProofs+contextual [-X.ev,Dr,s,f1,p,l,g,s2,U];refine cm (fun k d H'=>Ext B H'∧∃j:Nat,j+k=nn∧d.get 0= .pointer (some ⟨m,0,none⟩)∧d.get 2= .int .i64 i∧d.get 3= .int .i64 a∧d.get 8= .int .i64 yv.cells∧d.get 45= .slice (some ⟨b,o,none⟩) nn Y∧d.get 46= .int .i64 nn∧d.get 47= .int .i64 j∧d.get 9= .int .i64 (bZ V (j:Int))) ?_ nn ⟨Ext.refl _,0,by simp,by simp [s],by simp [p],by simp [l],by simp [g],by simp,by simp,by simp,by simp [bZ,cT]⟩;clear s f1 p l g d;rintro k d u ⟨K,j,hj,s,p,l,g,f45,f46,f47,f9⟩;have jS:=K.wf lu;have h2:=A.ext K;by_cases q:j<nn
  ·obtain ⟨y,hy⟩:∃y,V[j]?=some y:=⟨_,aqG (by omega)⟩
   obtain ⟨b',o',Jp,cx,bL,_,_,_⟩:=(dh.sub h2.sub T).at hy;rw [R]at cx;cases cx;simp only [Vr.row]at bL;obtain ⟨t,Ez,X3,Gt,Gu,z,C⟩:=dZ (H:=u) jS (z:=3) (c:=[.string ⟨#[]⟩,.int .i64 0,.int .i64 0]) (vs:=[.string y.name,.int .i64 y.level,.int .i64 y.cells]) rfl;have z0:t.ld ⟨u.nx,0,none⟩=some (.string y.name):=C 0 _ rfl;have z1:t.ld ⟨u.nx,1,none⟩=some (.int .i64 y.level):=C 1 _ rfl;have z2:t.ld ⟨u.nx,2,none⟩=some (.int .i64 y.cells):=C 2 _ rfl;clear C;replace z:t.ldn ⟨u.nx,0,none⟩ 3=some [.string y.name,.int .i64 y.level,.int .i64 y.cells]:=z;have xQ:=X3.wf jS;simp (maxSteps:=9^7)-implicitDefEqProofs+contextual [-X.ev,f45,f46,f47,f9,q,bL,Ez,z2];rw [ai (n:=(j:Int)+1) ⟨by omega,by omega⟩];exact ⟨k- 1,by omega,K.trans X3,j+1,by omega,s,p,l,g,by simp,by rw [sW hy]⟩
  ·have wN:j=nn:=by omega
   subst wN;have ww:IntKind.i64.wrap (bZ V j+i%yv.cells)=bZ V j+i%yv.cells:=ai ⟨by omega,by omega⟩;obtain ⟨bs,t,ui,gv,W,Z,N,P⟩:=h2.afE (k:=(bZ V j+i%yv.cells).toNat) a cN;have s7:=aG h2.get h2.n0 (k:=7) (v:=v.vs) rfl;have S:v.vs= .slice (some ⟨bs,0,none⟩) store.length store.length:=ui;rw [S]at s7;have g0:0≤bZ V j+i%yv.cells:=by omega
   have gl:bZ V j+i%yv.cells<(store.length:Int):=by omega
   simp (maxSteps:=9^7)-implicitDefEqProofs+contextual [-X.ev,s,p,l,g,f45,f46,f47,f9,q,s7,L,ww,g0,gl,gv,P,N,bq,aM,aN];refine ⟨f,W,(M1.trans (Mod.bT K)).then Z (fun b e q=>?_),k1⟩;rcases q with q|q|q|q|q
   ·exact .inl q
   ·exact .inr (.inl q)
   ·exact .inr (.inr (.inl q))
   ·exact .inr (.inr (.inr (.inl q)))
   ·rcases k1 b q with k|k
    ·exact WJ b k
    ·omega
 ·intro rest D
  by_cases I:1<yv.cells
  ·obtain ⟨B,a',c1,u,t,lR,ha,hs,W,Z,k3,DK,GQ,pM,wR,P,N⟩:=h.tell ⟨2,nn,i%yv.cells⟩ e
   have s9:=aG h.get h.n0 (k:=9) (v:=v.vt) rfl;have ua:eS [.int .i64 0,.int .i64 0,.int .i64 0] [(0,1,.int .i64 2),(1,1,.int .i64 nn),(2,1,.int .i64 (i%yv.cells))]=some (.agg #[.int .i64 2,.int .i64 nn,.int .i64 (i%yv.cells)]):=rfl;rw [if_pos I]at D;simp (maxSteps:=9^7)-implicitDefEqProofs+contextual [-X.ev,Dr,M,Hh,Oi,I,s9,L,ua,lR,ha,hs,DK,GQ,pM,wR,P,N,bq,aM,aN];refine D _ _ ⟨by simp,by simp,by simp,by simp,by simp,_,W,Z.mono (fun b _ e=>?_),fun b e=>.inr (k3 b e)⟩;rcases e with q|q
   ·exact .inl q
   ·exact WJ b q
  ·rw [if_neg I,List.append_nil]at D
   simp (maxSteps:=9^7)-implicitDefEqProofs+contextual [-X.ev,Dr,M,Hh,Oi,I];exact D _ _ ⟨by simp,by simp,by simp,by simp,by simp,_,h,Mod.refl _ _,fun b e=>.inl e⟩
end
end
section
open Go
structure fH where
 en:Int
 store:List Int
 outs:List (Int×Int)
 trace:List Ev
 cost:Int
 used:Nat
 wh:Int
 fuel:Int
 todo:List wU
 over:Bool
def eY (c:fH) (e n:Int):fH:={c with en:=e,wh:=n,todo:=[],over:=true}
def jy (V:List Vr) (c:fH) (n i a:Int):fH:={c with store:=c.store.set (bZ V n+i%al V n).toNat a,trace:=c.trace++if 1<al V n then [⟨2,n,i%al V n⟩]else []}
def bh.args:bh→List bQ| .mk _ _ a _ _=>a
def l7 (p:bC) (ps:List Int) (c:fH) (k:Int) (s:bh) (vals:List Int) (next:List wU):fH:=
 match s with
 | .mk op n args aB aE=>
  if op=0 then jy p.vars c n (if 1<al p.vars n then fZ vals 0 else 0) (fZ vals (vals.length- 1))
  else if op=1 then{c with trace:=c.trace++[⟨0,k,if fZ vals 0=0 then 0 else 1⟩],todo:=(if fZ vals 0=0 then eD aE (k+1+aC aB)else eD aB (k+1))++next}
  else if op=2 then{c with trace:=c.trace++[⟨0,k,if fZ vals 0=0 then 0 else 1⟩],todo:=if fZ vals 0=0 then next else eD aB (k+1)++(k,.mk op n args aB aE)::next}
  else if op=3 then{c with outs:=c.outs++[(n,fZ vals 0)]}
  else if op=4 then(if ps.length≤c.used then eY c 4 k else jy p.vars {c with used:=c.used+1} n (if 1<al p.vars n then fZ vals 0 else 0) (fZ ps c.used))
  else if op=5 then(if fZ vals 0=0 then eY c 1 k else c)
  else(if fZ vals 0=0 then eY c 2 k else c)
def nQ (p:bC) (c:fH) (s:bh) (next:List wU):fH:={c with todo:=next,fuel:=c.fuel- 1,cost:=c.cost+1+ar s.args,trace:=c.trace++fy p.w p.vars [c.store] s.args}
def dV (p:bC) (ps:List Int) (c:fH):fH:=
 if c.over=true then c else match c.todo with
 |[]=>c
 |(k,s)::next=>if c.fuel=0 then eY c 3 k else l7 p ps (nQ p c s next) k s (de p.w p.vars [c.store] s.args) next
structure gW (G H:AH) (m:Nat) (v:MV) (H':AH) (v':MV) (dj:List (List Value)) (vW:List Int) (ta:List (Int×Int)) (sZ:List Ev):Prop where
 mh:MH G H' m v' dj vW ta sZ
 mod:Mod (Mf m v) H H'
 new:∀b,Mf m v' b→Mf m v b∨H.nx≤b
section
variable{G H H1 H2:AH} {m:Nat} {v v1 v2:MV} {rows pj Oj:List (List Value)} {store tc Hi:List Int} {outs td Ok:List (Int×Int)} {trace nS Hj:List Ev} {V:List Vr}
theorem gW.refl (h:MH G H m v rows store outs trace):gW G H m v H v rows store outs trace:=⟨h,Mod.refl _ _,fun b a=>.inl a⟩
theorem gW.trans (a:gW G H m v H1 v1 pj tc td nS) (b:gW G H1 m v1 H2 v2 Oj Hi Ok Hj):gW G H m v H2 v2 Oj Hi Ok Hj where
 mh:=b.mh
 mod:=a.mod.then b.mod fun x c q=>by rcases a.new x q with k|k;exact k;omega
 new:=fun x c=>by
  have:=a.mod.nx;rcases b.new x c with q|q
  ·exact a.new x q
  ·right;omega
theorem gW.ext (a:gW G H m v H1 v1 pj tc td nS) (X:Ext H1 H2):gW G H m v H2 v1 pj tc td nS:=⟨a.mh.ext X,a.mod.trans (Mod.bT X),a.new⟩
theorem gW.ma (h:MH G H m v rows store outs trace) (X:Ext H H1):gW G H m v H1 v rows store outs trace:=(gW.refl h).ext X
theorem gW.tr {vt:Value} {cost:Int} (h:MH G H1 m {v with vt:=vt,cost:=cost} pj tc td nS) (M:Mod (fun b=>b=m∨aR v.vt b) H H1) (k:∀b,aR vt b→aR v.vt b∨H.nx≤b):gW G H m v H1 {v with vt:=vt,cost:=cost} pj tc td nS where
 mh:=h
 mod:=M.mono fun b _ q=>q.elim .inl fun q=>.inr (.inr (.inr (.inr q)))
 new:=fun b a=>by
  rcases a with q|q|q|q|q
  ·exact .inl (.inl q)
  ·exact .inl (.inr (.inl q))
  ·exact .inl (.inr (.inr (.inl q)))
  ·exact .inl (.inr (.inr (.inr (.inl q))))
  ·exact (k b q).imp (fun q=>.inr (.inr (.inr (.inr q)))) id
theorem gW.trW {vt:Value} {a:List Int} (h:MH G H1 m {v with vt:=vt} pj a td nS) (M:Mod (Mf m v) H H1) (k:∀b,aR vt b→aR v.vt b∨H.nx≤b):gW G H m v H1 {v with vt:=vt} pj a td nS where
 mh:=h
 mod:=M
 new:=fun b c=>by
  rcases c with q|q|q|q|q
  ·exact .inl (.inl q)
  ·exact .inl (.inr (.inl q))
  ·exact .inl (.inr (.inr (.inl q)))
  ·exact .inl (.inr (.inr (.inr (.inl q))))
  ·exact (k b q).imp (fun q=>.inr (.inr (.inr (.inr q)))) id
theorem gW.fr {vf:Value} (h:MH G H m v rows store outs trace) (M:Mod (fun b=>b=m∨aR v.vf b) H H1) (g:H1.get m=some (.cells 14 ({v with vf:=vf}:MV).cells)) (o:fu H1 2 vf pj) (a:∀b,aR vf b→aR v.vf b∨H.nx≤b):gW G H m v H1 {v with vf:=vf} pj store outs trace where
 mh:=h.afD M g o a
 mod:=M.mono fun b _ q=>q.elim .inl fun q=>.inr (.inl q)
 new:=fun b c=>by
  rcases c with q|q|q
  ·exact .inl (.inl q)
  ·exact (a b q).imp (fun q=>.inr (.inl q)) id
  ·exact .inl (.inr (.inr q))
theorem MH.cell {v':MV} (k:Nat) (x:Value) (h:MH G H m v rows store outs trace) (n:k<14) (e:v.cells.set k x=v'.cells) (i:v'.vf=v.vf) (f:v'.vs=v.vs) (d:v'.vo=v.vo) (c:v'.vt=v.vt):∃H',H.st ⟨m,k,none⟩ [x]=some H'∧gW G H m v H' v' rows store outs trace∧H'.nx=H.nx∧H'.n0=H.n0:=by
 obtain ⟨H',st,M,j,l,g⟩:=bR h.get h.n0 (k:=k) (vs:=[x]) (by simp;omega);rw [nP (by simp;omega),e]at g;refine ⟨H',st,⟨h.Q6 M g i f d c,M.mono fun b _ q=>.inl q,fun b a=>.inl ?_⟩,j,l⟩;unfold Mf at a⊢;rw [i,f,d,c]at a;exact a
theorem te {op n k:Int} {va vt ve:Value} {t:List (List Value)} {args:List bQ} {y:bQ} (h:MH G H m v rows store outs trace) (U:aA v.w V=true) (W:bB v.w V store=true) (J:dh G v.vv V) (T:GZ v.vv)
 (L:Rows G 4 va t) (N:fY G t args) (u:args[0]?=some y) (P:dz v.w V 1 y=true) (o:(trace.length:Int)+av y≤2^40) (R:0≤v.cost∧v.cost+av y≤2^60):
 Ca E O 145 [.pointer (some ⟨m,0,none⟩),.agg #[.int .i64 op,.int .i64 n,va,vt,ve],.int .i64 k] H (fun x H'=>x= .bool (!decide (bF v.w V [store] y=0))∧∃c,gW G H m v H' {v with vt:=c,cost:=v.cost+av y} rows store outs (trace++pO v.w V [store] y++[⟨0,k,if bF v.w V [store] y=0 then 0 else 1⟩])):=by
 refine Ca.aW (F:=a145) rfl rfl rfl ?_;have a:=h.wf;have e:=Ext.alloc H (.cells 5 [.int .i64 op,.int .i64 n,va,vt,ve]);have d0:(H.alloc (.cells 5 [.int .i64 op,.int .i64 n,va,vt,ve])).ld ⟨H.nx,0,none⟩=some (.int .i64 op):=aj a rfl;have d1:(H.alloc (.cells 5 [.int .i64 op,.int .i64 n,va,vt,ve])).ld ⟨H.nx,1,none⟩=some (.int .i64 n):=aj a rfl;have B:(H.alloc (.cells 5 [.int .i64 op,.int .i64 n,va,vt,ve])).ld ⟨H.nx,2,none⟩=some va:=aj a rfl;have d3:(H.alloc (.cells 5 [.int .i64 op,.int .i64 n,va,vt,ve])).ld ⟨H.nx,3,none⟩=some vt:=aj a rfl;have d4:(H.alloc (.cells 5 [.int .i64 op,.int .i64 n,va,vt,ve])).ld ⟨H.nx,4,none⟩=some ve:=aj a rfl;have d:(H.alloc (.cells 5 [.int .i64 op,.int .i64 n,va,vt,ve])).ldn ⟨H.nx,0,none⟩ 5=some [.int .i64 op,.int .i64 n,va,vt,ve]:=bj a 5 rfl;generalize Y:H.alloc (.cells 5 [.int .i64 op,.int .i64 n,va,vt,ve])=H1 at e d0 d1 B d3 d4 d;have bD:=e.wf a;have z:=h.ext e;obtain ⟨b4,o4,c4,vy,r,I,M,K,Q⟩:=fY.row L N u;have j:=z.sub.ldn M;simp only [Nat.zero_mul,Nat.add_zero]at j;have Q7:0<args.length:=by have:=(aqM.1 u).1;omega
 rw [←K]at j;have A:=B;rw [I]at A;have x1:=e.nx;have u2:=eW (w:=v.w) (V:=V) (S:=[store]) y;simp (maxSteps:=9^7)-implicitDefEqProofs+contextual [-X.ev,a145,Y,A,Q7,j];apply ah
 ·(simp-implicitDefEqProofs [-X.ev];rfl)
 refine (kr z U W J T Q P o R).mono ?_;rintro x H2 ⟨rfl,c,h2,M2,D⟩;obtain ⟨Ha,a',c1,Hb,H3,g,p,i,Z,M3,C,DK,GQ,pM,wR,mJ,rG⟩:=h2.tell ⟨0,k,if bF v.w V [store] y=0 then 0 else 1⟩ (by rw [aqP];omega);have s:=aG h2.get h2.n0 (k:=9) (v:=c) rfl;have A2:gW G H1 m v H2 {v with vt:=c,cost:=v.cost+av y} rows store outs (trace++pO v.w V [store] y):=gW.tr h2 M2 D;have f:=(gW.ma h e).trans (A2.trans (gW.tr (v:={v with vt:=c,cost:=v.cost+av y}) Z M3 (fun b o=>.inr (C b o))));simp only [aqP]at p i f;by_cases q:bF v.w V [store] y=0
 ·rw [if_pos q]at g f
  have l:eS [.int .i64 0,.int .i64 0,.int .i64 0] [(0,1,.int .i64 0),(1,1,.int .i64 k),(2,1,.int .i64 0)]=some (.agg #[.int .i64 0,.int .i64 k,.int .i64 0]):=rfl;simp (maxSteps:=9^7)-implicitDefEqProofs+contextual [-X.ev,q,s,l,g,p,i];exact ⟨_,by simpa [q]using f⟩
 ·rw [if_neg q]at g f
  have l:eS [.int .i64 0,.int .i64 0,.int .i64 0] [(0,1,.int .i64 0),(1,1,.int .i64 k),(2,1,.int .i64 1)]=some (.agg #[.int .i64 0,.int .i64 k,.int .i64 1]):=rfl;simp (maxSteps:=9^7)-implicitDefEqProofs+contextual [-X.ev,q,s,l,g,p,i];exact ⟨_,by simpa [q]using f⟩
end
end
section
open Go
def Ol (G:AH) (r:List Value) (f:List bh×Int):Prop:=∃vl rs,r=[vl,.int .i64 f.2]∧Rows G 5 vl rs∧eE G rs f.1∧Fit G vl∧f.1≠[]∧f.1.length≤2^30
def mb (fs:List (List bh×Int)):List wU:=fs.foldl (fun t f=>eD f.1 f.2++t) []
theorem jn (fs:List (List bh×Int)) (f:List bh×Int):mb (fs++[f])=eD f.1 f.2++mb fs:=by simp [mb,List.foldl_append]
theorem fg.snoc {α β:Type} {C:α→β→Prop}:∀{l:List α} {k:List β} {a:α} {b:β},fg C l k→C a b→fg C (l++[a]) (k++[b])
 |_,_,_,_,.nil,h=>.cons h .nil
 |_,_,_,_,.cons x y,h=>.cons x (fg.snoc y h)
theorem kP (s:bh) (l:List bh) (k:Int):eD (s::l) k=(k,s)::eD l (k+bu s):=by
 obtain ⟨op,n,args,a,b⟩:=s;rw [eD,bu];simp only [List.cons.injEq,true_and];congr 1;omega
section
variable{G H:AH} {m:Nat} {v:MV} {rows cO:List (List Value)} {store:List Int} {outs:List (Int×Int)} {trace:List Ev} {V:List Vr}
theorem gX {f:Value} {cs:List Value} {rs:List (List Value)} {s:bh} {l:List bh} {k:Int} {e:List (List bh×Int)} (h:MH G H m v (cO++[[f,.int .i64 k]]) store outs trace) (B:Rows G 5 f (cs::rs)) (F:Fit G f) (hs:zg G cs s) (d:eE G rs l) (r:fg (Ol G) cO e)
 (p:cO.length≤2^40) (J:bc s≤2^30) (y:l.length≤2^30) (D:0≤k∧k≤2^40):
 Ca E O 143 [.pointer (some ⟨m,0,none⟩)] H (fun x H'=>∃a i t,gW G H m v H' {v with vf:=a} i store outs trace∧fg (Ol G) i t∧mb t=eD l (k+bu s)++mb e∧i.length≤cO.length+1):=by
 have K:bu s≤bc s:=by
  obtain ⟨op,n,args,w,I⟩:=s;have:=(bf w).2;have:=(bf I).2;have:=a6 args;rw [bu,bc];omega
 refine (Lz h.wf h.get h.n0 h.fr h.d1.1 p h.sub (fun b q=>h.out b (q.elim .inl fun q=>.inr (.inl q))) B F hs.toC (by omega) (by rw [d.length];omega) D (by omega)).mono ?_;rintro x H' ⟨a,g,⟨u,z,j,o⟩,M,kk⟩;have A:=gW.fr h M g o (fun b p=>.inl (kk b p));by_cases c:rs.length=0
 ·have C:l=[]:=are (by rw [←d.length];exact c)
  rw [x9,if_pos c]at A;exact ⟨a,cO,e,A,r,by rw [C];rfl,by omega⟩
 ·rw [x9,if_neg c]at A
  exact ⟨a,_,e++[(l,k+bu s)],A,r.snoc ⟨u,rs,rfl,z,d,j,fun q=>c (by rw [d.length];simp at q;rw [q];rfl),y⟩,by rw [jn],by simp⟩
theorem pk {vt:Value} {rt:List (List Value)} {b:List bh} {k:Int} {fs:List (List bh×Int)} (h:MH G H m v rows store outs trace) (l:Rows G 5 vt rt) (n:eE G rt b) (t:Fit G vt) (p:fg (Ol G) rows fs) (u:rows.length≤2^40) (d:b.length≤2^30):
 Ca E O 105 [.pointer (some ⟨m,0,none⟩),vt,.int .i64 k] H (fun x H'=>∃e i r,gW G H m v H' {v with vf:=e} i store outs trace∧fg (Ol G) i r∧mb r=eD b k++mb fs∧i.length≤rows.length+1):=by
 obtain ⟨a,c,j⟩:=l.len;rw [n.length]at j;subst j;refine (Lx h.wf h.get h.n0 h.fr h.d1.1 u).mono ?_;rintro x H' ⟨e,g,o,M,kk⟩;have A:=gW.fr h M g o kk;by_cases f:b.length=0
 ·have s:b=[]:=are f
  rw [if_pos f]at A;exact ⟨e,rows,fs,A,p,by rw [s];rfl,by omega⟩
 ·rw [if_neg f]at A
  exact ⟨e,_,fs++[(b,k)],A,p.snoc ⟨_,rt,rfl,l,n,t,fun q=>f (by simp at q;rw [q];rfl),d⟩,by rw [jn],by simp⟩
theorem rH {how n:Int} (h:MH G H m v rows store outs trace):
 Ca E O 107 [.pointer (some ⟨m,0,none⟩),.int .i64 how,.int .i64 n] H (fun x H'=>x= .bool false∧gW G H m v H' {v with en:=how,wh:=n,ended:=true} rows store outs trace):=by
 refine Ca.aW (F:=a107) rfl rfl rfl ?_;obtain ⟨j,e,b,_,_⟩:=h.cell (v':={v with ended:=true}) 13 (.bool true) (by omega) rfl rfl rfl rfl rfl;obtain ⟨i,d,a,_,_⟩:=b.mh.cell (v':={v with ended:=true,en:=how}) 6 (.int .i64 how) (by omega) rfl rfl rfl rfl rfl;obtain ⟨g,c,f,_,_⟩:=a.mh.cell (v':={v with ended:=true,en:=how,wh:=n}) 12 (.int .i64 n) (by omega) rfl rfl rfl rfl rfl;simp (maxSteps:=9^7)-implicitDefEqProofs+contextual [-X.ev,a107,e,d,c];exact b.trans (a.trans f)
end
def Mt (v:MV) (c:fH):Prop:=v.en=c.en∧v.cost=c.cost∧v.used=(c.used:Int)∧v.wh=c.wh∧v.fuel=c.fuel∧v.ended=c.over
def Sm (v v':MV):Prop:=v'.w=v.w∧v'.vv=v.vv∧v'.vp=v.vp∧v'.vb=v.vb
structure JB (G H:AH) (m:Nat) (p:bC) (ps:List Int) (v:MV) (c:fH) (cO:List (List Value)) (eg:List (List bh×Int)) (vl:Value) (cs:List Value) (rs:List (List Value)) (k:Int) (s:bh) (l:List bh):Prop where
 mh:MH G H m v (cO++[[vl,.int .i64 k]]) c.store c.outs c.trace
 hr:Rows G 5 vl (cs::rs)
 hf:Fit G vl
 hs:zg G cs s
 hl:eE G rs l
 h0:fg (Ol G) cO eg
 w:v.w=p.w
 vars:dh G v.vv p.vars
 cap:GZ v.vv
 cd:fb G v.vp ps
 head:aA p.w p.vars=true
 store:bB p.w p.vars c.store=true
 mt:Mt v c
 ov:c.over=false
 row:eL p.w p.vars s=true
 b1:cO.length≤2^30
 b2:0≤k∧k≤2^30
 b3:bc s≤2^20
 b4:l.length+1≤2^30
 b5:c.trace.length≤2^31
 b6:c.outs.length≤2^31
 b7:0≤c.cost∧c.cost≤2^50
 b8:c.used≤ps.length∧ps.length≤2^20
structure Did (G H:AH) (m:Nat) (p:bC) (ps:List Int) (v:MV) (H':AH) (n:Nat) (c':fH):Prop where
 is:∃v' dj,gW G H m v H' v' dj c'.store c'.outs c'.trace∧(c'.over=false→∃qQ,fg (Ol G) dj qQ∧c'.todo=mb qQ)∧dj.length≤n+2∧Mt v' c'∧Sm v v'
def bE (p:bC) (c:fH) (s:bh) (next:List wU):fH:={c with todo:=next,cost:=c.cost+ar s.args,trace:=c.trace++fy p.w p.vars [c.store] s.args}
abbrev ch (l:List bh) (k:Int) (s:bh) (eg:List (List bh×Int)):List wU:=eD l (k+bu s)++mb eg
section
variable{G H:AH} {m:Nat} {p:bC} {ps:List Int} {v:MV} {c:fH} {cO rs:List (List Value)} {eg:List (List bh×Int)} {vl:Value} {cs:List Value} {k:Int} {s:bh} {l:List bh}
theorem iV {w:Int} {V:List Vr} {op n:Int} {args:List bQ} {t u:List bh} (h:eL w V (.mk op n args t u)=true):
 (∀e∈args,dz w V 1 e=true∧av e≤400)∧fv w V t=true∧fv w V u=true∧
   ((op=0∧(0≤n∧n<V.length)∧((¬ 1<al V n∧∃a,args=[a])∨(1<al V n∧∃a b,args=[a,b])))∨(op=1∧∃a,args=[a])∨(op=2∧∃a,args=[a])∨(op=3∧∃a,args=[a])∨
    (op=4∧(0≤n∧n<V.length)∧((¬ 1<al V n∧args=[])∨(1<al V n∧∃a,args=[a])))∨((op=5∨op=6)∧∃a,args=[a])):=by
 rw [eL,aqJ,aqJ,aqJ,aqW]at h;obtain ⟨d,h2,z,y⟩:=h;refine ⟨fun e x=>?_,h2,z,?_⟩
 · have:=y e x
   simp only [gh,aqJ,aqS]at this;exact ⟨this.2.2,this.1⟩
 unfold b9 at d;by_cases r:op=0
 · rw [if_pos r]at d
   simp only [lS,aqJ,aqS]at d;refine .inl ⟨r,⟨d.2.1,d.2.2.1⟩,?_⟩;by_cases f:1<al V n
   · have:=d.2.2.2;rw [if_pos f]at this
     exact .inr ⟨f,N7 (by omega)⟩
   · have:=d.2.2.2;rw [if_neg f]at this
     exact .inl ⟨f,aro.1 (by omega)⟩
 rw [if_neg r]at d;by_cases q:op=1
 · rw [if_pos q]at d;simp only [aqJ,aqS]at d
   exact .inr (.inl ⟨q,aro.1 (by omega)⟩)
 rw [if_neg q]at d;by_cases o:op=2
 · rw [if_pos o]at d;simp only [aqJ,aqS]at d
   exact .inr (.inr (.inl ⟨o,aro.1 (by omega)⟩))
 rw [if_neg o]at d;by_cases j:op=3
 · rw [if_pos j]at d;simp only [aqJ,aqS]at d
   exact .inr (.inr (.inr (.inl ⟨j,aro.1 (by omega)⟩)))
 rw [if_neg j]at d;by_cases i:op=4
 · rw [if_pos i]at d
   simp only [lS,aqJ,aqS]at d;refine .inr (.inr (.inr (.inr (.inl ⟨i,⟨d.2.1,d.2.2.1⟩,?_⟩))));by_cases f:1<al V n
   · have:=d.2.2.2;rw [if_pos f]at this
     exact .inr ⟨f,aro.1 (by omega)⟩
   · have:=d.2.2.2;rw [if_neg f]at this
     exact .inl ⟨f,are (by omega)⟩
 rw [if_neg i]at d;by_cases g:op=5∨op=6
 · rw [if_pos g]at d;simp only [aqJ,aqS]at d
   exact .inr (.inr (.inr (.inr (.inr ⟨g,aro.1 (by omega)⟩))))
 rw [if_neg g]at d;cases d
def Hk (how:Int):AF:=⟨3,21,[.tmp 6],.seq (.bI [o 4 (.box (.t 1)),o 6 (.mv (.k (.bool false)))]) (.seq (.seq (.bI [o 7 (.mv (.t 0)),o 8 (.fa 2 (.t 4)),o 9 (.ld (.t 8)),o 10 (.ia 4 (.t 9) (.k (.int .i64 0))),o 11 (.ldn 4 (.t 10)),o 12 (.call 142 [.t 7,.t 11]),o 13 (.bin .eql (.t 12) (.k (.int .i64 0)))]) (.cond (.t 13) (.seq (.bI [o 14 (.mv (.t 0)),o 15 (.mv (.t 2)),o 16 (.call 107 [.t 14,.k (.int .i64 how),.t 15]),o 6 (.mv (.t 16))]) .ret) .skip)) (.seq (.bI [o 17 (.mv (.t 0)),o 18 (.aZ (.t 17)),o 19 (.fa 0 (.t 18)),o 20 (.call 143 [.t 19])]) (.seq (.bI [o 6 (.mv (.k (.bool true)))]) .ret)))⟩
def kQ (G H:AH) (f:Nat) (m:Nat) (p:bC) (ps:List Int) (v:MV) (c:fH) (n:Nat) (eg:List (List bh×Int)) (cs:List Value) (k:Int) (s:bh) (l:List bh):Prop:=
 ∀c',c'=l7 p ps (bE p c s (ch l k s eg)) k s (de p.w p.vars [c.store] s.args) (ch l k s eg)→
  Ca E O f [.pointer (some ⟨m,0,none⟩),.agg cs.toArray,.int .i64 k] H (fun x H'=>x= .bool (!c'.over)∧Did G H m p ps v H' n c')
theorem yf {f:Nat} {op n how:Int} {args:List bQ} {a b:List bh} (Z:O f=none) (he:E f=some (Hk how)) (Y:(op=5∧how=1)∨(op=6∧how=2)) (h:JB G H m p ps v c cO eg vl cs rs k (.mk op n args a b) l):
 kQ G H f m p ps v c cO.length eg cs k (.mk op n args a b) l:=by
 intro c' J;obtain ⟨aH,_,_,W⟩:=iV h.row
 obtain ⟨y,rfl⟩:∃y,args=[y]:=by
  rcases W with⟨q,_⟩|⟨q,_⟩|⟨q,_⟩|⟨q,_⟩|⟨q,_⟩|⟨_,q⟩
  ·omega
  ·omega
  ·omega
  ·omega
  ·omega
  ·exact q
 obtain ⟨zh,TF⟩:=aH y (by simp);have e0:fZ (de p.w p.vars [c.store] [y]) 0=bF p.w p.vars [c.store] y:=rfl
 have g:c'=if bF p.w p.vars [c.store] y=0 then eY (bE p c (.mk op n [y] a b) (ch l k (.mk op n [y] a b) eg)) how k else bE p c (.mk op n [y] a b) (ch l k (.mk op n [y] a b) eg):=by
  rw [J,l7];rcases Y with⟨rfl,rfl⟩|⟨rfl,rfl⟩
  ·rw [if_neg (by omega),if_neg (by omega),if_neg (by omega),if_neg (by omega),if_neg (by omega),if_pos rfl];rfl
  ·rw [if_neg (by omega),if_neg (by omega),if_neg (by omega),if_neg (by omega),if_neg (by omega),if_neg (by omega)];rfl
 clear J;obtain ⟨S,D,C,R,B,Q⟩:=h.mt;have iR:=h.hs
 cases iR with| @mk _ _ va vt ve ra rt re _ _ _ i1 i2 i3 i4 i5 g1 g2 g3 g4 g5 g6 g7 g8=>
 refine Ca.aW (F:=Hk how) Z he rfl ?_;have e:=h.mh.wf;have j:=Ext.alloc H (.cells 5 [.int .i64 op,.int .i64 n,va,vt,ve]);have d0:(H.alloc (.cells 5 [.int .i64 op,.int .i64 n,va,vt,ve])).ld ⟨H.nx,0,none⟩=some (.int .i64 op):=aj e rfl;have d1:(H.alloc (.cells 5 [.int .i64 op,.int .i64 n,va,vt,ve])).ld ⟨H.nx,1,none⟩=some (.int .i64 n):=aj e rfl;have M:(H.alloc (.cells 5 [.int .i64 op,.int .i64 n,va,vt,ve])).ld ⟨H.nx,2,none⟩=some va:=aj e rfl;have d3:(H.alloc (.cells 5 [.int .i64 op,.int .i64 n,va,vt,ve])).ld ⟨H.nx,3,none⟩=some vt:=aj e rfl;have d4:(H.alloc (.cells 5 [.int .i64 op,.int .i64 n,va,vt,ve])).ld ⟨H.nx,4,none⟩=some ve:=aj e rfl;have d:(H.alloc (.cells 5 [.int .i64 op,.int .i64 n,va,vt,ve])).ldn ⟨H.nx,0,none⟩ 5=some [.int .i64 op,.int .i64 n,va,vt,ve]:=bj e 5 rfl;generalize cF:H.alloc (.cells 5 [.int .i64 op,.int .i64 n,va,vt,ve])=H1 at j d0 d1 M d3 d4 d;have bD:=j.wf e;have K:=h.mh.ext j;obtain ⟨b4,o4,c4,vy,r,U,bL,V,mG⟩:=fY.row g1 g2 (i:=0) (y:=y) rfl;have u:=K.sub.ldn bL;simp only [Nat.zero_mul,Nat.add_zero]at u;rw [←V]at u;have L:=M;rw [U]at L;have b7:=h.b7;have b5:=h.b5;have t:=h.w;have I:=h.w.symm;have key:=kr K (by rw [t];exact h.head) (by rw [t];exact h.store) h.vars h.cap mG (by rw [t];exact zh) (by omega) (by rw [D];omega);have A1:=gW.ma h.mh j;have ev:fy p.w p.vars [c.store] [y]=pO p.w p.vars [c.store] y:=by simp [fy]
 have nl:ar [y]=av y:=by simp [ar]
 simp (maxSteps:=9^7)-implicitDefEqProofs+contextual [-X.ev,Hk,cF,L,u];apply ah
 ·(simp-implicitDefEqProofs [-X.ev];rfl)
 refine (key).mono ?_;rintro x H2 ⟨rfl,oC,h2,M2,T⟩;have o:=A1.trans (gW.tr (v:=v) h2 M2 T);rw [I]at g;have P:v.cost+av y=(bE p c (.mk op n [y] a b) (ch l k (.mk op n [y] a b) eg)).cost:=by rw [D,bE];show _=c.cost+ar [y];rw [nl]
 have N:c.trace++pO v.w p.vars [c.store] y=(bE p c (.mk op n [y] a b) (ch l k (.mk op n [y] a b) eg)).trace:=by rw [bE];show _=c.trace++fy p.w p.vars [c.store] [y];rw [ev,I]
 by_cases q:bF v.w p.vars [c.store] y=0
 ·rw [if_pos q]at g
  subst g;simp (maxSteps:=9^7)-implicitDefEqProofs+contextual [-X.ev,q];apply ah
  ·(simp-implicitDefEqProofs [-X.ev];rfl)
  refine (rH (how:=how) (n:=k) o.mh).mono ?_;rintro x H3 ⟨rfl,z⟩;simp (maxSteps:=9^7)-implicitDefEqProofs+contextual [-X.ev,eY];have A:=o.trans z;rw [P,N]at A;exact ⟨_,_,A,fun q=>by simp at q,by simp,⟨rfl,rfl,C,rfl,B,rfl⟩,rfl,rfl,rfl,rfl⟩
 ·rw [if_neg q]at g
  subst g;simp (maxSteps:=9^7)-implicitDefEqProofs+contextual [-X.ev,q];apply ah
  ·(simp-implicitDefEqProofs [-X.ev];rfl)
  refine (gX o.mh h.hr h.hf h.hs h.hl h.h0 (by have:=h.b1;omega) (by have:=h.b3;omega) (by have:=h.b4;omega) (by have:=h.b2;omega)).mono ?_;rintro x H3 ⟨nB,dj,qQ,z,ha,dQ,vE⟩;have A:=o.trans z;rw [P,N]at A;simp (maxSteps:=9^7)-implicitDefEqProofs+contextual [-X.ev,bE,h.ov];exact ⟨_,_,A,fun _=>⟨qQ,ha,dQ.symm⟩,by omega,⟨S,rfl,C,R,B,Q.trans h.ov⟩,rfl,rfl,rfl,rfl⟩
end
end
section
open Go
section
variable{G H:AH} {m:Nat} {p:bC} {ps:List Int} {v:MV} {c:fH} {cO rs:List (List Value)} {eg:List (List bh×Int)} {vl:Value} {cs:List Value} {k:Int} {s:bh} {l:List bh}
theorem gW.ou {H':AH} {rows:List (List Value)} {store:List Int} {outs a:List (Int×Int)} {trace:List Ev} {vo:Value} (h:MH G H m v rows store outs trace) (M:Mod (fun b=>b=m∨aR v.vo b) H H') (f:MH G H' m {v with vo:=vo} rows store a trace) (d:∀b,aR vo b→aR v.vo b∨H.nx≤b):gW G H m v H' {v with vo:=vo} rows store a trace where
 mh:=f
 mod:=M.mono fun b _ q=>q.elim .inl fun q=>.inr (.inr (.inr (.inl q)))
 new:=fun b e=>by
  rcases e with q|q|q|q|q
  ·exact .inl (.inl q)
  ·exact .inl (.inr (.inl q))
  ·exact .inl (.inr (.inr (.inl q)))
  ·exact (d b q).imp (fun q=>.inr (.inr (.inr (.inl q)))) id
  ·exact .inl (.inr (.inr (.inr (.inr q))))
theorem Hm {n:Int} {args:List bQ} {a b:List bh} (h:JB G H m p ps v c cO eg vl cs rs k (.mk 5 n args a b) l):
 kQ G H 113 m p ps v c cO.length eg cs k (.mk 5 n args a b) l:=yf (how:=1) rfl rfl (.inl ⟨rfl,rfl⟩) h
theorem Hn {n:Int} {args:List bQ} {a b:List bh} (h:JB G H m p ps v c cO eg vl cs rs k (.mk 6 n args a b) l):
 kQ G H 114 m p ps v c cO.length eg cs k (.mk 6 n args a b) l:=yf (how:=2) rfl rfl (.inr ⟨rfl,rfl⟩) h
theorem Q8 {w:Int} {V:List Vr} {op n:Int} {args:List bQ} {a e:List bh} (h:eL w V (.mk op n args a e)=true) (f:op=1∨op=2∨op=3):∃y,args=[y]∧dz w V 1 y=true∧av y≤400:=by
 obtain ⟨d,_,_,b⟩:=iV h
 obtain ⟨y,rfl⟩:∃y,args=[y]:=by
  rcases b with⟨q,_⟩|⟨_,q⟩|⟨_,q⟩|⟨_,q⟩|⟨q,_⟩|⟨q,_⟩
  ·omega
  ·exact q
  ·exact q
  ·exact q
  ·omega
  ·omega
 exact ⟨y,rfl,d y (by simp)⟩
theorem DR {n:Int} {args:List bQ} {aB b:List bh} (h:JB G H m p ps v c cO eg vl cs rs k (.mk 1 n args aB b) l):
 kQ G H 109 m p ps v c cO.length eg cs k (.mk 1 n args aB b) l:=by
 intro c' lv;obtain ⟨y,rfl,zh,TF⟩:=Q8 h.row (by omega)
 have i:c'={bE p c (.mk 1 n [y] aB b) (ch l k (.mk 1 n [y] aB b) eg)with trace:=(bE p c (.mk 1 n [y] aB b) (ch l k (.mk 1 n [y] aB b) eg)).trace++[⟨0,k,if bF p.w p.vars [c.store] y=0 then 0 else 1⟩],todo:=(if bF p.w p.vars [c.store] y=0 then eD b (k+1+aC aB)else eD aB (k+1))++ch l k (.mk 1 n [y] aB b) eg}:=by
  rw [lv,l7,if_neg (by omega),if_pos rfl];rfl
 clear lv;obtain ⟨Z,Y,W,V,U,T⟩:=h.mt;have iR:=h.hs
 cases iR with| @mk _ _ va vt ve ra rt re _ _ _ i1 i2 i3 i4 i5 g1 g2 g3 g4 g5 g6 g7 g8=>
 refine Ca.aW (F:=a109) rfl rfl rfl ?_;have f:=h.mh.wf;have u:=Ext.alloc H (.cells 5 [.int .i64 1,.int .i64 n,va,vt,ve]);have d0:(H.alloc (.cells 5 [.int .i64 1,.int .i64 n,va,vt,ve])).ld ⟨H.nx,0,none⟩=some (.int .i64 1):=aj f rfl;have d1:(H.alloc (.cells 5 [.int .i64 1,.int .i64 n,va,vt,ve])).ld ⟨H.nx,1,none⟩=some (.int .i64 n):=aj f rfl;have d2:(H.alloc (.cells 5 [.int .i64 1,.int .i64 n,va,vt,ve])).ld ⟨H.nx,2,none⟩=some va:=aj f rfl;have d3:(H.alloc (.cells 5 [.int .i64 1,.int .i64 n,va,vt,ve])).ld ⟨H.nx,3,none⟩=some vt:=aj f rfl;have d4:(H.alloc (.cells 5 [.int .i64 1,.int .i64 n,va,vt,ve])).ld ⟨H.nx,4,none⟩=some ve:=aj f rfl;have d:(H.alloc (.cells 5 [.int .i64 1,.int .i64 n,va,vt,ve])).ldn ⟨H.nx,0,none⟩ 5=some [.int .i64 1,.int .i64 n,va,vt,ve]:=bj f 5 rfl;generalize cF:H.alloc (.cells 5 [.int .i64 1,.int .i64 n,va,vt,ve])=H1 at u d0 d1 d2 d3 d4 d;have bD:=u.wf f;have h1:=h.mh.ext u;have b7:=h.b7;have b5:=h.b5;have b1:=h.b1;have b2:=h.b2;have b3:=h.b3;rw [bc]at b3;have b4:=h.b4;have pa:=a6 [y];have bt:=bf aB;have lt1:=ef aB;have pR:=ef b;have be:=bf b;have E:=h.w;have nv:=h.w.symm;have key:=te (op:=1) (n:=n) (vt:=vt) (ve:=ve) (k:=k) h1 (by rw [E];exact h.head) (by rw [E];exact h.store) h.vars h.cap g1 g2 (y:=y) rfl (by rw [E];exact zh) (by omega) (by rw [Y];omega);have A1:=gW.ma h.mh u;have ev:fy p.w p.vars [c.store] [y]=pO p.w p.vars [c.store] y:=by simp [fy]
 have nl:ar [y]=av y:=by simp [ar]
 rw [nv]at i;have cc:v.cost+av y=(bE p c (.mk 1 n [y] aB b) (ch l k (.mk 1 n [y] aB b) eg)).cost:=by rw [Y,bE];show _=c.cost+ar [y];rw [nl]
 have ct:c.trace++pO v.w p.vars [c.store] y=(bE p c (.mk 1 n [y] aB b) (ch l k (.mk 1 n [y] aB b) eg)).trace:=by rw [bE];show _=c.trace++fy p.w p.vars [c.store] [y];rw [ev,nv]
 rw [cc,ct]at key;simp (maxSteps:=9^7)-implicitDefEqProofs+contextual [-X.ev,a109,cF,d];apply ah
 ·(simp-implicitDefEqProofs [-X.ev];rfl)
 refine (key).mono ?_;rintro x H2 ⟨rfl,oC,S⟩;have dd:=S.mod.ldn (a:=⟨H.nx,0,none⟩) (fun q=>by have:=h.mh.lt q;simp at this) d;simp (maxSteps:=9^7)-implicitDefEqProofs+contextual [-X.ev];apply ah
 ·(simp-implicitDefEqProofs [-X.ev];rfl)
 refine (gX S.mh h.hr h.hf h.hs h.hl h.h0 (by omega) (by rw [bc];omega) (by omega) (by omega)).mono ?_;rintro x H3 ⟨nB,dj,qQ,g,ha,dQ,vE⟩;have t:=S.trans g;have o:=t.mod.ldn (a:=⟨H.nx,0,none⟩) (fun q=>by have:=h.mh.lt q;simp at this) d;have O:=aK o (j:=3) rfl;have N:=aK o (j:=4) rfl;by_cases q:bF v.w p.vars [c.store] y=0
 ·rw [if_pos q,if_pos q]at i
  have C:IntKind.i64.wrap (k+1)=k+1:=ai ⟨by omega,by omega⟩;have e3n:=bo.1 O;have Ti:=bo.1 N;simp only [q,if_true]at g t;have K:=g.mh;simp (maxSteps:=9^7)-implicitDefEqProofs+contextual [-X.ev,q,C,O,N];apply ah
  ·(simp-implicitDefEqProofs [-X.ev];rfl)
  refine (DQ K.wf (g3.sub K.sub) (gN.sub K.sub g4.Wc) (by omega) (by omega)).mono ?_;rintro x H4 ⟨rfl,r⟩;have z:=r.nx;have B:=r.n0;have M:=r.ldn Ti;have D:da ve ve=true:=by obtain ⟨a,c,e⟩:=g6.len;rw [e];simp
  have w2:IntKind.i64.wrap (k+1+aC aB)=k+1+aC aB:=ai ⟨by omega,by omega⟩;have R:=g.ext r;simp (maxSteps:=9^7)-implicitDefEqProofs+contextual [-X.ev,w2];apply ah
  ·(simp-implicitDefEqProofs [-X.ev];rfl)
  refine (pk (k:=k+1+aC aB) R.mh g6 g7 g8 ha (by omega) (by omega)).mono ?_;rintro x H5 ⟨WN,Ho,L,P,J,I,Q9⟩;have A:=A1.trans ((t.ext r).trans P);have Oh:=P.mod.nx;have JA:=P.mod.n0;simp (maxSteps:=9^7)-implicitDefEqProofs+contextual [-X.ev,bq,aM,aN,z,B,Oh,JA,Ti,M,D];subst i;refine ⟨?_,_,_,A,fun _=>⟨L,J,?_⟩,by omega,⟨Z,rfl,W,V,U,T⟩,rfl,rfl,rfl,rfl⟩
  ·exact h.ov
  ·rw [I,dQ]
 ·rw [if_neg q,if_neg q]at i
  have C:IntKind.i64.wrap (k+1)=k+1:=ai ⟨by omega,by omega⟩;simp only [q,if_false]at g t;simp (maxSteps:=9^7)-implicitDefEqProofs+contextual [-X.ev,q,C,O,N];apply ah
  ·(simp-implicitDefEqProofs [-X.ev];rfl)
  refine (pk (k:=k+1) g.mh g3 g4 g5 ha (by omega) (by omega)).mono ?_;rintro x H4 ⟨WN,Ho,L,Q,J,I,Q9⟩;have A:=A1.trans (t.trans Q);have B:=Q.mod.n0;have z:=Q.mod.nx;simp (maxSteps:=9^7)-implicitDefEqProofs+contextual [-X.ev,bq,aM,aN,B,z];subst i;refine ⟨?_,_,_,A,fun _=>⟨L,J,?_⟩,by omega,⟨Z,rfl,W,V,U,T⟩,rfl,rfl,rfl,rfl⟩
  ·exact h.ov
  ·rw [I,dQ]
theorem LF {n:Int} {args:List bQ} {b e:List bh} (h:JB G H m p ps v c cO eg vl cs rs k (.mk 2 n args b e) l):
 kQ G H 110 m p ps v c cO.length eg cs k (.mk 2 n args b e) l:=by
 intro c' J;obtain ⟨y,rfl,Q,TF⟩:=Q8 h.row (by omega)
 have i:c'={bE p c (.mk 2 n [y] b e) (ch l k (.mk 2 n [y] b e) eg)with trace:=(bE p c (.mk 2 n [y] b e) (ch l k (.mk 2 n [y] b e) eg)).trace++[⟨0,k,if bF p.w p.vars [c.store] y=0 then 0 else 1⟩],todo:=if bF p.w p.vars [c.store] y=0 then ch l k (.mk 2 n [y] b e) eg else eD b (k+1)++(k,.mk 2 n [y] b e)::ch l k (.mk 2 n [y] b e) eg}:=by
  rw [J,l7,if_neg (by omega),if_neg (by omega),if_pos rfl];rfl
 clear J;obtain ⟨E,D,C,B,z,u⟩:=h.mt;have U:=h.hs
 cases U with| @mk _ _ va vt ve ra rt re _ _ _ i1 i2 i3 i4 i5 g1 g2 g3 g4 g5 g6 g7 g8=>
 refine Ca.aW (F:=Kk) rfl rfl rfl ?_;have f:=h.mh.wf;have o:=Ext.alloc H (.cells 5 [.int .i64 2,.int .i64 n,va,vt,ve]);have d0:(H.alloc (.cells 5 [.int .i64 2,.int .i64 n,va,vt,ve])).ld ⟨H.nx,0,none⟩=some (.int .i64 2):=aj f rfl;have d1:(H.alloc (.cells 5 [.int .i64 2,.int .i64 n,va,vt,ve])).ld ⟨H.nx,1,none⟩=some (.int .i64 n):=aj f rfl;have d2:(H.alloc (.cells 5 [.int .i64 2,.int .i64 n,va,vt,ve])).ld ⟨H.nx,2,none⟩=some va:=aj f rfl;have d3:(H.alloc (.cells 5 [.int .i64 2,.int .i64 n,va,vt,ve])).ld ⟨H.nx,3,none⟩=some vt:=aj f rfl;have d4:(H.alloc (.cells 5 [.int .i64 2,.int .i64 n,va,vt,ve])).ld ⟨H.nx,4,none⟩=some ve:=aj f rfl;have d:(H.alloc (.cells 5 [.int .i64 2,.int .i64 n,va,vt,ve])).ldn ⟨H.nx,0,none⟩ 5=some [.int .i64 2,.int .i64 n,va,vt,ve]:=bj f 5 rfl;generalize Y:H.alloc (.cells 5 [.int .i64 2,.int .i64 n,va,vt,ve])=H1 at o d0 d1 d2 d3 d4 d;have bD:=o.wf f;have Z:=h.mh.ext o;have b7:=h.b7;have b5:=h.b5;have b1:=h.b1;have b2:=h.b2;have b3:=h.b3;rw [bc]at b3;have b4:=h.b4;have pa:=a6 [y];have bt:=bf b;have O:=ef b;have pR:=ef e;have be:=bf e;have r:=h.w;have I:=h.w.symm;have key:=te (op:=2) (n:=n) (vt:=vt) (ve:=ve) (k:=k) Z (by rw [r];exact h.head) (by rw [r];exact h.store) h.vars h.cap g1 g2 (y:=y) rfl (by rw [r];exact Q) (by omega) (by rw [D];omega);have K:=gW.ma h.mh o;have ev:fy p.w p.vars [c.store] [y]=pO p.w p.vars [c.store] y:=by simp [fy]
 have nl:ar [y]=av y:=by simp [ar]
 rw [I]at i;have cc:v.cost+av y=(bE p c (.mk 2 n [y] b e) (ch l k (.mk 2 n [y] b e) eg)).cost:=by rw [D,bE];show _=c.cost+ar [y];rw [nl]
 have ct:c.trace++pO v.w p.vars [c.store] y=(bE p c (.mk 2 n [y] b e) (ch l k (.mk 2 n [y] b e) eg)).trace:=by rw [bE];show _=c.trace++fy p.w p.vars [c.store] [y];rw [ev,I]
 rw [cc,ct]at key;simp (maxSteps:=9^7)-implicitDefEqProofs+contextual [-X.ev,Kk,Y,d];apply ah
 ·(simp-implicitDefEqProofs [-X.ev];rfl)
 refine (key).mono ?_;rintro x H2 ⟨rfl,oC,g⟩;have dd:=g.mod.ldn (a:=⟨H.nx,0,none⟩) (fun q=>by have:=h.mh.lt q;simp at this) d;have e3:=aK dd (j:=3) rfl;by_cases q:bF v.w p.vars [c.store] y=0
 ·rw [if_pos q,if_pos q]at i
  simp only [q,if_true]at g;simp (maxSteps:=9^7)-implicitDefEqProofs+contextual [-X.ev,q];apply ah
  ·(simp-implicitDefEqProofs [-X.ev];rfl)
  refine (gX g.mh h.hr h.hf h.hs h.hl h.h0 (by omega) (by rw [bc];omega) (by omega) (by omega)).mono ?_;rintro x H3 ⟨nB,dj,qQ,A3,W,T,vE⟩;have A:=K.trans (g.trans A3);simp (maxSteps:=9^7)-implicitDefEqProofs+contextual [-X.ev];subst i;refine ⟨?_,_,_,A,fun _=>⟨qQ,W,?_⟩,by omega,⟨E,rfl,C,B,z,u⟩,rfl,rfl,rfl,rfl⟩
  ·exact h.ov
  ·exact T.symm
 ·rw [if_neg q,if_neg q]at i
  have N:IntKind.i64.wrap (k+1)=k+1:=ai ⟨by omega,by omega⟩;simp only [q,if_false]at g;have R:fg (Ol G) (cO++[[vl,.int .i64 k]]) (eg++[(.mk 2 n [y] b e::l,k)]):=h.h0.snoc ⟨vl,_,rfl,h.hr,.cons h.hs h.hl,h.hf,by simp,by simpa using b4⟩;simp (maxSteps:=9^7)-implicitDefEqProofs+contextual [-X.ev,q,N,e3];apply ah
  ·(simp-implicitDefEqProofs [-X.ev];rfl)
  refine (pk (k:=k+1) g.mh g3 g4 g5 R (by simp;omega) (by omega)).mono ?_;rintro x H4 ⟨WN,Ho,Hq,t,V,S,P⟩;have A:=K.trans (g.trans t);have M:=t.mod.n0;have L:=t.mod.nx;simp (maxSteps:=9^7)-implicitDefEqProofs+contextual [-X.ev,bq,aM,aN,M,L];subst i;simp at P;refine ⟨?_,_,_,A,fun _=>⟨Hq,V,?_⟩,by omega,⟨E,rfl,C,B,z,u⟩,rfl,rfl,rfl,rfl⟩
  ·exact h.ov
  ·rw [S,jn,kP];simp
theorem LG {n:Int} {args:List bQ} {e f:List bh} (h:JB G H m p ps v c cO eg vl cs rs k (.mk 3 n args e f) l):
 kQ G H 111 m p ps v c cO.length eg cs k (.mk 3 n args e f) l:=by
 intro c' lv;obtain ⟨y,rfl,zh,TF⟩:=Q8 h.row (by omega)
 have fE:c'={bE p c (.mk 3 n [y] e f) (ch l k (.mk 3 n [y] e f) eg)with outs:=c.outs++[(n,bF p.w p.vars [c.store] y)]}:=by
  rw [lv,l7,if_neg (by omega),if_neg (by omega),if_neg (by omega),if_pos rfl];rfl
 clear lv;obtain ⟨m1,m2,m3,m4,m5,m6⟩:=h.mt;have iR:=h.hs
 cases iR with| @mk _ _ va vt ve ra rt re _ _ _ i1 i2 i3 i4 i5 g1 g2 g3 g4 g5 g6 g7 g8=>
 refine Ca.aW (F:=Kl) rfl rfl rfl ?_;have g:=h.mh.wf;have B:=Ext.alloc H (.cells 5 [.int .i64 3,.int .i64 n,va,vt,ve]);have d0:(H.alloc (.cells 5 [.int .i64 3,.int .i64 n,va,vt,ve])).ld ⟨H.nx,0,none⟩=some (.int .i64 3):=aj g rfl;have W:(H.alloc (.cells 5 [.int .i64 3,.int .i64 n,va,vt,ve])).ld ⟨H.nx,1,none⟩=some (.int .i64 n):=aj g rfl;have d2:(H.alloc (.cells 5 [.int .i64 3,.int .i64 n,va,vt,ve])).ld ⟨H.nx,2,none⟩=some va:=aj g rfl;have d3:(H.alloc (.cells 5 [.int .i64 3,.int .i64 n,va,vt,ve])).ld ⟨H.nx,3,none⟩=some vt:=aj g rfl;have d4:(H.alloc (.cells 5 [.int .i64 3,.int .i64 n,va,vt,ve])).ld ⟨H.nx,4,none⟩=some ve:=aj g rfl;have d:(H.alloc (.cells 5 [.int .i64 3,.int .i64 n,va,vt,ve])).ldn ⟨H.nx,0,none⟩ 5=some [.int .i64 3,.int .i64 n,va,vt,ve]:=bj g 5 rfl;generalize cF:H.alloc (.cells 5 [.int .i64 3,.int .i64 n,va,vt,ve])=H1 at B d0 W d2 d3 d4 d;have bD:=B.wf g;have u:=h.mh.ext B;have b7:=h.b7;have b5:=h.b5;have b6:=h.b6;have b1:=h.b1;have b2:=h.b2;have b3:=h.b3;have b4:=h.b4;have P:=h.w;have nv:=h.w.symm;obtain ⟨b4',o4,c4,vy,r,gg,bL,An,mG⟩:=fY.row g1 g2 (i:=0) (y:=y) rfl;have Q:=u.sub.ldn bL;simp only [Nat.zero_mul,Nat.add_zero]at Q;rw [←An]at Q;have DB:=d2;rw [gg]at DB;have key:=kr u (by rw [P];exact h.head) (by rw [P];exact h.store) h.vars h.cap mG (by rw [P];exact zh) (by omega) (by rw [m2];omega);have A1:=gW.ma h.mh B;have ev:fy p.w p.vars [c.store] [y]=pO p.w p.vars [c.store] y:=by simp [fy]
 have nl:ar [y]=av y:=by simp [ar]
 rw [nv]at fE;have cc:v.cost+av y=(bE p c (.mk 3 n [y] e f) (ch l k (.mk 3 n [y] e f) eg)).cost:=by rw [m2,bE];show _=c.cost+ar [y];rw [nl]
 have ct:c.trace++pO v.w p.vars [c.store] y=(bE p c (.mk 3 n [y] e f) (ch l k (.mk 3 n [y] e f) eg)).trace:=by rw [bE];show _=c.trace++fy p.w p.vars [c.store] [y];rw [ev,nv]
 rw [cc,ct]at key;have Z:=aG u.get u.n0 (k:=8) (v:=v.vo) rfl;obtain ⟨oa,oc,y6⟩:=h.mh.ou.shape;simp (maxSteps:=9^7)-implicitDefEqProofs+contextual [-X.ev,Kl,cF,W,DB,Q,Z];apply ah
 ·(simp-implicitDefEqProofs [-X.ev];rfl)
 refine (key).mono ?_;rintro x D ⟨rfl,oC,h2,C,k2⟩;have A2:=A1.trans (gW.tr (v:=v) h2 C k2);have E:=C.nx;have WQ:=C.n0;have L:=aG h2.get h2.n0 (k:=8) (v:=v.vo) rfl;have J:=bo.1 Z;have K:=bo.1 L
 have dd:=C.ldn (a:=⟨H.nx,0,none⟩) (fun q=>by
  rcases q with q|q
  ·have:=h.mh.lt (.inl rfl);simp at q;omega
  ·have:=h.mh.tr.lt q;simp at this) d
 have V:=bo.1 W;have U:=bo.1 (aK dd (j:=1) rfl);have R:=vM (sz:=2) (z:=[.int .i64 0,.int .i64 0]) (H:=D) (v:=.agg #[.int .i64 n,.int .i64 (bF v.w p.vars [c.store] y)]) rfl rfl rfl;simp only [gw]at R;have X3:=Ext.alloc D (.cells 2 [.int .i64 n,.int .i64 (bF v.w p.vars [c.store] y)])
 obtain ⟨H3,LA⟩:∃H3,D.alloc (.cells 2 [.int .i64 n,.int .i64 (bF v.w p.vars [c.store] y)])=H3:=⟨_,rfl⟩
 obtain ⟨s',H4,ha,o,M4,N,nN,y9,wf4,mJ,rG,M⟩:=ji (bytes:=16) h2.wf h2.ou (r:=[.int .i64 n,.int .i64 (bF v.w p.vars [c.store] y)]) rfl LA (by rw [jl];omega) (by rw [jl];omega);rw [LA]at R X3;obtain ⟨a,Y,hs⟩:=o.shape;rw [aqP,List.length_singleton,jl]at hs;subst hs;have T:=M4.get h2.d1.2.2.1 h2.get;obtain ⟨H5,s5,M5,N4,xS,S⟩:=bR T (by rw [nN];exact h2.n0) (k:=8) (vs:=[.slice a (c.outs.length+1) Y]) (by simp)
 have o5:dK H5 2 (.slice a (c.outs.length+1) Y) (cY (c.outs++[(n,bF v.w p.vars [c.store] y)])):=by
  rw [sY];exact o.mod M5 fun b t q=>by have:=N b t;have:=h2.lt (.inl rfl);omega
 have N5:Mod (fun b=>b=m∨aR v.vo b) D H5:=(M4.mono fun x _ O=>.inr O).trans (M5.mono fun x _ O=>.inl O);have h5:=h2.WH (vo:=.slice a (c.outs.length+1) Y) N5 S o5 (fun b t=>.inr (N b t));have A5:=gW.ou h2 N5 h5 (fun b t=>.inr (N b t));have I:da v.vo v.vo=true:=by rw [y6];simp
 have ua:eS [.int .i64 0,.int .i64 0] [(0,1,.int .i64 n),(1,1,.int .i64 (bF v.w p.vars [c.store] y))]=some (.agg #[.int .i64 n,.int .i64 (bF v.w p.vars [c.store] y)]):=rfl;simp (maxSteps:=9^7)-implicitDefEqProofs+contextual [-X.ev,ua,R,ha,s5,E,WQ,J,K,V,U,I,mJ,nN,xS,rG,M,N4,bq,aM,aN];apply ah
 ·(simp-implicitDefEqProofs [-X.ev];rfl)
 refine (gX A5.mh h.hr h.hf h.hs h.hl h.h0 (by omega) (by omega) (by omega) (by omega)).mono ?_;rintro x H6 ⟨nB,dj,qQ,A6,Wb,dQ,vE⟩;have A:=A2.trans (A5.trans A6);simp (maxSteps:=9^7)-implicitDefEqProofs+contextual [-X.ev];subst fE;refine ⟨?_,_,_,A,fun _=>⟨qQ,Wb,?_⟩,by omega,⟨m1,rfl,m3,m4,m5,m6⟩,rfl,rfl,rfl,rfl⟩
 ·exact h.ov
 ·exact dQ.symm
end
end
section
open Go
section
variable{G H:AH} {m:Nat} {p:bC} {ps:List Int} {v:MV} {c:fH} {cO rs:List (List Value)} {eg:List (List bh×Int)} {vl:Value} {cs:List Value} {k:Int} {s:bh} {l:List bh}
theorem LH {n:Int} {args:List bQ} {f g:List bh} (h:JB G H m p ps v c cO eg vl cs rs k (.mk 0 n args f g) l):
 kQ G H 108 m p ps v c cO.length eg cs k (.mk 0 n args f g) l:=by
 intro c' lv;rw [l7,if_pos rfl]at lv;obtain ⟨P,_,_,Hl⟩:=iV h.row;obtain ⟨m1,E,m3,m4,m5,m6⟩:=h.mt;have iR:=h.hs
 cases iR with| @mk _ _ va vt ve ra rt re _ _ _ i1 i2 i3 i4 i5 g1 g2 g3 g4 g5 g6 g7 g8=>
 refine Ca.aW (F:=FU) rfl rfl rfl ?_;have u:=h.mh.wf;have R:=Ext.alloc H (.cells 5 [.int .i64 0,.int .i64 n,va,vt,ve]);have d0:(H.alloc (.cells 5 [.int .i64 0,.int .i64 n,va,vt,ve])).ld ⟨H.nx,0,none⟩=some (.int .i64 0):=aj u rfl;have d1:(H.alloc (.cells 5 [.int .i64 0,.int .i64 n,va,vt,ve])).ld ⟨H.nx,1,none⟩=some (.int .i64 n):=aj u rfl;have d2:(H.alloc (.cells 5 [.int .i64 0,.int .i64 n,va,vt,ve])).ld ⟨H.nx,2,none⟩=some va:=aj u rfl;have d3:(H.alloc (.cells 5 [.int .i64 0,.int .i64 n,va,vt,ve])).ld ⟨H.nx,3,none⟩=some vt:=aj u rfl;have d4:(H.alloc (.cells 5 [.int .i64 0,.int .i64 n,va,vt,ve])).ld ⟨H.nx,4,none⟩=some ve:=aj u rfl;have d:(H.alloc (.cells 5 [.int .i64 0,.int .i64 n,va,vt,ve])).ldn ⟨H.nx,0,none⟩ 5=some [.int .i64 0,.int .i64 n,va,vt,ve]:=bj u 5 rfl;generalize cF:H.alloc (.cells 5 [.int .i64 0,.int .i64 n,va,vt,ve])=H1 at R d0 d1 d2 d3 d4 d;have bD:=R.wf u;have Q:=h.mh.ext R;have b7:=h.b7;have b5:=h.b5;have b6:=h.b6;have b1:=h.b1;have b2:=h.b2;have b3:=h.b3;have b4:=h.b4;have b8:=h.b8;have yg:=h.w;have D:=h.w.symm;have o:=h.head;have C:=h.store;rw [D]at o C;have A1:=gW.ma h.mh R
 have fR:1≤v.w∧v.w≤8:=⟨(aP o).1,(aP o).2.1⟩
 have hp:=jH fR;have LD:Od v.w p.vars [c.store]:=fun t ht=>by simp at ht;subst ht;exact C
 have out:∀b,(b=m∨aR v.vt b)→b≠H.nx:=fun b hb e=>by
  subst e;rcases hb with q|q
  ·have:=h.mh.lt (.inl q);omega
  ·have:=h.mh.tr.lt q;omega
 rw [D]at P;have nb:¬ Mf m v H.nx:=fun q=>by have:=h.mh.lt q;omega
 have w0:IntKind.i64.wrap 0=0:=rfl;have WR:IntKind.i64.wrap 1=1:=rfl
 obtain ⟨O,iC⟩:(0≤n∧n<p.vars.length)∧((¬ 1<al p.vars n∧∃a,args=[a])∨(1<al p.vars n∧∃a b,args=[a,b])):=by
  rcases Hl with⟨_,q⟩|⟨q,_⟩|⟨q,_⟩|⟨q,_⟩|⟨q,_⟩|⟨q,_⟩
  ·exact q
  ·omega
  ·omega
  ·omega
  ·omega
  ·omega
 rcases iC with⟨J,y,rfl⟩|⟨J,z,y,rfl⟩
 ·obtain ⟨I,TF⟩:=P y (by simp)
  have TE:=kn o LD y I;obtain ⟨b4',o4,c4,vy,r,gg,B,An,mG⟩:=fY.row g1 g2 (i:=0) (y:=y) rfl;simp only [Nat.zero_mul,Nat.add_zero]at B;rw [←An]at B;simp (maxSteps:=9^7)-implicitDefEqProofs+contextual [-X.ev,FU,cF,d];apply ah
  ·(simp-implicitDefEqProofs [-X.ev];rfl)
  refine (BO (op:=0) (n:=n) (va:=va) (vt:=vt) (ve:=ve) Q h.vars O J).mono ?_;rintro x H2 ⟨rfl,X2⟩;have h2:=Q.ext X2;have xG:=h2.sub.ldn B;have K:=aK (X2.ldn d) (j:=2) rfl;rw [gg]at K;have T:=gW.ma Q X2;have u2:=eW (w:=v.w) (V:=p.vars) (S:=[c.store]) y;simp (maxSteps:=9^7)-implicitDefEqProofs+contextual [-X.ev,K,xG,w0];apply ah
  ·(simp-implicitDefEqProofs [-X.ev];rfl)
  refine (kr h2 o C h.vars h.cap mG I (by omega) (by rw [E];omega)).mono ?_;rintro x H3 ⟨rfl,oC,h3,M3,Z⟩;have M:=T.trans (gW.tr (v:=v) h3 M3 Z);simp (maxSteps:=9^7)-implicitDefEqProofs+contextual [-X.ev];apply ah
  ·(simp-implicitDefEqProofs [-X.ev];rfl)
  refine (gX M.mh h.hr h.hf h.hs h.hl h.h0 (by omega) (by omega) (by omega) (by omega)).mono ?_;rintro x H4 ⟨nB,W,qQ,N,ha,dQ,vE⟩;have L:=M.trans N;have e1:=aK (L.mod.ldn (a:=⟨H.nx,0,none⟩) nb d) (j:=1) rfl;simp (maxSteps:=9^7)-implicitDefEqProofs+contextual [-X.ev,e1];apply ah
  ·(simp-implicitDefEqProofs [-X.ev];rfl)
  refine (mP (n:=n) (i:=0) (a:=bF v.w p.vars [c.store] y) N.mh o C h.vars h.cap O (by omega) (by simp only [aqP];omega)).mono ?_;rintro x H5 ⟨Ra,h5,M5,Y⟩;have B5:=L.trans (gW.trW h5 M5 Y);have A:=A1.trans B5;simp (maxSteps:=9^7)-implicitDefEqProofs+contextual [-X.ev]
  have fE:c'=jy p.vars (bE p c (.mk 0 n [y] f g) (ch l k (.mk 0 n [y] f g) eg)) n 0 (bF v.w p.vars [c.store] y):=by
   rw [lv,if_neg J];show jy _ _ _ _ (bF p.w p.vars [c.store] y)=_;rw [D]
  subst fE;have gv:(jy p.vars (bE p c (.mk 0 n [y] f g) (ch l k (.mk 0 n [y] f g) eg)) n 0 (bF v.w p.vars [c.store] y)).store=c.store.set (bZ p.vars n+0%al p.vars n).toNat (bF v.w p.vars [c.store] y):=rfl
  have DS:(jy p.vars (bE p c (.mk 0 n [y] f g) (ch l k (.mk 0 n [y] f g) eg)) n 0 (bF v.w p.vars [c.store] y)).trace=c.trace++pO v.w p.vars [c.store] y++if 1<al p.vars n then [⟨2,n,0%al p.vars n⟩]else []:=by
   show c.trace++fy p.w p.vars [c.store] [y]++_=_;rw [D];simp [fy]
  rw [←gv,←DS]at A;refine ⟨?_,_,W,A,fun _=>⟨qQ,ha,dQ.symm⟩,by omega,⟨m1,?_,m3,m4,m5,m6⟩,rfl,rfl,rfl,rfl⟩
  ·exact h.ov
  ·show v.cost+av y=c.cost+ar [y]
   rw [E];simp [ar]
 ·obtain ⟨I,TF⟩:=P y (by simp)
  obtain ⟨ub,hnz⟩:=P z (by simp);have TE:=kn o LD y I;have hwz:=kn o LD z ub;obtain ⟨b4',o4,c4,vy,r,gg,B,An,mG⟩:=fY.row g1 g2 (i:=1) (y:=y) rfl;simp only [Nat.one_mul]at B;rw [←An]at B;simp (maxSteps:=9^7)-implicitDefEqProofs+contextual [-X.ev,FU,cF,d];apply ah
  ·(simp-implicitDefEqProofs [-X.ev];rfl)
  refine (BP (op:=0) (n:=n) (va:=va) (vt:=vt) (ve:=ve) Q o C h.vars h.cap O J g1 g2 (y:=z) rfl ub (by omega) (by rw [E];omega)).mono ?_;rintro x H2 ⟨rfl,U,h2,M2,k2⟩;have xG:=h2.sub.ldn B;have T:=gW.tr (v:=v) h2 M2 k2;have K:=aK (T.mod.ldn (a:=⟨H.nx,0,none⟩) nb d) (j:=2) rfl;rw [gg]at K;have u1:=eW (w:=v.w) (V:=p.vars) (S:=[c.store]) z;have u2:=eW (w:=v.w) (V:=p.vars) (S:=[c.store]) y;have pz:=ec z;simp (maxSteps:=9^7)-implicitDefEqProofs+contextual [-X.ev,K,xG,WR];apply ah
  ·(simp-implicitDefEqProofs [-X.ev];rfl)
  refine (kr h2 o C h.vars h.cap mG I (by rw [aqP];omega) (by show 0≤v.cost+av z∧v.cost+av z+av y≤2^60;rw [E];omega)).mono ?_;rintro x H3 ⟨rfl,oC,h3,M3,Z⟩;have M:=T.trans (gW.tr (v:={v with vt:=U,cost:=v.cost+av z}) h3 M3 Z);simp (maxSteps:=9^7)-implicitDefEqProofs+contextual [-X.ev];apply ah
  ·(simp-implicitDefEqProofs [-X.ev];rfl)
  refine (gX M.mh h.hr h.hf h.hs h.hl h.h0 (by omega) (by omega) (by omega) (by omega)).mono ?_;rintro x H4 ⟨nB,W,qQ,N,ha,dQ,vE⟩;have L:=M.trans N;have e1:=aK (L.mod.ldn (a:=⟨H.nx,0,none⟩) nb d) (j:=1) rfl;simp (maxSteps:=9^7)-implicitDefEqProofs+contextual [-X.ev,e1];apply ah
  ·(simp-implicitDefEqProofs [-X.ev];rfl)
  refine (mP (n:=n) (i:=(bF v.w p.vars [c.store] z)) (a:=bF v.w p.vars [c.store] y) N.mh o C h.vars h.cap O (by omega) (by simp only [aqP];omega)).mono ?_;rintro x H5 ⟨Ra,h5,M5,Y⟩;have B5:=L.trans (gW.trW h5 M5 Y);have A:=A1.trans B5;simp (maxSteps:=9^7)-implicitDefEqProofs+contextual [-X.ev]
  have fE:c'=jy p.vars (bE p c (.mk 0 n [z,y] f g) (ch l k (.mk 0 n [z,y] f g) eg)) n (bF v.w p.vars [c.store] z) (bF v.w p.vars [c.store] y):=by
   rw [lv,if_pos J];show jy _ _ _ _ (bF p.w p.vars [c.store] y)=_;rw [D];rfl
  subst fE;have gv:(jy p.vars (bE p c (.mk 0 n [z,y] f g) (ch l k (.mk 0 n [z,y] f g) eg)) n (bF v.w p.vars [c.store] z) (bF v.w p.vars [c.store] y)).store=c.store.set (bZ p.vars n+(bF v.w p.vars [c.store] z)%al p.vars n).toNat (bF v.w p.vars [c.store] y):=rfl
  have DS:(jy p.vars (bE p c (.mk 0 n [z,y] f g) (ch l k (.mk 0 n [z,y] f g) eg)) n (bF v.w p.vars [c.store] z) (bF v.w p.vars [c.store] y)).trace=c.trace++pO v.w p.vars [c.store] z++pO v.w p.vars [c.store] y++if 1<al p.vars n then [⟨2,n,(bF v.w p.vars [c.store] z)%al p.vars n⟩]else []:=by
   show c.trace++fy p.w p.vars [c.store] [z,y]++_=_;rw [D];simp [fy]
  rw [←gv,←DS]at A;refine ⟨?_,_,W,A,fun _=>⟨qQ,ha,dQ.symm⟩,by omega,⟨m1,?_,m3,m4,m5,m6⟩,rfl,rfl,rfl,rfl⟩
  ·exact h.ov
  ·show v.cost+av z+av y=c.cost+ar [z,y]
   rw [E];simp [ar];omega
end
end
section
open Go
section
variable{G H:AH} {m:Nat} {p:bC} {ps:List Int} {v:MV} {c:fH} {cO rs:List (List Value)} {eg:List (List bh×Int)} {vl:Value} {cs:List Value} {k:Int} {s:bh} {l:List bh}
theorem Hs {n:Int} {args:List bQ} {f g:List bh} (h:JB G H m p ps v c cO eg vl cs rs k (.mk 4 n args f g) l):
 kQ G H 112 m p ps v c cO.length eg cs k (.mk 4 n args f g) l:=by
 intro c' z;rw [l7,if_neg (by omega),if_neg (by omega),if_neg (by omega),if_neg (by omega),if_pos rfl]at z;rw [show(bE p c (.mk 4 n args f g) (ch l k (.mk 4 n args f g) eg)).used=c.used from rfl]at z;obtain ⟨aH,_,_,Hl⟩:=iV h.row;obtain ⟨m1,N,u,m4,W,m6⟩:=h.mt;have iR:=h.hs
 cases iR with| @mk _ _ va vt ve ra rt re _ _ _ i1 i2 i3 i4 i5 g1 g2 g3 g4 g5 g6 g7 g8=>
 refine Ca.aW (F:=FV) rfl rfl rfl ?_;have C:=h.mh.wf;have X1:=Ext.alloc H (.cells 5 [.int .i64 4,.int .i64 n,va,vt,ve]);have d0:(H.alloc (.cells 5 [.int .i64 4,.int .i64 n,va,vt,ve])).ld ⟨H.nx,0,none⟩=some (.int .i64 4):=aj C rfl;have d1:(H.alloc (.cells 5 [.int .i64 4,.int .i64 n,va,vt,ve])).ld ⟨H.nx,1,none⟩=some (.int .i64 n):=aj C rfl;have d2:(H.alloc (.cells 5 [.int .i64 4,.int .i64 n,va,vt,ve])).ld ⟨H.nx,2,none⟩=some va:=aj C rfl;have d3:(H.alloc (.cells 5 [.int .i64 4,.int .i64 n,va,vt,ve])).ld ⟨H.nx,3,none⟩=some vt:=aj C rfl;have d4:(H.alloc (.cells 5 [.int .i64 4,.int .i64 n,va,vt,ve])).ld ⟨H.nx,4,none⟩=some ve:=aj C rfl;have d:(H.alloc (.cells 5 [.int .i64 4,.int .i64 n,va,vt,ve])).ldn ⟨H.nx,0,none⟩ 5=some [.int .i64 4,.int .i64 n,va,vt,ve]:=bj C 5 rfl;generalize cF:H.alloc (.cells 5 [.int .i64 4,.int .i64 n,va,vt,ve])=H1 at X1 d0 d1 d2 d3 d4 d;have bD:=X1.wf C;have Z:=h.mh.ext X1;have b7:=h.b7;have b5:=h.b5;have b6:=h.b6;have b1:=h.b1;have b2:=h.b2;have b3:=h.b3;have b4:=h.b4;have b8:=h.b8;have yg:=h.w;have I:=h.w.symm;have J:=h.head;have Q:=h.store;rw [I]at J Q;have A1:=gW.ma h.mh X1
 have fR:1≤v.w∧v.w≤8:=⟨(aP J).1,(aP J).2.1⟩
 have hp:=jH fR;have LD:Od v.w p.vars [c.store]:=fun t ht=>by simp at ht;subst ht;exact Q
 have out:∀b,(b=m∨aR v.vt b)→b≠H.nx:=fun b hb e=>by
  subst e;rcases hb with q|q
  ·have:=h.mh.lt (.inl q);omega
  ·have:=h.mh.tr.lt q;omega
 rw [I]at aH;have nb:¬ Mf m v H.nx:=fun q=>by have:=h.mh.lt q;omega
 have w0:IntKind.i64.wrap 0=0:=rfl;have WR:IntKind.i64.wrap 1=1:=rfl
 obtain ⟨Y,iC⟩:(0≤n∧n<p.vars.length)∧((¬ 1<al p.vars n∧args=[])∨(1<al p.vars n∧∃a,args=[a])):=by
  rcases Hl with⟨q,_⟩|⟨q,_⟩|⟨q,_⟩|⟨q,_⟩|⟨_,q⟩|⟨q,_⟩
  ·omega
  ·omega
  ·omega
  ·omega
  ·exact q
  ·omega
 obtain ⟨pa,pc,WS⟩:=h.cd.len;rcases iC with⟨O,rfl⟩|⟨O,y,rfl⟩
 ·simp (maxSteps:=9^7)-implicitDefEqProofs+contextual [-X.ev,FV,cF,d]
  apply ah
  ·(simp-implicitDefEqProofs [-X.ev];rfl)
  refine (BO (op:=4) (n:=n) (va:=va) (vt:=vt) (ve:=ve) Z h.vars Y O).mono ?_;rintro x H2 ⟨rfl,X2⟩;have h2:=Z.ext X2;have B:=gW.ma Z X2;have K:=aG h2.get h2.n0 (k:=5) (v:=v.vp) rfl;have f11:=aG h2.get h2.n0 (k:=11) (v:=.int .i64 v.used) rfl;rw [WS]at K;rw [u]at f11;by_cases q:ps.length≤c.used
  ·have E:(c.used:Int)=(ps.length:Int):=by omega
   rw [if_pos q]at z;simp (maxSteps:=9^7)-implicitDefEqProofs+contextual [-X.ev,K,f11,u,E,bq,aM,aN];apply ah
   ·(simp-implicitDefEqProofs [-X.ev];rfl)
   refine (rH (how:=4) (n:=k) B.mh).mono ?_;rintro x H3 ⟨rfl,r⟩;have A:=(A1.trans B).trans r;simp (maxSteps:=9^7)-implicitDefEqProofs+contextual [-X.ev];subst z
   have D:(eY (bE p c (.mk 4 n [] f g) (ch l k (.mk 4 n [] f g) eg)) 4 k).trace=c.trace:=by
    show c.trace++fy p.w p.vars [c.store] []=_;rw [I];simp [fy]
   rw [←D]at A;refine ⟨?_,_,_,A,fun q=>by simp [eY]at q,by simp,⟨rfl,?_,u,rfl,W,rfl⟩,rfl,rfl,rfl,rfl⟩
   ·rfl
   ·show v.cost=c.cost+ar []
    rw [N];simp [ar]
  ·have E:¬ (c.used:Int)=(ps.length:Int):=by omega
   rw [if_neg q]at z;simp (maxSteps:=9^7)-implicitDefEqProofs+contextual [-X.ev,K,f11,u,E,bq,aM,aN];apply ah
   ·(simp-implicitDefEqProofs [-X.ev];rfl)
   refine (gX B.mh h.hr h.hf h.hs h.hl h.h0 (by omega) (by omega) (by omega) (by omega)).mono ?_;rintro x H3 ⟨nB,dj,qQ,r,ha,dQ,vE⟩;have B3:=B.trans r;have g11:=aG r.mh.get r.mh.n0 (k:=11) (v:=.int .i64 v.used) rfl;obtain ⟨H4,s4,U,y9,nN⟩:=r.mh.cell (v':={v with vf:=nB,used:=(c.used:Int)+1}) 11 (.int .i64 ((c.used:Int)+1)) (by omega) rfl rfl rfl rfl rfl;have T:=B3.trans U;have w2:IntKind.i64.wrap ((c.used:Int)+1)=(c.used:Int)+1:=ai ⟨by omega,by omega⟩;have w3:IntKind.i64.wrap (c.used:Int)=(c.used:Int):=ai ⟨by omega,by omega⟩;have e1:=aK (T.mod.ldn (a:=⟨H.nx,0,none⟩) nb d) (j:=1) rfl;have o:=U.mh
   obtain ⟨a,P⟩:∃a,ps[c.used]?=some a:=⟨_,aqG (by omega)⟩
   have gg:fZ ps c.used=a:=by simp [fZ,P]
   obtain ⟨bp,op_,cp_,N6,eQ⟩:=(fb.sub o.sub h.cd).at P;have R:=aG o.get o.n0 (k:=5) (v:=v.vp) rfl;have Rb:=aG o.get o.n0 (k:=11) (v:=.int .i64 ((c.used:Int)+1)) rfl;rw [N6]at R;have cN:(c.used:Int)<(ps.length:Int):=by omega
   rw [u]at g11;simp (maxSteps:=9^7)-implicitDefEqProofs+contextual [-X.ev,g11,w2,s4,e1,R,Rb,w3,cN,eQ];apply ah
   ·(simp-implicitDefEqProofs [-X.ev];rfl)
   refine (mP (n:=n) (i:=0) (a:=a) o J Q h.vars h.cap Y (by omega) (by omega)).mono ?_;rintro x H5 ⟨Ra,h5,L,k5⟩;have M:=gW.trW h5 L k5;have A:=A1.trans (T.trans M);have Oh:=L.nx;have JA:=L.n0;simp (maxSteps:=9^7)-implicitDefEqProofs+contextual [-X.ev,bq,aM,aN,Oh,JA]
   have fE:c'=jy p.vars {bE p c (.mk 4 n [] f g) (ch l k (.mk 4 n [] f g) eg)with used:=c.used+1} n 0 a:=by
    rw [z,if_neg O,gg]
   subst fE;have gv:(jy p.vars {bE p c (.mk 4 n [] f g) (ch l k (.mk 4 n [] f g) eg)with used:=c.used+1} n 0 a).store=c.store.set (bZ p.vars n+0%al p.vars n).toNat a:=rfl
   have D:(jy p.vars {bE p c (.mk 4 n [] f g) (ch l k (.mk 4 n [] f g) eg)with used:=c.used+1} n 0 a).trace=c.trace++if 1<al p.vars n then [⟨2,n,0%al p.vars n⟩]else []:=by
    show c.trace++fy p.w p.vars [c.store] []++_=_;rw [I];simp [fy]
   rw [←gv,←D]at A;refine ⟨?_,_,dj,A,fun _=>⟨qQ,ha,dQ.symm⟩,by omega,⟨m1,?_,by show(c.used:Int)+1=((c.used+1:Nat):Int);omega,m4,W,m6⟩,rfl,rfl,rfl,rfl⟩
   ·exact h.ov
   ·show v.cost=c.cost+ar []
    rw [N];simp [ar]
 ·obtain ⟨zh,TF⟩:=aH y (by simp)
  have TE:=kn J LD y zh;simp (maxSteps:=9^7)-implicitDefEqProofs+contextual [-X.ev,FV,cF,d];apply ah
  ·(simp-implicitDefEqProofs [-X.ev];rfl)
  refine (BP (op:=4) (n:=n) (va:=va) (vt:=vt) (ve:=ve) Z J Q h.vars h.cap Y O g1 g2 (y:=y) rfl zh (by omega) (by rw [N];omega)).mono ?_;rintro x H2 ⟨rfl,vt1,h2,M2,k2⟩;have B:=gW.tr (v:=v) h2 M2 k2;have u1:=eW (w:=v.w) (V:=p.vars) (S:=[c.store]) y;have K:=aG h2.get h2.n0 (k:=5) (v:=v.vp) rfl;have f11:=aG h2.get h2.n0 (k:=11) (v:=.int .i64 v.used) rfl;rw [WS]at K;rw [u]at f11;by_cases q:ps.length≤c.used
  ·have E:(c.used:Int)=(ps.length:Int):=by omega
   rw [if_pos q]at z;simp (maxSteps:=9^7)-implicitDefEqProofs+contextual [-X.ev,K,f11,u,E,bq,aM,aN];apply ah
   ·(simp-implicitDefEqProofs [-X.ev];rfl)
   refine (rH (how:=4) (n:=k) B.mh).mono ?_;rintro x H3 ⟨rfl,r⟩;have A:=(A1.trans B).trans r;simp (maxSteps:=9^7)-implicitDefEqProofs+contextual [-X.ev];subst z
   have D:(eY (bE p c (.mk 4 n [y] f g) (ch l k (.mk 4 n [y] f g) eg)) 4 k).trace=c.trace++pO v.w p.vars [c.store] y:=by
    show c.trace++fy p.w p.vars [c.store] [y]=_;rw [I];simp [fy]
   rw [←D]at A;refine ⟨?_,_,_,A,fun q=>by simp [eY]at q,by simp,⟨rfl,?_,u,rfl,W,rfl⟩,rfl,rfl,rfl,rfl⟩
   ·rfl
   ·show v.cost+av y=c.cost+ar [y]
    rw [N];simp [ar]
  ·have E:¬ (c.used:Int)=(ps.length:Int):=by omega
   rw [if_neg q]at z;simp (maxSteps:=9^7)-implicitDefEqProofs+contextual [-X.ev,K,f11,u,E,bq,aM,aN];apply ah
   ·(simp-implicitDefEqProofs [-X.ev];rfl)
   refine (gX B.mh h.hr h.hf h.hs h.hl h.h0 (by omega) (by omega) (by omega) (by omega)).mono ?_;rintro x H3 ⟨nB,dj,qQ,r,ha,dQ,vE⟩;have B3:=B.trans r;have g11:=aG r.mh.get r.mh.n0 (k:=11) (v:=.int .i64 v.used) rfl;obtain ⟨H4,s4,U,y9,nN⟩:=r.mh.cell (v':={v with vt:=vt1,cost:=v.cost+av y,vf:=nB,used:=(c.used:Int)+1}) 11 (.int .i64 ((c.used:Int)+1)) (by omega) rfl rfl rfl rfl rfl;have T:=B3.trans U;have w2:IntKind.i64.wrap ((c.used:Int)+1)=(c.used:Int)+1:=ai ⟨by omega,by omega⟩;have w3:IntKind.i64.wrap (c.used:Int)=(c.used:Int):=ai ⟨by omega,by omega⟩;have e1:=aK (T.mod.ldn (a:=⟨H.nx,0,none⟩) nb d) (j:=1) rfl;have o:=U.mh
   obtain ⟨a,P⟩:∃a,ps[c.used]?=some a:=⟨_,aqG (by omega)⟩
   have gg:fZ ps c.used=a:=by simp [fZ,P]
   obtain ⟨bp,op_,cp_,N6,eQ⟩:=(fb.sub o.sub h.cd).at P;have R:=aG o.get o.n0 (k:=5) (v:=v.vp) rfl;have Rb:=aG o.get o.n0 (k:=11) (v:=.int .i64 ((c.used:Int)+1)) rfl;rw [N6]at R;have cN:(c.used:Int)<(ps.length:Int):=by omega
   rw [u]at g11;simp (maxSteps:=9^7)-implicitDefEqProofs+contextual [-X.ev,g11,w2,s4,e1,R,Rb,w3,cN,eQ];apply ah
   ·(simp-implicitDefEqProofs [-X.ev];rfl)
   refine (mP (n:=n) (i:=(bF v.w p.vars [c.store] y)) (a:=a) o J Q h.vars h.cap Y (by omega) (by simp only [aqP];omega)).mono ?_;rintro x H5 ⟨Ra,h5,L,k5⟩;have M:=gW.trW h5 L k5;have A:=A1.trans (T.trans M);have Oh:=L.nx;have JA:=L.n0;simp (maxSteps:=9^7)-implicitDefEqProofs+contextual [-X.ev,bq,aM,aN,Oh,JA]
   have fE:c'=jy p.vars {bE p c (.mk 4 n [y] f g) (ch l k (.mk 4 n [y] f g) eg)with used:=c.used+1} n (bF v.w p.vars [c.store] y) a:=by
    rw [z,if_pos O,gg];show jy _ _ _ (bF p.w p.vars [c.store] y) _=_;rw [I]
   subst fE;have gv:(jy p.vars {bE p c (.mk 4 n [y] f g) (ch l k (.mk 4 n [y] f g) eg)with used:=c.used+1} n (bF v.w p.vars [c.store] y) a).store=c.store.set (bZ p.vars n+(bF v.w p.vars [c.store] y)%al p.vars n).toNat a:=rfl
   have D:(jy p.vars {bE p c (.mk 4 n [y] f g) (ch l k (.mk 4 n [y] f g) eg)with used:=c.used+1} n (bF v.w p.vars [c.store] y) a).trace=c.trace++pO v.w p.vars [c.store] y++if 1<al p.vars n then [⟨2,n,(bF v.w p.vars [c.store] y)%al p.vars n⟩]else []:=by
    show c.trace++fy p.w p.vars [c.store] [y]++_=_;rw [I];simp [fy]
   rw [←gv,←D]at A;refine ⟨?_,_,dj,A,fun _=>⟨qQ,ha,dQ.symm⟩,by omega,⟨m1,?_,by show(c.used:Int)+1=((c.used+1:Nat):Int);omega,m4,W,m6⟩,rfl,rfl,rfl,rfl⟩
   ·exact h.ov
   ·show v.cost+av y=c.cost+ar [y]
    rw [N];simp [ar]
end
end
section
open Go
structure Inv (p:bC) (ps:List Int) (c:fH):Prop where
 head:aA p.w p.vars=true
 store:bB p.w p.vars c.store=true
 words:∀a∈ps,0≤a∧a<2^p.w.toNat
 used:c.used≤ps.length∧ps.length≤16
 WV:aC p.body≤400
 todo:∀it∈c.todo,0≤it.1∧it.1+bu it.2≤aC p.body∧eL p.w p.vars it.2=true∧bc it.2≤400
 fuel:0≤c.fuel∧c.fuel≤4096
 tr:(c.trace.length:Int)+500*c.fuel≤2^30
 ou:(c.outs.length:Int)+c.fuel≤2^30
 co:0≤c.cost∧c.cost+500*c.fuel≤2^40
theorem po {w:Int} {V:List Vr} {C N:Int}:∀(l:List bh) (k:Int),0≤k→k+aC l≤C→fv w V l=true→au l≤N→∀it∈eD l k,0≤it.1∧it.1+bu it.2≤C∧eL w V it.2=true∧bc it.2≤N
 |[],k,_,_,_,_,it,h=>by simp [eD]at h
 |s::l,k,c,d,a,b,it,h=>by
  rw [kP]at h;rw [aC]at d;rw [au]at b;rw [fv,aqJ]at a;have g:=bf l;have h2:=lZ s;have f:=lV s;have e:=cz l;rcases aqY.1 h with rfl|h
  ·exact ⟨c,by show k+bu s≤C;omega,a.1,by show bc s≤N;omega⟩
  ·exact po l _ (by omega) (by omega) a.2 (by omega) it h
theorem yh {w:Int} {V:List Vr} {s:List Int} (c:1≤w∧w≤8) (h:bB w V s=true) (k:Nat) {a:Int} (e:0≤a∧a<2^w.toNat):bB w V (s.set k a)=true:=by
 simp only [bB,aqJ,aqS,aqW,List.length_set]at h⊢;refine ⟨h.1,fun b d=>?_⟩;rcases List.mem_or_eq_of_mem_set d with q|q
 ·exact h.2 b q
 ·rw [q];exact mN c e
theorem BQ {p:bC} {ps:List Int} {c:fH} {n i a:Int} (h:Inv p ps c) (d:(c.trace.length:Int)+1+500*c.fuel≤2^30) (b:0≤a∧a<2^p.w.toNat):Inv p ps (jy p.vars c n i a)where
 head:=h.head
 store:=yh ⟨(aP h.head).1,(aP h.head).2.1⟩ h.store _ b
 words:=h.words
 used:=h.used
 WV:=h.WV
 todo:=h.todo
 fuel:=h.fuel
 tr:=by
  show((c.trace++_).length:Int)+500*c.fuel≤2^30;rw [aqP];split
  ·simp;omega
  ·simp;have:=h.tr;omega
 ou:=h.ou
 co:=h.co
theorem mc {p:bC} {ps:List Int} {c:fH} (h:Inv p ps c) (e n:Int):Inv p ps (eY c e n):={h with todo:=by simp [eY]}
theorem DT {p:bC} {S:List (List Int)} (b:aA p.w p.vars=true) (c:Od p.w p.vars S):∀(l:List bQ),(∀e∈l,dz p.w p.vars S.length e=true)→∀i,i<l.length→0≤fZ (de p.w p.vars S l) i∧fZ (de p.w p.vars S l) i<2^p.w.toNat:=by
 intro l a i hi
 have:fZ (de p.w p.vars S l) i=bF p.w p.vars S (l[i]):=by
  unfold fZ;rw [xZ,aqG hi];rfl
 rw [this];exact kn b c _ (a _ (List.getElem_mem hi))
theorem qR {w:Int} {V:List Vr} {S:List (List Int)}:∀l:List bQ,(de w V S l).length=l.length
 |[]=>rfl
 |e::l=>by simp [de,qR l]
theorem Ht {p:bC} {ps:List Int} {c:fH} (h:Inv p ps c):Inv p ps (dV p ps c):=by
 unfold dV;by_cases G:c.over=true
 ·rw [if_pos G];exact h
 rw [if_neg G]
 cases j:c.todo with
 |nil=>exact h
 |cons it next=>
  obtain ⟨k,s⟩:=it;show Inv p ps (if c.fuel=0 then _ else _);by_cases L:c.fuel=0
  ·rw [if_pos L];exact mc h _ _
  rw [if_neg L];obtain ⟨op,n,args,d,aE⟩:=s;obtain ⟨K,J,F,H⟩:=h.todo (k,.mk op n args d aE) (by rw [j];simp);obtain ⟨Z,P,Q,R⟩:=iV F;have Y:bu (.mk op n args d aE)=1+aC d+aC aE:=by rw [bu]
  simp only at K J H;rw [bc]at H;have pa:=a6 args;have pt:=cz d;have pe:=cz aE;have bt:=bf d;have be:=bf aE;have hp:=jH (w:=p.w) ⟨(aP h.head).1,(aP h.head).2.1⟩;have LD:Od p.w p.vars [c.store]:=fun t j=>by simp at j;subst j;exact h.store
  have O:=DT (S:=[c.store]) h.head LD args (fun e X=>(Z e X).1);have evb:=ko (w:=p.w) (V:=p.vars) (S:=[c.store]) (l:=args) (fun e _=>eW e);have W:=h.fuel;have DS:=h.tr;have T:=h.ou;have Pr:=h.co
  obtain ⟨b,g⟩:∃b,nQ p c (.mk op n args d aE) next=b:=⟨_,rfl⟩
  have e1:b.trace=c.trace++fy p.w p.vars [c.store] args:=by rw [←g];rfl
  have e2:b.cost=c.cost+1+ar args:=by rw [←g];rfl
  have r:b.fuel=c.fuel- 1:=by rw [←g];rfl
  have e4:b.todo=next:=by rw [←g];rfl
  have M:b.outs=c.outs:=by rw [←g];rfl
  have e6:b.used=c.used:=by rw [←g];rfl
  have o:∀it∈next,0≤it.1∧it.1+bu it.2≤aC p.body∧eL p.w p.vars it.2=true∧bc it.2≤400:=fun it i=>h.todo it (by rw [j];simp [i])
  have Tc:(b.trace.length:Int)+99+500*b.fuel≤2^30:=by rw [e1,r,aqP];omega
  have f:Inv p ps b:={head:=h.head,store:=by rw [←g];exact h.store,words:=h.words,used:=by rw [e6];exact h.used,WV:=h.WV,todo:=by rw [e4];exact o,fuel:=by rw [r];omega,tr:=by omega,ou:=by rw [M,r];omega,co:=by rw [e2,r];omega}
  rw [show(bh.mk op n args d aE).args=args from rfl];have E:=po (w:=p.w) (V:=p.vars) (C:=aC p.body) (N:=400) d (k+1) (by omega) (by omega) P (by omega);have u:=po (w:=p.w) (V:=p.vars) (C:=aC p.body) (N:=400) aE (k+1+aC d) (by omega) (by omega) Q (by omega)
  have both:∀(l:List wU),(∀it∈l,0≤it.1∧it.1+bu it.2≤aC p.body∧eL p.w p.vars it.2=true∧bc it.2≤400)→∀(e:Ev),Inv p ps {b with trace:=b.trace++[e],todo:=l}:=fun l v e=>
   {f with todo:=v,tr:=by show((b.trace++[e]).length:Int)+500*b.fuel≤2^30;rw [aqP];simp;omega}
  have app:∀(l m:List wU),(∀it∈l,0≤it.1∧it.1+bu it.2≤aC p.body∧eL p.w p.vars it.2=true∧bc it.2≤400)→(∀it∈m,0≤it.1∧it.1+bu it.2≤aC p.body∧eL p.w p.vars it.2=true∧bc it.2≤400)→∀it∈l++m,0≤it.1∧it.1+bu it.2≤aC p.body∧eL p.w p.vars it.2=true∧bc it.2≤400:=fun l m v U it i=>(aq0.1 i).elim (v it) (U it)
  rw [g];unfold l7;by_cases D:op=0
  ·simp only [if_pos D]
   have I:0<args.length:=by
    rcases R with⟨_,_,⟨_,a,rfl⟩|⟨_,a,b,rfl⟩⟩|⟨q,_⟩|⟨q,_⟩|⟨q,_⟩|⟨q,_⟩|⟨q,_⟩
    ·simp
    ·simp
    all_goals omega
   exact BQ f (by omega) (O _ (by rw [qR];omega))
  simp only [if_neg D];by_cases B:op=1
  ·simp only [if_pos B]
   by_cases q:fZ (de p.w p.vars [c.store] args) 0=0
   ·simp only [if_pos q];exact both _ (app _ _ u o) _
   ·simp only [if_neg q];exact both _ (app _ _ E o) _
  simp only [if_neg B];by_cases A:op=2
  ·simp only [if_pos A]
   by_cases q:fZ (de p.w p.vars [c.store] args) 0=0
   ·simp only [if_pos q];exact both _ o _
   ·simp only [if_neg q]
    exact both _ (app _ _ E (fun it i=>by
     rcases aqY.1 i with rfl|i
     ·exact ⟨K,J,F,by show bc (.mk op n args d aE)≤400;rw [bc];omega⟩
     ·exact o it i)) _
  simp only [if_neg A];by_cases z:op=3
  ·simp only [if_pos z]
   exact {f with ou:=by show((b.outs++[_]).length:Int)+b.fuel≤2^30;rw [aqP,M,r];simp;omega}
  simp only [if_neg z];by_cases y:op=4
  ·simp only [if_pos y]
   by_cases q:ps.length≤b.used
   ·simp only [if_pos q];exact mc f _ _
   ·simp only [if_neg q]
    have hu:=f.used;refine BQ (c:={b with used:=b.used+1}) {f with used:=by show b.used+1≤ps.length∧_;omega} (by show(b.trace.length:Int)+1+500*b.fuel≤2^30;omega) ?_;have:fZ ps b.used=ps[b.used]'(by omega):=by simp [fZ,aqG (show b.used<ps.length by omega)]
    rw [this];exact h.words _ (List.getElem_mem _)
  simp only [if_neg y];by_cases x:op=5
  ·simp only [if_pos x]
   by_cases q:fZ (de p.w p.vars [c.store] args) 0=0
   ·simp only [if_pos q];exact mc f _ _
   ·simp only [if_neg q];exact f
  simp only [if_neg x];by_cases q:fZ (de p.w p.vars [c.store] args) 0=0
  ·simp only [if_pos q];exact mc f _ _
  ·simp only [if_neg q];exact f
open Go
structure tf (G H:AH) (m:Nat) (p:bC) (ps:List Int) (v:MV) (c:fH):Prop where
 is:∃rows,MH G H m v rows c.store c.outs c.trace∧(c.over=false→∃fs,fg (Ol G) rows fs∧c.todo=mb fs)∧(rows.length:Int)+2*c.fuel≤2^20
 w:v.w=p.w
 vars:dh G v.vv p.vars
 cap:GZ v.vv
 cd:fb G v.vp ps
 mt:Mt v c
 inv:Inv p ps c
 ov:c.over=true→c.todo=[]
def dM (c:fH):Bool:=c.over||c.todo.isEmpty
theorem tf.mod {G H H':AH} {m:Nat} {p:bC} {ps:List Int} {v:MV} {c:fH} {T:Nat→Prop} (h:tf G H m p ps v c) (M:Mod T H H') (a:∀b,T b→¬ Mf m v b) (d:∀b,T b→G.get b=none):tf G H' m p ps v c:=by
 obtain ⟨rows,f,h2,e⟩:=h.is;exact {h with is:=⟨rows,f.mod M a d,h2,e⟩}
theorem tf.ext {G H H':AH} {m:Nat} {p:bC} {ps:List Int} {v:MV} {c:fH} (h:tf G H m p ps v c) (X:Ext H H'):tf G H' m p ps v c:=h.mod (Mod.bT (S:=fun _=>False) X) (by simp) (by simp)
theorem yj {α β:Type} {C:α→β→Prop} {l:List α} (h:fg C l []):l=[]:=by cases h;rfl
theorem qf {α β:Type} {C:α→β→Prop}:∀{l:List α} {k:List β} {b:β},fg C l (k++[b])→∃c a,l=c++[a]∧fg C c k∧C a b
 |_,[],b,.cons h .nil=>⟨[],_,rfl,.nil,h⟩
 |_,x::k,b,.cons h t=>by
  obtain ⟨c,a,rfl,d,h2⟩:=qf t;exact ⟨_::c,a,rfl,.cons h d,h2⟩
theorem yk (p:bC) (c:fH) (s:bh) (next:List wU):bE p {c with fuel:=c.fuel- 1,cost:=c.cost+1} s next=nQ p c s next:=rfl
theorem afP {G H:AH} {m:Nat} {p:bC} {ps:List Int} {v:MV} {c:fH} {b rs:List (List Value)} {d:List (List bh×Int)} {g:Value} {cs:List Value} {k:Int} {l:List bh} {op n:Int} {args:List bQ} {a e:List bh} (q:Value) (h:JB G H m p ps v c b d g cs rs k (.mk op n args a e) l):
 0≤op∧op<7∧∃f,([.func (.func 108) #[q] #[],.func (.func 109) #[q] #[],.func (.func 110) #[q] #[],.func (.func 111) #[q] #[],.func (.func 112) #[q] #[],.func (.func 113) #[q] #[],.func (.func 114) #[q] #[]]:List Value)[op.toNat]?=some (.func (.func f) #[q] #[])∧
  kQ G H f m p ps v c b.length d cs k (.mk op n args a e) l:=by
 obtain ⟨_,_,_,i⟩:=iV h.row;rcases i with⟨rfl,_⟩|⟨rfl,_⟩|⟨rfl,_⟩|⟨rfl,_⟩|⟨rfl,_⟩|⟨rfl|rfl,_⟩
 ·exact ⟨by omega,by omega,_,rfl,LH h⟩
 ·exact ⟨by omega,by omega,_,rfl,DR h⟩
 ·exact ⟨by omega,by omega,_,rfl,LF h⟩
 ·exact ⟨by omega,by omega,_,rfl,LG h⟩
 ·exact ⟨by omega,by omega,_,rfl,Hs h⟩
 ·exact ⟨by omega,by omega,_,rfl,Hm h⟩
 ·exact ⟨by omega,by omega,_,rfl,Hn h⟩
theorem DU {p:bC} {ps:List Int} {c:fH} {k:Int} {s:bh} {vals:List Int} {next:List wU} (h:c.over=false):(l7 p ps c k s vals next).over=true→(l7 p ps c k s vals next).todo=[]:=by
 obtain ⟨op,n,args,i,j⟩:=s;unfold l7;intro q;by_cases g:op=0
 ·simp only [if_pos g,jy]at q⊢;rw [h]at q;cases q
 simp only [if_neg g]at q⊢;by_cases f:op=1
 ·simp only [if_pos f]at q⊢;rw [h]at q;cases q
 simp only [if_neg f]at q⊢;by_cases e:op=2
 ·simp only [if_pos e]at q⊢;rw [h]at q;cases q
 simp only [if_neg e]at q⊢;by_cases d:op=3
 ·simp only [if_pos d]at q⊢;rw [h]at q;cases q
 simp only [if_neg d]at q⊢;by_cases b:op=4
 ·simp only [if_pos b]at q⊢
  by_cases u:ps.length≤c.used
  ·simp only [if_pos u];rfl
  ·simp only [if_neg u,jy]at q;rw [h]at q;cases q
 simp only [if_neg b]at q⊢;by_cases a:op=5
 ·simp only [if_pos a]at q⊢
  by_cases u:fZ vals 0=0
  ·simp only [if_pos u];rfl
  ·simp only [if_neg u]at q;rw [h]at q;cases q
 simp only [if_neg a]at q⊢;by_cases u:fZ vals 0=0
 ·simp only [if_pos u];rfl
 ·simp only [if_neg u]at q;rw [h]at q;cases q
theorem yl {p:bC} {ps:List Int} {c:fH} {k:Int} {s:bh} {vals:List Int} {next:List wU}:(l7 p ps c k s vals next).fuel=c.fuel:=by
 obtain ⟨op,n,args,h,i⟩:=s;unfold l7;by_cases g:op=0
 ·simp only [if_pos g];rfl
 simp only [if_neg g];by_cases f:op=1
 ·simp only [if_pos f]
 simp only [if_neg f];by_cases e:op=2
 ·simp only [if_pos e]
 simp only [if_neg e];by_cases d:op=3
 ·simp only [if_pos d]
 simp only [if_neg d];by_cases b:op=4
 ·simp only [if_pos b];split<;>rfl
 simp only [if_neg b];by_cases a:op=5
 ·simp only [if_pos a];split<;>rfl
 simp only [if_neg a];split<;>rfl
structure afQ (G H:AH) (m:Nat) (p:bC) (ps:List Int) (v:MV) (H':AH) (c':fH):Prop where
 is:∃v',tf G H' m p ps v' c'∧Mod (Mf m v) H H'∧(∀b,Mf m v' b→Mf m v b∨H.nx≤b)∧Sm v v'
theorem LI {G H:AH} {m:Nat} {p:bC} {ps:List Int} {v:MV} {c:fH} (h:tf G H m p ps v c):
 Ca E O 78 [.pointer (some ⟨m,0,none⟩)] H (fun x H'=>x= .bool (!dM c&& !(dV p ps c).over)∧afQ G H m p ps v H' (dV p ps c)):=by
 refine Ca.aW (F:=Te) rfl rfl rfl ?_;obtain ⟨rows,d,S,vE⟩:=h.is;obtain ⟨m1,m2,m3,m4,m5,Z⟩:=h.mt;have C:=aG d.get d.n0 (k:=13) (v:=.bool v.ended) rfl
 cases i:c.over with
 |true=>
  have hs:dV p ps c=c:=by unfold dV;rw [if_pos i]
  rw [Z,i]at C;have I:dM c=true:=by simp [dM,i]
  rw [hs,I];simp (maxSteps:=9^7)-implicitDefEqProofs+contextual [-X.ev,Te,C];exact ⟨v,h,Mod.refl _ _,fun b hb=>.inl hb,rfl,rfl,rfl,rfl⟩
 |false=>
  rw [Z,i]at C;obtain ⟨fs,aH,u⟩:=S i;rcases List.eq_nil_or_concat fs with rfl|⟨j,f,S⟩
  ·have EG:=yj aH
   subst EG;have ht:c.todo=[]:=u;have hs:dV p ps c=c:=by unfold dV;rw [if_neg (by rw [i];decide),ht]
   have I:dM c=true:=by simp [dM,ht]
   rw [hs,I];simp (maxSteps:=9^7)-implicitDefEqProofs+contextual [-X.ev,Te,C];apply ah
   ·(simp-implicitDefEqProofs [-X.ev];rfl)
   refine (GW d.wf d.get d.n0 d.fr).mono ?_;rintro x M ⟨rfl,y⟩;obtain ⟨H2,N,L,wR,Y,g2⟩:=iK (y.wf d.wf) (z:=5) (c:=zS) (vs:=zS) rfl;simp (maxSteps:=9^7)-implicitDefEqProofs+contextual [-X.ev,N];exact ⟨v,h.ext (y.trans L),Mod.bT (y.trans L),fun b hb=>.inl hb,rfl,rfl,rfl,rfl⟩
  ·rw [List.concat_eq_append]at S
   subst S;obtain ⟨cO,r,rfl,h0,vl,rs,rfl,hr,zi,JP,fW,dQ⟩:=qf aH;obtain ⟨lst,k⟩:=f
   cases zi with
   |nil=>exact absurd rfl fW
   | @cons cs s rs l hs hl=>
   rw [jn,kP]at u;simp only [List.cons_append]at u;have J:=hs.len;have a:=h.inv;obtain ⟨Hu,GY,qb,wV⟩:=a.todo (k,s) (by rw [u];simp);simp only at Hu GY wV dQ hr;have pc:=lZ s;have anO:=a.WV;have hfu:=a.fuel;have DS:=a.tr;have hou:=a.ou;have Pr:=a.co;have hus:=a.used;have I:dM c=false:=by simp [dM,i,u]
   have r4:=aG d.get d.n0 (k:=4) (v:=.int .i64 v.fuel) rfl;rw [m5]at r4;simp only [aqP,List.length_singleton]at vE;rw [I];simp (maxSteps:=9^7)-implicitDefEqProofs+contextual [-X.ev,Te,C];apply ah
   ·(simp-implicitDefEqProofs [-X.ev];rfl)
   refine (Ly d.wf d.get d.n0 d.fr (by omega) d.sub hr).mono ?_;rintro x M ⟨rfl,y⟩;have P:=y.wf d.wf;obtain ⟨H2,N,L,wR,Y,g2⟩:=iK P (z:=5) (c:=zS) (vs:=cs) J;have U:=y.trans L;have jS:=L.wf P;have M2:=d.ext U;have o:=U.ld r4;by_cases hf:c.fuel=0
   ·have Q:dV p ps c=eY c 3 k:=by unfold dV;rw [if_neg (by rw [i];decide),u];show(if c.fuel=0 then _ else _)=_;rw [if_pos hf]
    rw [hf]at o;simp (maxSteps:=9^7)-implicitDefEqProofs+contextual [-X.ev,J,N,o];apply ah
    ·(simp-implicitDefEqProofs [-X.ev];rfl)
    refine (rH (how:=3) (n:=k) M2).mono ?_;rintro x H3 ⟨rfl,B⟩;rw [Q];have WY:(eY c 3 k).over=true:=rfl;simp (maxSteps:=9^7)-implicitDefEqProofs+contextual [-X.ev,WY];have A:=(gW.ma d U).trans B;exact ⟨_,{is:=⟨_,A.mh,fun q=>by rw [WY]at q;exact absurd q (by decide),by rw [aqP,List.length_singleton];show _+2*c.fuel≤2^20;omega⟩,w:=h.w,vars:=h.vars,cap:=h.cap,cd:=h.cd,mt:=⟨rfl,m2,m3,rfl,m5,rfl⟩,inv:=mc a 3 k,ov:=fun _=>rfl},A.mod,A.new,rfl,rfl,rfl,rfl⟩
   ·have Q:dV p ps c=l7 p ps (nQ p c s (ch l k s j)) k s (de p.w p.vars [c.store] s.args) (ch l k s j):=by unfold dV;rw [if_neg (by rw [i];decide),u];show(if c.fuel=0 then _ else _)=_;rw [if_neg hf]
    have w1:IntKind.i64.wrap (c.fuel- 1)=c.fuel- 1:=ai ⟨by omega,by omega⟩;have w2:IntKind.i64.wrap (c.cost+1)=c.cost+1:=ai ⟨by omega,by omega⟩;obtain ⟨H3,s3,B,rG,mJ⟩:=M2.cell (v':={v with fuel:=c.fuel- 1}) 4 (.int .i64 (c.fuel- 1)) (by omega) rfl rfl rfl rfl rfl;have D:=aG B.mh.get B.mh.n0 (k:=10) (v:=.int .i64 v.cost) rfl;rw [m2]at D;obtain ⟨H4,s4,A4,y9,nN⟩:=B.mh.cell (v':={v with fuel:=c.fuel- 1,cost:=c.cost+1}) 10 (.int .i64 (c.cost+1)) (by omega) rfl rfl rfl rfl rfl;have B4:=B.trans A4;have M4:=A4.mh
    obtain ⟨q,hq⟩:∃q:Value,.pointer (some ⟨m,0,none⟩)=q:=⟨_,rfl⟩
    obtain ⟨H5,s5,X5,N4,xS,g5⟩:=iK M4.wf (z:=7) (c:=[.nilFunc,.nilFunc,.nilFunc,.nilFunc,.nilFunc,.nilFunc,.nilFunc]) (vs:=[.func (.func 108) #[q] #[],.func (.func 109) #[q] #[],.func (.func 110) #[q] #[],.func (.func 111) #[q] #[],.func (.func 112) #[q] #[],.func (.func 113) #[q] #[],.func (.func 114) #[q] #[]]) rfl;subst hq;have M5:=M4.ext X5;have qP:=M5.wf;have nb:¬ Mf m v M.nx:=fun q=>by have:=d.lt q;have:=y.nx;omega
    have K:=X5.get (B4.mod.get nb g2);have n5:H5.n0≤M.nx:=by rw [xS,nN,mJ,Y];exact P
    have lcs:H5.ldn ⟨M.nx,0,none⟩ 5=some cs:=by rw [bH K n5 (by omega)];simp [aqN (Nat.le_of_eq J)]
    obtain ⟨op,n,args,e,g⟩:=s;have afS:∃t,cs= .int .i64 op::t:=by cases hs;exact ⟨_,rfl⟩
    obtain ⟨t,rfl⟩:=afS;have l0:=aG K n5 (k:=0) (v:=.int .i64 op) rfl
    have hAt:JB G H5 m p ps {v with fuel:=c.fuel- 1,cost:=c.cost+1} {c with fuel:=c.fuel- 1,cost:=c.cost+1} cO j vl (.int .i64 op::t) rs k (.mk op n args e g) l:=
     {mh:=M5,hr:=hr,hf:=JP,hs:=hs,hl:=hl,h0:=h0,w:=h.w,vars:=h.vars,cap:=h.cap,cd:=h.cd,head:=a.head,store:=a.store,mt:=⟨m1,rfl,m3,m4,rfl,Z⟩,ov:=i,row:=qb,b1:=by omega,b2:=by omega,b3:=by omega,b4:=by simpa using dQ,b5:=by show c.trace.length≤2^31;omega,b6:=by show c.outs.length≤2^31;omega,b7:=by show 0≤c.cost+1∧c.cost+1≤2^50;omega,b8:=by show c.used≤ps.length∧_;omega}
    obtain ⟨ho1,ho2,f,iH,fE⟩:=afP (.pointer (some ⟨m,0,none⟩)) hAt;have lf:=aG g5 (by rw [xS];exact M4.wf) iH;have ua:eS [.nilFunc,.nilFunc,.nilFunc,.nilFunc,.nilFunc,.nilFunc,.nilFunc] [(0,1,.func (.func 108) #[.pointer (some ⟨m,0,none⟩)] #[]),(1,1,.func (.func 109) #[.pointer (some ⟨m,0,none⟩)] #[]),(2,1,.func (.func 110) #[.pointer (some ⟨m,0,none⟩)] #[]),(3,1,.func (.func 111) #[.pointer (some ⟨m,0,none⟩)] #[]),(4,1,.func (.func 112) #[.pointer (some ⟨m,0,none⟩)] #[]),(5,1,.func (.func 113) #[.pointer (some ⟨m,0,none⟩)] #[]),(6,1,.func (.func 114) #[.pointer (some ⟨m,0,none⟩)] #[])]=some (.agg #[.func (.func 108) #[.pointer (some ⟨m,0,none⟩)] #[],.func (.func 109) #[.pointer (some ⟨m,0,none⟩)] #[],.func (.func 110) #[.pointer (some ⟨m,0,none⟩)] #[],.func (.func 111) #[.pointer (some ⟨m,0,none⟩)] #[],.func (.func 112) #[.pointer (some ⟨m,0,none⟩)] #[],.func (.func 113) #[.pointer (some ⟨m,0,none⟩)] #[],.func (.func 114) #[.pointer (some ⟨m,0,none⟩)] #[]]):=rfl;have T:=fE _ rfl;rw [yk]at T;rw [Q]
    obtain ⟨c',lv⟩:∃c',l7 p ps (nQ p c (.mk op n args e g) (ch l k (.mk op n args e g) j)) k (.mk op n args e g) (de p.w p.vars [c.store] args) (ch l k (.mk op n args e g) j)=c':=⟨_,rfl⟩
    have R:=Ht a;have WZ:=DU (p:=p) (ps:=ps) (c:=nQ p c (.mk op n args e g) (ch l k (.mk op n args e g) j)) (k:=k) (s:=.mk op n args e g) (vals:=de p.w p.vars [c.store] args) (next:=ch l k (.mk op n args e g) j) i;have W0:=yl (p:=p) (ps:=ps) (c:=nQ p c (.mk op n args e g) (ch l k (.mk op n args e g) j)) (k:=k) (s:=.mk op n args e g) (vals:=de p.w p.vars [c.store] args) (next:=ch l k (.mk op n args e g) j);rw [Q]at R;simp only [bh.args]at T R⊢;rw [lv]at T R WZ W0⊢;have afT:c'.fuel=c.fuel- 1:=W0;have gl:H2.ldn ⟨M.nx,0,none⟩ 5=some (.int .i64 op::t):=by rw [bH g2 (by rw [Y];exact P) (by omega)];simp [aqN (Nat.le_of_eq J)]
    have B5:=(gW.ma d U).trans (B4.ext X5);simp (maxSteps:=9^7)-implicitDefEqProofs+contextual [-X.ev,J,N,o,hf,w1,s3,D,w2,s4,ua,s5,l0,ho1,ho2,lf,lcs,bq,aM,aN];apply kh
    ·(simp-implicitDefEqProofs [-X.ev,-Value.func.injEq];rfl)
    ·(simp-implicitDefEqProofs [-X.ev];rfl)
    refine T.mono ?_;rintro x H6 ⟨rfl,v',dj,A6,afU,hr6,afV,W1⟩;have A:=B5.trans A6;have WB:=A6.mod.n0;have V:=A6.mod.nx;simp (maxSteps:=9^7)-implicitDefEqProofs+contextual [-X.ev,bq,aM,aN,WB,V];obtain ⟨q1,W,q3,q4⟩:=W1;exact ⟨v',{is:=⟨dj,A.mh,afU,by rw [afT];omega⟩,w:=q1.trans h.w,vars:=by rw [W];exact h.vars,cap:=by rw [W];exact h.cap,cd:=by rw [q3];exact h.cd,mt:=afV,inv:=R,ov:=WZ},A.mod,A.new,q1,W,q3,q4⟩
end
section
open Go
theorem dK.Rf {H:AH} {sz:Nat} {v:Value} {rows:List (List Value)} {r r':List Value} (h:dK H sz v (rows++[r])) (l:r'.length=sz):∃b,v= .slice (some ⟨b,0,none⟩) (rows.length+1) (rows.length+1)∧∃H',H.st ⟨b,rows.length*sz,none⟩ r'=some H'∧dK H' sz v (rows++[r'])∧Mod (fun q=>q=b) H H'∧H'.nx=H.nx∧H'.n0=H.n0:=by
 rcases h.is with⟨_,e⟩|⟨b,e,f,g⟩
 ·simp at e
 have d:∀q∈rows,q.length=sz:=fun q a=>h.len q (by simp [a])
 have o:=h.len r (by simp);have m:=cg d;obtain ⟨H',st,M,j,c,n⟩:=bR g f (k:=rows.length*sz) (vs:=r') (by rw [cg h.len];simp only [aqP,List.length_singleton,Nat.succ_mul];omega);have i:v= .slice (some ⟨b,0,none⟩) (rows.length+1) (rows.length+1):=by rw [e];simp
 refine ⟨b,i,H',st,⟨.inr ⟨b,by rw [i];simp,by rw [c];exact f,?_⟩,?_⟩,M,j,c⟩
 ·rw [n]
  have:=qe rows.flatten r r' [] (by omega);rw [m]at this;simp only [List.append_nil]at this;simp only [List.flatten_append,List.flatten_cons,List.flatten_nil,List.append_nil];rw [this]
 ·intro q a
  rcases aq0.1 a with a|a
  ·exact d q a
  ·simp at a;subst a;exact l
def kR (p:bC) (fuel:Int) (t:gA):fH:=⟨0,t.store,[],[],0,0,0,fuel,eD p.body 0,false⟩
theorem DW {p:bC} {fuel:Int} {t:gA} (h:gC p fuel t=0):Inv p t.cd (kR p fuel t)∧bw p=true∧0≤fuel∧fuel≤4096∧jg p t=true:=by
 unfold gC at h
 cases d:bw p with
 |false=>rw [if_pos d]at h;omega
 |true=>
  rw [if_neg (by rw [d];decide)]at h;by_cases h2:fuel<0∨4096<fuel
  ·rw [if_pos h2]at h;omega
  rw [if_neg h2]at h
  cases e:jg p t with
  |false=>rw [if_pos e]at h;omega
  |true=>
   have b:=d;have c:=e;simp only [bw,aqJ,aqS]at b;simp only [jg,aqJ,aqS,aqW]at c
   have f:1≤p.w∧p.w≤8:=⟨(aP b.1).1,(aP b.1).2.1⟩
   have i:=bf p.body;refine ⟨⟨b.1,c.1,fun a g=>?_,⟨by show 0≤_;omega,c.2.1⟩,by omega,?_,by show 0≤fuel∧fuel≤4096;omega,by show(0:Int)+500*fuel≤2^30;omega,by show(0:Int)+fuel≤2^30;omega,by show 0≤(0:Int)∧0+500*fuel≤2^40;omega⟩,rfl,by omega,by omega,rfl⟩
   ·have:=c.2.2 a g
    rw [km f]at this;simp at this;exact this
   ·exact po p.body 0 (by omega) (by omega) b.2.2.2 (by omega)
structure Made (H:AH) (p:bC) (ps:List Int) (H':AH) (m:Nat) (c:fH):Prop where
 is:∃G v,tf G H' m p ps v c∧Ext H H'∧(∀b,Mf m v b→H.nx≤b)∧∀b x,G.get b=some x→H.nx≤b
abbrev pq (w fuel:Int) (vp vv vb vs vf:Value):MV:=⟨vf,w,vv,vb,fuel,vp,0,vs,.slice none 0 0,.slice none 0 0,0,0,0,false⟩
theorem vX:eK zS zS=true:=by simp [zS]
theorem Rg {p:bC} {t:gA} {c d:List Value} {fuel:Int} {H:AH} (hw:H.n0≤H.nx) (hp:p9 H c p) (ht:xH H d t):
 Ca E O 77 [.agg c.toArray,.int .i64 fuel,.agg d.toArray] H (fun x H'=>if gC p fuel t=0 then∃m,x= .tuple #[.pointer (some ⟨m,0,none⟩),.int .i64 0]∧Made H p t.cd H' m (kR p fuel t)else x= .tuple #[.pointer none,.int .i64 (gC p fuel t)]∧Ext H H'):=by
 refine Ca.aW (F:=Zv) rfl rfl rfl ?_;have hc:=hp.len;have hd:d.length=2:=by obtain ⟨vs,vp,e,_⟩:=ht.is;rw [e];rfl
 have X1:=Ext.alloc H (.cells c.length c);have q:(H.alloc (.cells c.length c)).ldn ⟨H.nx,0,none⟩ 3=some c:=bj hw 3 (by assumption);generalize cF:H.alloc (.cells c.length c)=H1 at X1 q;have bD:=X1.wf hw;have X2:=Ext.alloc H1 (.cells d.length d);have r:(H1.alloc (.cells d.length d)).ldn ⟨H1.nx,0,none⟩ 2=some d:=bj bD 2 (by assumption);generalize j0:H1.alloc (.cells d.length d)=H2 at X2 r;have jh:=X2.wf bD;replace q:=X2.ldn q;have X:=X1.trans X2;simp (maxSteps:=9^7)-implicitDefEqProofs+contextual [-X.ev,Zv,cF,j0,q];apply ah
 ·(simp-implicitDefEqProofs [-X.ev];rfl)
 refine (qc jh (hp.ext X)).mono ?_;rintro x H3 ⟨rfl,X3⟩;replace q:=X3.ldn q;replace r:=X3.ldn r;have jw:=X.trans X3
 cases B:bw p with
 |false=>
  have I:gC p fuel t=30:=by unfold gC;rw [if_pos B]
  simp (maxSteps:=9^7)-implicitDefEqProofs+contextual [-X.ev,B,I,jw]
 |true=>
  by_cases h2:fuel<0
  ·have I:gC p fuel t=1:=by unfold gC;rw [if_neg (by rw [B];decide),if_pos (.inl h2)]
   simp (maxSteps:=9^7)-implicitDefEqProofs+contextual [-X.ev,B,h2,I,jw]
  by_cases h3:4096<fuel
  ·have I:gC p fuel t=1:=by unfold gC;rw [if_neg (by rw [B];decide),if_pos (.inr h3)]
   simp (maxSteps:=9^7)-implicitDefEqProofs+contextual [-X.ev,B,h2,h3,I,jw]
  simp (maxSteps:=9^7)-implicitDefEqProofs+contextual [-X.ev,B,h2,h3,q,r];apply ah
  ·(simp-implicitDefEqProofs [-X.ev];rfl)
  refine (sS (X3.wf jh) (hp.ext jw) (ht.ext jw) B).mono ?_;rintro x H4 ⟨rfl,X4⟩;replace q:=X4.ldn q;replace r:=X4.ldn r;have J:=jw.trans X4;have qO:=J.wf hw
  cases h4:jg p t with
  |false=>
   have I:gC p fuel t=50:=by unfold gC;rw [if_neg (by rw [B];decide),if_neg (by omega),if_pos h4]
   simp (maxSteps:=9^7)-implicitDefEqProofs+contextual [-X.ev,h4,I,J]
  |true=>
   have I:gC p fuel t=0:=by unfold gC;rw [if_neg (by rw [B];decide),if_neg (by omega),if_neg (by rw [h4];decide)]
   obtain ⟨g,_,hf1,hf2,_⟩:=DW I;have hp4:=hp.ext J;have ht4:=ht.ext J;obtain ⟨N,C,rb,rfl,hi,hv,y6,hr,hl,mH⟩:=hp4.is;obtain ⟨vs,vp,rfl,ss,sp,l1,l2,_,_⟩:=ht4.is;have q1:=aK q (j:=1) rfl;have q2:=aK q (j:=2) rfl;have r0:=aK r (j:=0) rfl;have r1:=aK r (j:=1) rfl;simp only [Nat.zero_add]at q1 q2 r0 r1;have hpk:=g.used.2
   have vU:t.store.length≤48:=by
    have:=g.store;simp only [bB,aqJ,aqS]at this;have h48:=(kO g.head).2.2;have e:=this.1;simp only [kR]at e;omega
   have hVl:=(kO g.head).2.1;simp (maxSteps:=9^7)-implicitDefEqProofs+contextual [-X.ev,h4,q,r1];apply ah
   ·(simp-implicitDefEqProofs [-X.ev];rfl)
   refine (kl qO sp (by omega)).mono ?_;rintro l H5 ⟨o5,X5,k5⟩;obtain ⟨pa,pc,N6⟩:=o5.shape;have qP:=X5.wf qO
   have ua:eS [.slice none 0 0,.int .i64 0,.slice none 0 0,.slice none 0 0,.int .i64 0,.slice none 0 0,.int .i64 0,.slice none 0 0,.slice none 0 0,.slice none 0 0,.int .i64 0,.int .i64 0,.int .i64 0,.bool false] [(1,3,.agg #[.int .i64 p.w,N,C]),(4,1,.int .i64 fuel),(5,1,l)]=some (.agg (pq p.w fuel l N C (.slice none 0 0) (.slice none 0 0)).cells.toArray):=by
    rw [N6];rfl
   have gm:=cq H5 (.cells 14 (pq p.w fuel l N C (.slice none 0 0) (.slice none 0 0)).cells);have X6:=Ext.alloc H5 (.cells 14 (pq p.w fuel l N C (.slice none 0 0) (.slice none 0 0)).cells)
   obtain ⟨H6,hH6⟩:∃H6,H5.alloc (.cells 14 (pq p.w fuel l N C (.slice none 0 0) (.slice none 0 0)).cells)=H6:=⟨_,rfl⟩
   rw [hH6]at gm X6
   obtain ⟨m,hm⟩:∃m,H5.nx=m:=⟨_,rfl⟩
   rw [hm]at gm;have Oh:=X5.nx;have JA:=X5.n0;have x6x:=X6.nx;have mlt:=AH.aS gm;have Y:=X5.trans X6;have afX:=Y.ld q1;have DF:=X6.wf qP;have q5:=X5.ldn q;have cc1:H4.nx≤m:=by omega
   have W:H6.n0=H4.n0:=X6.n0.trans JA;have cc3:m≤H6.nx:=by omega
   obtain ⟨va0,vc0,afZ⟩:=hv.len;obtain ⟨ba0,bc0,W2⟩:=hr.len;have svv:da N N=true:=by rw [afZ];simp
   have svb:da C C=true:=by rw [W2];simp
   simp (maxSteps:=9^7)-implicitDefEqProofs+contextual [-X.ev,ua,hH6,q,q5,svv,svb,JA,cc1,W,cc3,bq,aM,aN,afX,hm];apply ah
   ·(simp-implicitDefEqProofs [-X.ev];rfl)
   refine (mL (f:=103) (sz:=3) (bytes:=32) rfl rfl DF (hv.ext Y) (by simp;omega) (by simp;omega)).mono ?_;rintro x H7 ⟨o7,X7,k7⟩;have x7x:=X7.nx;have Q:H.n0≤m:=by have:=J.nx;omega
   obtain ⟨wa,wc,Rc⟩:=o7.shape;rw [List.length_map]at Rc;obtain ⟨H8,s8,M8,Tx,BL,g8⟩:=bR (X7.get gm) (by rw [X7.n0,W,J.n0];exact Q) (k:=2) (vs:=[x]) (by simp);have QQ:aJ (pq p.w fuel l N C (.slice none 0 0) (.slice none 0 0)).cells 2 [x]=(pq p.w fuel l x C (.slice none 0 0) (.slice none 0 0)).cells:=rfl;rw [QQ]at g8;obtain ⟨H9,s9,M9,Wa,Ob,g9⟩:=bR g8 (by rw [BL,X7.n0,W,J.n0];exact Q) (k:=3) (vs:=[.slice none 0 0]) (by simp);have QR:aJ (pq p.w fuel l x C (.slice none 0 0) (.slice none 0 0)).cells 3 [.slice none 0 0]=(pq p.w fuel l x (.slice none 0 0) (.slice none 0 0) (.slice none 0 0)).cells:=rfl;rw [QR]at g9;have W3:Ext H4 H9:=((Y.trans X7).mod M8 (fun b a=>by omega)).mod M9 (fun b a=>by omega);have n9:H9.n0=H.n0:=W3.n0.trans J.n0;have W4:=W3.ld q2;have anZ:=W3.ld r0;have hw9:=W3.wf qO;have LK:=W2;rw [hl.length]at LK;rw [LK]at W4;rw [Rc]at s8;simp (maxSteps:=9^7)-implicitDefEqProofs+contextual [-X.ev,Rc,s8,s9,W4];rw [←Rc]at s8;refine cm (fun k fr H'=>Mod (fun b=>b=m) H9 H'∧∃(i:Nat) (z:Value) (rs:List (List Value)),H'.get m=some (.cells 14 (pq p.w fuel l x z (.slice none 0 0) (.slice none 0 0)).cells)∧i+k=p.body.length∧fr.get 8= .pointer (some ⟨m,0,none⟩)∧fr.get 5= .pointer (some ⟨H1.nx,0,none⟩)∧fr.get 43=C∧fr.get 44= .int .i64 p.body.length∧fr.get 45= .int .i64 i∧dK H' 5 z rs∧rs.length=i∧eE (part H' H9.nx (aR z)) rs (p.body.take i)∧(∀b,aR z b→H9.nx≤b)) ?_ p.body.length ⟨Mod.refl _ _,0,.slice none 0 0,[],by simpa [Rc]using g9,by simp,by simp [hm],by simp,by simp [LK],by simp,by simp,dK.nil _ _,rfl,by simpa using eE.nil,fun b a=>absurd a (dL _ _ _)⟩;rintro k fr zd ⟨Z,i,z,rs,g10,hi,f8,f5,f43,f44,f45,ow,zJ,aH,fL⟩;have Rh:=Z.wf hw9;have an0:=Z.nx;have Hv:Ext H4 zd:=W3.mod Z (fun b a=>by omega)
   have an1:au p.body≤400:=by
    simp only [bw,aqJ,aqS]at B;exact B.2.1
   have ajB:=ef p.body;by_cases cN:i<p.body.length
   ·obtain ⟨y,hy⟩:∃y,p.body[i]?=some y:=⟨_,aqG cN⟩
    have t1:=dX hy;have t2:=a8 p.body (i+1);have t3:=a8 p.body i;obtain ⟨lr,yn,jI,oZ,pd⟩:=y;obtain ⟨b,o,c',pf,pg,ph,We,Wf,Wg,cx,bL,_,_,_,_,_,j1,j2,j3,j4,j5,e1,e2,e3,e4,e5,e6⟩:=gN.row (hr.ext Hv) (gN.ext Hv hl) hy;have EB:nM zd [.int .i64 lr,.int .i64 yn,pf,pg,ph] (.mk lr yn jI oZ pd):=.mk j1 j2 j3 j4 j5 e1 e2 e3 e4 e5 e6;have Hw:=f43;rw [cx]at Hw;obtain ⟨A,sHa,L,an3,an4,u,TG⟩:=dZ (H:=zd) Rh (z:=5) (c:=[.int .i64 0,.int .i64 0,.slice none 0 0,.slice none 0 0,.slice none 0 0]) (vs:=[.int .i64 lr,.int .i64 yn,pf,pg,ph]) rfl;have u0:A.ld ⟨zd.nx,0,none⟩=some (.int .i64 lr):=TG 0 _ rfl;have u1:A.ld ⟨zd.nx,1,none⟩=some (.int .i64 yn):=TG 1 _ rfl;have u2:A.ld ⟨zd.nx,2,none⟩=some pf:=TG 2 _ rfl;have u3:A.ld ⟨zd.nx,3,none⟩=some pg:=TG 3 _ rfl;have u4:A.ld ⟨zd.nx,4,none⟩=some ph:=TG 4 _ rfl;clear TG;replace u:A.ldn ⟨zd.nx,0,none⟩ 5=some [.int .i64 lr,.int .i64 yn,pf,pg,ph]:=u;have W5:=L.wf Rh;have ga:=L.get g10;have TJ:A.n0=H.n0:=L.n0.trans (Z.n0.trans n9);have R:=aG ga (by rw [TJ];exact Q) (k:=3) (v:=z) rfl;obtain ⟨za,zc,K⟩:=ow.shape;rw [zJ]at K;have V:=vM (sz:=5) (z:=zS) (H:=A) (v:=.agg #[.int .i64 0,.int .i64 0,.slice none 0 0,.slice none 0 0,.slice none 0 0]) rfl rfl rfl;simp only [gw]at V;have s:=Ext.alloc A (.cells 5 zS);have gz:=cq A (.cells 5 zS)
    obtain ⟨Hb,hHb⟩:∃Hb,A.alloc (.cells 5 zS)=Hb:=⟨_,rfl⟩
    rw [hHb]at V s gz;have hwb:=s.wf W5
    have oz:dK Hb 5 (.slice (some ⟨A.nx,0,none⟩) 1 1) [zS]:=⟨.inr ⟨A.nx,rfl,by rw [s.n0];exact W5,by simpa using gz⟩,by simp⟩
    have xax:=L.nx;have xbx:=s.nx;rw [K]at R;simp (maxSteps:=9^7)-implicitDefEqProofs+contextual [-X.ev,Hw,f44,f45,f8,cN,bL,sHa,u,R,V];apply ah
    ·(simp-implicitDefEqProofs [-X.ev];rfl)
    refine (DO _ _ _ Hb (aqV _) hwb (nM.ext (L.trans s) EB) (by omega)).mono ?_;rintro xx Hc ⟨cs,rfl,hk5,D⟩;have hwc:=D.wf hwb;have xcx:=D.nx;obtain ⟨s',Hd,tQ,od,Md,kd,W6⟩:=sO (bytes:=88) hwc ((ow.ext (L.trans s)).ext D) (oz.ext D).rows (by simp;omega) (by simp;omega);have W7:=hk5.len;obtain ⟨bd,U,He,sd,oe,Me,nxe,P⟩:=od.Rf W7;have QO:∀b,aR z b→b<zd.nx:=fun b a=>ow.lt a
    have aoa:m<H9.nx:=AH.aS g9;have gd:=Md.get (fun q=>by have:=fL m q;omega) (D.get (s.get ga));have Ey:aR s' bd:=by rw [U];exact (bl _ _ _ _ _).2 rfl
    have aob:=W6 (by simp) bd Ey;have ge:=Me.get (fun q=>by omega) gd;obtain ⟨Hf,sf,M,nxf,n0f,gf⟩:=bR ge (by rw [P,Md.n0,D.n0,s.n0,TJ];exact Q) (k:=3) (vs:=[s']) (by simp);have af4:aJ (pq p.w fuel l x z (.slice none 0 0) (.slice none 0 0)).cells 3 [s']=(pq p.w fuel l x s' (.slice none 0 0) (.slice none 0 0)).cells:=rfl;rw [af4]at gf;have Ri:=bo.1 R;have W8:=D.ldn (s.ldn Ri);have W9:=s.ldn Ri;have gzc:=D.get gz;have mdx:=Md.nx;rw [zJ]at sd U;have TC:Nat.beq bd m=false:=ark.2 fun h=>by have:=Nat.eq_of_beq_eq_true h;omega
    have n0d:=Md.n0;have n0c:=D.n0;have n0b:=s.n0;rw [K]at tQ;rw [U]at tQ sf;have af5:(i:Int)<(i:Int)+1:=by omega
    simp (maxSteps:=9^7)-implicitDefEqProofs+contextual [-X.ev,f45,tQ,sd,sf,W7,af5,bq,aM,aN,By,cK,Ri,W8,W9,gz,gzc,nm,vX,TC,n0d,n0c,n0b,P,n0f,xbx,xcx,mdx,nxe,nxf];rw [ai (n:=(i:Int)+1) ⟨by omega,by omega⟩];have MM:=(((Z.trans (Mod.bT ((L.trans s).trans D))).then Md (fun b a q=>by have:=fL b q;omega)).then Me (fun b a q=>by omega)).then M (fun b _ q=>q);have nn:Hf.n0=Hc.n0:=n0f.trans (P.trans n0d);refine ⟨k- 1,by omega,MM,i+1,s',gf,by omega,f8,f5,f43,f44,by simp,_,oe.mod M (fun b a q=>by have:=W6 (by simp) b a;omega),by simp [zJ],?_,fun b a=>by have:=W6 (by simp) b a;omega⟩;rw [mO hy];refine eE.snoc (aH.sub (eu (nn.trans (n0c.trans (n0b.trans L.n0))) (by omega) fun b y a hn K=>?_)) (hk5.sub (eu nn (by omega) fun b y a hn K=>?_))
    ·have lK:=AH.aS a
     exact ⟨M.get (fun q=>by omega) (Me.get (fun q=>by omega) (Md.get K (D.get (s.get (L.get a))))),hn,fun q=>by have:=W6 (by simp) b q;omega⟩
    ·have lK:=AH.aS a
     exact ⟨M.get (fun q=>by omega) (Me.get (fun q=>by omega) (Md.get (fun q=>by have:=QO b q;omega) a)),by omega,fun q=>by have:=W6 (by simp) b q;omega⟩
   rw [aqN (by omega)]at aH;have Xd:=Hv.ld r0;have Hw:=f43;rw [LK]at Hw;simp (maxSteps:=9^7)-implicitDefEqProofs+contextual [-X.ev,Hw,f44,f45,f8,f5,cN,Xd];apply ah
   ·(simp-implicitDefEqProofs [-X.ev];rfl)
   refine (kl Rh (ss.ext Hv) (by omega)).mono ?_;rintro TK H11 ⟨Jy,TM,S⟩;have TJ:zd.n0=H.n0:=Z.n0.trans n9;have aof:=TM.nx;obtain ⟨DM,s12,Ty,Lv,n12,g12⟩:=bR (TM.get g10) (by rw [TM.n0,TJ];exact Q) (k:=7) (vs:=[TK]) (by simp);have Xe:aJ (pq p.w fuel l x z (.slice none 0 0) (.slice none 0 0)).cells 7 [TK]=(pq p.w fuel l x z TK (.slice none 0 0)).cells:=rfl;rw [Xe]at g12;have aog:m<H9.nx:=AH.aS g9;have Rl:Mod (fun b=>b=m) zd DM:=(Mod.bT TM).trans Ty;have MM7:Mod (fun b=>b=m) H7 DM:=((M8.trans M9).trans Z).trans Rl;have MM5:Mod (fun b=>b=m) H5 DM:=(Mod.bT (X6.trans X7)).trans MM7;have GR:DM.n0=H.n0:=n12.trans (TM.n0.trans TJ);have af6:DM.n0≤DM.nx:=by rw [GR,Lv];omega
   obtain ⟨v12,T⟩:∃v12,pq p.w fuel l x z TK (.slice none 0 0)=v12:=⟨_,rfl⟩
   have Xf:∀b,Mf m v12 b↔b=m∨aR TK b:=by
    intro b;rw [←T];unfold Mf;simp only [dL,false_or,or_false]
   obtain ⟨G,hG⟩:∃G,part DM H.nx (Mf m v12)=G:=⟨_,rfl⟩
   have x04:=J.nx
   have o12:=(Jy.mod Ty (fun b a q=>by have:=S b a;omega))
   have vm:¬ aR TK m:=fun q=>by have:=S m q;omega
   have h12:MH G DM m v12 [] t.store [] []:=by
    subst hG T;exact {get:=g12,n0:=by rw [GR];exact Q,sub:=BM _ _ _,wf:=af6,fr:=(dK.nil _ 2).QS,st:=o12,ou:=dK.nil _ 2,tr:=dK.nil _ 3,d1:=⟨dL _ _ _,vm,dL _ _ _,dL _ _ _⟩,d2:=fun b a=>absurd a (dL _ _ _),d3:=fun b a=>⟨dL _ _ _,dL _ _ _⟩,d4:=fun b a=>absurd a (dL _ _ _),out:=fun b a=>uC a}
   have Xg:dK G 5 z rs:=by
    rw [←hG]
    exact (ow.mod Rl (fun b a q=>by have:=fL b a;omega)).part fun b a=>⟨by have:=fL b a;omega,fun q=>by
     rw [Xf]at q;rcases q with q|q
     ·have:=fL b a;omega
     ·have:=S b q;have:=ow.lt a;omega⟩
   have af7:eE G rs p.body:=by
    rw [←hG];refine aH.sub (eu (GR.trans TJ.symm) (by omega) fun b y a hn K=>?_);have lK:=AH.aS a;refine ⟨Rl.get (fun q=>by omega) a,by omega,fun q=>?_⟩;rw [Xf]at q;rcases q with q|q
    ·omega
    ·have:=S b q;omega
   have Xh:dK G 3 x (p.vars.map Vr.row):=by
    rw [←hG]
    refine (o7.mod MM7 (fun b a q=>by have:=k7 b a;omega)).part fun b a=>⟨by have:=k7 b a;omega,fun q=>?_⟩
    rw [Xf]at q;rcases q with q|q
    ·have:=k7 b a;omega
    ·have:=S b q;have:=o7.lt a;have:=Tx;have:=Wa;omega
   have af8:dK G 1 l (bg t.cd):=by
    rw [←hG]
    refine (o5.mod MM5 (fun b a q=>by have:=o5.lt a;omega)).part fun b a=>⟨by have:=k5 b a;omega,fun q=>?_⟩
    rw [Xf]at q;rcases q with q|q
    ·have:=o5.lt a;omega
    ·have:=S b q;have:=o5.lt a;omega
   have l3:=aG g12 (by rw [GR];exact Q) (k:=3) (v:=z) rfl;obtain ⟨za,zc,K⟩:=ow.shape;obtain ⟨sa,sc,Ue⟩:=Jy.shape;have af9:p.body.length≤2^30:=by omega
   have key:=pk (k:=0) h12 Xg.rows af7 Xg.fit (fs:=[]) .nil (by simp) af9;rw [K]at l3 key;rw [Ue]at s12;simp (maxSteps:=9^7)-implicitDefEqProofs+contextual [-X.ev,f8,Ue,s12,l3,bq,aM,aN];apply ah
   ·(simp-implicitDefEqProofs [-X.ev];rfl)
   refine (key).mono ?_;rintro xx H13 ⟨nB,dj,qQ,Xi,aga,Xj,Xk⟩;have agb:=Xi.mod.n0;have agc:=Xi.mod.nx;simp (maxSteps:=9^7)-implicitDefEqProofs+contextual [-X.ev,f8,bq,aM,aN,agb,agc,I];have XX:Ext H DM:=(((J.trans Hv)).trans TM).mod Ty (fun b a=>by omega)
   have BU:∀b,Mf m v12 b→H.nx≤b:=fun b a=>by
    rw [Xf]at a;rcases a with q|q
    ·omega
    ·have:=S b q;omega
   have fX:∀b x,G.get b=some x→H.nx≤b:=fun b x a=>by rw [←hG]at a;exact (jj.1 a).2.1
   refine ⟨G,_,{is:=⟨dj,Xi.mh,fun _=>⟨qQ,aga,by rw [Xj];simp [mb,kR]⟩,by simp at Xk;show _+2*fuel≤2^20;omega⟩,w:=by rw [←T],vars:=by rw [←T];exact Xh.rows,cap:=by rw [←T];exact Xh.cap,cd:=by rw [←T];exact af8.ints,mt:=by rw [←T];exact ⟨rfl,rfl,rfl,rfl,rfl,rfl⟩,inv:=g,ov:=fun q=>by cases q},XX.mod Xi.mod BU,fun b a=>?_,fX⟩;rcases Xi.new b a with q|q
   ·exact BU b q
   ·have:=XX.nx;omega
open Go
structure iw where
 en:Int
 store:List Int
 outs:List (Int×Int)
 trace:List Ev
 cost:Int
 used:Int
 wh:Int
def fH.run (c:fH):iw:=⟨c.en,c.store,c.outs,c.trace,c.cost,c.used,c.wh⟩
def BV:iw:=⟨0,[],[],[],0,0,0⟩
def Small (r:iw):Prop:=r.store.length≤2^40∧r.outs.length≤2^40∧r.trace.length≤2^40
structure ly (H:AH) (n:Nat) (cs:List Value) (r:iw):Prop where
 is:∃vs vo vt,cs=[.int .i64 r.en,vs,vo,vt,.int .i64 r.cost,.int .i64 r.used,.int .i64 r.wh]∧dK H 1 vs (bg r.store)∧dK H 2 vo (cY r.outs)∧dK H 3 vt (dB r.trace)∧(∀b,aR vs b∨aR vo b∨aR vt b→n≤b)
theorem ly.ext {H H':AH} {n:Nat} {cs:List Value} {r:iw} (X:Ext H H') (h:ly H n cs r):ly H' n cs r:=by
 obtain ⟨g,i,f,e,a,b,c,d⟩:=h.is;exact ⟨g,i,f,e,a.ext X,b.ext X,c.ext X,d⟩
theorem ly.zero (H:AH) (n:Nat):ly H n [.int .i64 0,.slice none 0 0,.slice none 0 0,.slice none 0 0,.int .i64 0,.int .i64 0,.int .i64 0] BV:=
 ⟨_,_,_,rfl,dK.nil _ _,dK.nil _ _,dK.nil _ _,fun b a=>by rcases a with q|q|q<;>exact absurd q (dL _ _ _)⟩
theorem DX {H:AH} {r:iw} {vs vo vt:Value} (c:H.n0≤H.nx) (hs:Rows H 1 vs (bg r.store)) (ho:Rows H 2 vo (cY r.outs)) (ht:Rows H 3 vt (dB r.trace)) (e:Small r):
 Ca E O 115 [.agg #[.int .i64 r.en,vs,vo,vt,.int .i64 r.cost,.int .i64 r.used,.int .i64 r.wh]] H (fun x H'=>∃cs,x= .agg cs.toArray∧ly H' H.nx cs r∧Ext H H'):=by
 refine Ca.aW (F:=Km) rfl rfl rfl ?_;obtain ⟨b1,b2,b3⟩:=e;have gB:=cq H (.cells 7 [.int .i64 r.en,vs,vo,vt,.int .i64 r.cost,.int .i64 r.used,.int .i64 r.wh]);have G:=Ext.alloc H (.cells 7 [.int .i64 r.en,vs,vo,vt,.int .i64 r.cost,.int .i64 r.used,.int .i64 r.wh]);have d0:(H.alloc (.cells 7 [.int .i64 r.en,vs,vo,vt,.int .i64 r.cost,.int .i64 r.used,.int .i64 r.wh])).ld ⟨H.nx,0,none⟩=some (.int .i64 r.en):=aj c rfl;have z:(H.alloc (.cells 7 [.int .i64 r.en,vs,vo,vt,.int .i64 r.cost,.int .i64 r.used,.int .i64 r.wh])).ld ⟨H.nx,1,none⟩=some vs:=aj c rfl;have y:(H.alloc (.cells 7 [.int .i64 r.en,vs,vo,vt,.int .i64 r.cost,.int .i64 r.used,.int .i64 r.wh])).ld ⟨H.nx,2,none⟩=some vo:=aj c rfl;have w:(H.alloc (.cells 7 [.int .i64 r.en,vs,vo,vt,.int .i64 r.cost,.int .i64 r.used,.int .i64 r.wh])).ld ⟨H.nx,3,none⟩=some vt:=aj c rfl;have d4:(H.alloc (.cells 7 [.int .i64 r.en,vs,vo,vt,.int .i64 r.cost,.int .i64 r.used,.int .i64 r.wh])).ld ⟨H.nx,4,none⟩=some (.int .i64 r.cost):=aj c rfl;have d5:(H.alloc (.cells 7 [.int .i64 r.en,vs,vo,vt,.int .i64 r.cost,.int .i64 r.used,.int .i64 r.wh])).ld ⟨H.nx,5,none⟩=some (.int .i64 r.used):=aj c rfl;have d6:(H.alloc (.cells 7 [.int .i64 r.en,vs,vo,vt,.int .i64 r.cost,.int .i64 r.used,.int .i64 r.wh])).ld ⟨H.nx,6,none⟩=some (.int .i64 r.wh):=aj c rfl;have d:(H.alloc (.cells 7 [.int .i64 r.en,vs,vo,vt,.int .i64 r.cost,.int .i64 r.used,.int .i64 r.wh])).ldn ⟨H.nx,0,none⟩ 7=some [.int .i64 r.en,vs,vo,vt,.int .i64 r.cost,.int .i64 r.used,.int .i64 r.wh]:=bj c 7 rfl;generalize cF:H.alloc (.cells 7 [.int .i64 r.en,vs,vo,vt,.int .i64 r.cost,.int .i64 r.used,.int .i64 r.wh])=B at G d0 z y w d4 d5 d6 d;have bD:=G.wf c;rw [cF]at gB;have j:=Ext.alloc B (.cells 7 [.int .i64 0,.slice none 0 0,.slice none 0 0,.slice none 0 0,.int .i64 0,.int .i64 0,.int .i64 0]);have P:=cq B (.cells 7 [.int .i64 0,.slice none 0 0,.slice none 0 0,.slice none 0 0,.int .i64 0,.int .i64 0,.int .i64 0])
 obtain ⟨H2,j0⟩:∃H2,B.alloc (.cells 7 [.int .i64 0,.slice none 0 0,.slice none 0 0,.slice none 0 0,.int .i64 0,.int .i64 0,.int .i64 0])=H2:=⟨_,rfl⟩
 rw [j0]at j P;have jS:=j.wf bD;have A:=G.trans j;have ltB:=AH.aS gB;have ltR:=AH.aS P;have x1:=G.nx;have x2:=j.nx;replace z:=j.ld z;replace y:=j.ld y;replace w:=j.ld w;have u:=bo.1 z;have t:=bo.1 y;have s:=bo.1 w;obtain ⟨a1,c1,e1⟩:=hs.len;obtain ⟨a2,c2,e2⟩:=ho.len;obtain ⟨a3,c3,e3⟩:=ht.len;have s1:da vs vs=true:=by rw [e1];simp
 have s2:da vo vo=true:=by rw [e2];simp
 have s3:da vt vt=true:=by rw [e3];simp
 simp (maxSteps:=9^7)-implicitDefEqProofs+contextual [-X.ev,Km,cF,j0,z,y,w];apply ah
 ·(simp-implicitDefEqProofs [-X.ev];rfl)
 refine (kl (l:=r.store) jS (hs.ext A) b1).mono ?_;rintro xs H3 ⟨S,g,Z⟩;have pN:=g.wf jS;simp (maxSteps:=9^7)-implicitDefEqProofs+contextual [-X.ev];apply ah
 ·(simp-implicitDefEqProofs [-X.ev];rfl)
 refine (mL (f:=147) (sz:=2) (bytes:=16) rfl rfl pN (ho.ext (A.trans g)) (by simp [cY];omega) (by simp [cY];omega)).mono ?_;rintro a H4 ⟨R,i,Y⟩;have qO:=i.wf pN;simp (maxSteps:=9^7)-implicitDefEqProofs+contextual [-X.ev];apply ah
 ·(simp-implicitDefEqProofs [-X.ev];rfl)
 refine (mL (f:=148) (sz:=3) (bytes:=24) rfl rfl qO (ht.ext ((A.trans g).trans i)) (by simp [dB];omega) (by simp [dB];omega)).mono ?_;rintro xt H5 ⟨Q,o,W⟩;have x3:=g.nx;have x4:=i.nx;have x5:=o.nx;obtain ⟨f1,g1,h1⟩:=S.shape;obtain ⟨f2,g2,h2⟩:=R.shape;obtain ⟨f3,g3,h3⟩:=Q.shape;have h:=g.trans (i.trans o);have n:H5.n0=H.n0:=h.n0.trans A.n0;obtain ⟨H6,t6,M6,J,m,v⟩:=bR (h.get (j.get gB)) (by rw [n];exact c) (k:=1) (vs:=[xs]) (by simp);rw [show aJ [Value.int .i64 r.en,vs,vo,vt,.int .i64 r.cost,.int .i64 r.used,.int .i64 r.wh] 1 [xs]=[.int .i64 r.en,xs,vo,vt,.int .i64 r.cost,.int .i64 r.used,.int .i64 r.wh] from rfl]at v;obtain ⟨H7,t7,M7,I,p,Wh⟩:=bR v (by rw [m,n];exact c) (k:=2) (vs:=[a]) (by simp);rw [show aJ [Value.int .i64 r.en,xs,vo,vt,.int .i64 r.cost,.int .i64 r.used,.int .i64 r.wh] 2 [a]=[.int .i64 r.en,xs,a,vt,.int .i64 r.cost,.int .i64 r.used,.int .i64 r.wh] from rfl]at Wh;obtain ⟨H8,t8,M8,Tx,C,Wi⟩:=bR Wh (by rw [p,m,n];exact c) (k:=3) (vs:=[xt]) (by simp);rw [show aJ [Value.int .i64 r.en,xs,a,vt,.int .i64 r.cost,.int .i64 r.used,.int .i64 r.wh] 3 [xt]=[.int .i64 r.en,xs,a,xt,.int .i64 r.cost,.int .i64 r.used,.int .i64 r.wh] from rfl]at Wi;have l8:H8.ldn ⟨H.nx,0,none⟩ 7=some [.int .i64 r.en,xs,a,xt,.int .i64 r.cost,.int .i64 r.used,.int .i64 r.wh]:=by rw [bH Wi (by rw [C,p,m,n];exact c) (by simp)];rfl
 have N:=M8.get (fun q=>by omega) (M7.get (fun q=>by omega) (M6.get (fun q=>by omega) (h.get P)));obtain ⟨H9,t9,M9,Wa,Ob,Wj⟩:=bR N (by rw [C,p,m,n];omega) (k:=0) (vs:=[.int .i64 r.en,xs,a,xt,.int .i64 r.cost,.int .i64 r.used,.int .i64 r.wh]) (by simp);rw [show aJ [Value.int .i64 0,.slice none 0 0,.slice none 0 0,.slice none 0 0,.int .i64 0,.int .i64 0,.int .i64 0] 0 [.int .i64 r.en,xs,a,xt,.int .i64 r.cost,.int .i64 r.used,.int .i64 r.wh]=[.int .i64 r.en,xs,a,xt,.int .i64 r.cost,.int .i64 r.used,.int .i64 r.wh] from rfl]at Wj;have l9:H9.ldn ⟨B.nx,0,none⟩ 7=some [.int .i64 r.en,xs,a,xt,.int .i64 r.cost,.int .i64 r.used,.int .i64 r.wh]:=by rw [bH Wj (by rw [Ob,C,p,m,n];omega) (by simp)];rfl
 have M:=g.ldn u;have V:=g.ldn t;have U:=g.ldn s;have L:=i.ldn V;have T:=i.ldn U;have K:=o.ldn T;have i1:cC xs=false:=by rw [h1];rfl
 have i2:cC a=false:=by rw [h2];rfl
 have i3:cC xt=false:=by rw [h3];rfl
 have v1:aT xs=[xs]:=by rw [h1];rfl
 have v2:aT a=[a]:=by rw [h2];rfl
 have v3:aT xt=[xt]:=by rw [h3];rfl
 simp (maxSteps:=9^7)-implicitDefEqProofs+contextual [-X.ev,i1,i2,i3,v1,v2,v3,t6,t7,t8,l8,t9,l9,s1,s2,s3,u,t,s,M,V,U,L,T,K,g.n0,i.n0,o.n0,x3,x4,x5,m,p,C,J,I,Tx,bq,aM,aN];have D:Mod (fun b=>b=H.nx∨b=B.nx) H5 H9:=(((M6.mono fun b _ q=>.inl q).trans (M7.mono fun b _ q=>.inl q)).trans (M8.mono fun b _ q=>.inl q)).trans (M9.mono fun b _ q=>.inr q);refine ⟨⟨xs,a,xt,rfl,(S.ext (i.trans o)).mod D (fun b e q=>by have:=Z b e;omega),(R.ext o).mod D (fun b e q=>by have:=Y b e;omega),Q.mod D (fun b e q=>by have:=W b e;omega),fun b e=>?_⟩,(A.trans h).mod D (fun b e=>by omega)⟩;rcases e with q|q|q
 ·have:=Z b q;omega
 ·have:=Y b q;omega
 ·have:=W b q;omega
end
section
open Go
def iterM (p:bC) (ps:List Int):Nat→fH→fH
 |0,c=>c
 |n+1,c=>iterM p ps n (dV p ps c)
def ym (p:bC) (ps:List Int) (c:fH):fH:=iterM p ps (c.fuel.toNat+1) c
theorem tg {p:bC} {ps:List Int} {c:fH} (h:dM c=true):dV p ps c=c:=by
 unfold dM at h;unfold dV;by_cases a:c.over=true
 ·rw [if_pos a]
 ·rw [if_neg a]
  simp only [Bool.or_eq_true,List.isEmpty_iff]at h;rw [h.resolve_left a]
theorem nT {p:bC} {ps:List Int} {c:fH} (h:dM c=true):∀n,iterM p ps n c=c
 |0=>rfl
 |n+1=>by rw [iterM,tg h];exact nT h n
theorem DY {p:bC} {ps:List Int} {c:fH} (h:dM c=false) (h2:(dV p ps c).over=false):c.fuel≠0∧(dV p ps c).fuel=c.fuel- 1:=by
 unfold dM at h;simp only [Bool.or_eq_false_iff]at h;unfold dV at h2⊢;rw [if_neg (by rw [h.1];decide)]at h2⊢
 cases b:c.todo with
 |nil=>rw [b]at h;simp at h
 |cons it next=>
  obtain ⟨k,s⟩:=it;rw [b]at h2;by_cases a:c.fuel=0
  ·simp only [if_pos a]at h2
   cases h2
  ·refine ⟨a,?_⟩
   simp only [if_neg a];rw [yl];rfl
theorem Hz {p:bC} {ps:List Int} {c:fH} (h:(!dM c&& !(dV p ps c).over)=false):ym p ps c=dV p ps c:=by
 unfold ym
 cases a:dM c with
 |true=>rw [nT a,tg a]
 |false=>
  rw [a]at h;simp at h;rw [iterM];exact nT (by simp [dM,h]) _
theorem Rm {p:bC} {ps:List Int} {c:fH} (b:0≤c.fuel) (h:(!dM c&& !(dV p ps c).over)=true):ym p ps (dV p ps c)=ym p ps c∧(dV p ps c).fuel=c.fuel- 1∧0<c.fuel:=by
 simp only [aqJ,Bool.not_eq_true']at h;obtain ⟨d,h2⟩:=DY h.1 h.2;refine ⟨?_,h2,by omega⟩;unfold ym;rw [h2]
 obtain ⟨n,a⟩:∃n:Nat,c.fuel=n+1:=⟨c.fuel.toNat- 1,by omega⟩
 rw [a];simp only [Int.add_sub_cancel,Int.toNat_natCast];rw [show((n:Int)+1).toNat=n+1 by omega]
 conv=>rhs;rw [iterM]
theorem DZ {p:bC} {ps:List Int} {c:fH} (h:Inv p ps c):Small c.run:=by
 have e:=h.tr;have h2:=h.ou;have d:=h.fuel;have a:=h.store;simp only [bB,aqJ,aqS]at a;have b:=(kO h.head).2.2;refine ⟨?_,?_,?_⟩
 ·show c.store.length≤_;omega
 ·show c.outs.length≤_;omega
 ·show c.trace.length≤_;omega
theorem LL {G H:AH} {m:Nat} {p:bC} {ps:List Int} {v:MV} {c:fH} (h:tf G H m p ps v c):
 Ca E O 79 [.pointer (some ⟨m,0,none⟩)] H (fun x H'=>∃cs,x= .tuple #[.agg cs.toArray,.bool (dM c)]∧ly H' H.nx cs c.run∧Ext H H'):=by
 refine Ca.aW (F:=U2) rfl rfl rfl ?_;obtain ⟨rows,z,DI,vE⟩:=h.is;obtain ⟨m1,m2,m3,m4,m5,m6⟩:=h.mt;have K:=z.wf;have t:=Ext.alloc H (.cells 7 [.int .i64 0,.slice none 0 0,.slice none 0 0,.slice none 0 0,.int .i64 0,.int .i64 0,.int .i64 0]);have n:=cq H (.cells 7 [.int .i64 0,.slice none 0 0,.slice none 0 0,.slice none 0 0,.int .i64 0,.int .i64 0,.int .i64 0])
 obtain ⟨H1,cF⟩:∃H1,H.alloc (.cells 7 [.int .i64 0,.slice none 0 0,.slice none 0 0,.slice none 0 0,.int .i64 0,.int .i64 0,.int .i64 0])=H1:=⟨_,rfl⟩
 rw [cF]at t n;have i:=z.ext t;have x1:=t.nx;have w:=aG i.get i.n0 (k:=13) (v:=.bool v.ended) rfl;have T:=aG i.get i.n0 (k:=0) (v:=v.vf) rfl
 have A:H1.ldn ⟨m,6,none⟩ 7=some [.int .i64 c.run.en,v.vs,v.vo,v.vt,.int .i64 c.run.cost,.int .i64 c.run.used,.int .i64 c.run.wh]:=by
  rw [bH i.get i.n0 (by simp)];show some [Value.int .i64 v.en,v.vs,v.vo,v.vt,.int .i64 v.cost,.int .i64 v.used,.int .i64 v.wh]=_;rw [m1,m2,m3,m4];rfl
 have ltm:=z.lt (.inl rfl);obtain ⟨fa,fc,W⟩:=z.fr.shape;have key:=DX (r:=c.run) i.wf i.st.rows i.ou.rows i.tr.rows (DZ h.inv);obtain ⟨a1,c1,e1⟩:=z.st.shape;obtain ⟨a2,c2,e2⟩:=z.ou.shape;obtain ⟨a3,c3,e3⟩:=z.tr.shape;have s1:da v.vs v.vs=true:=by rw [e1];simp
 have s2:da v.vo v.vo=true:=by rw [e2];simp
 have s3:da v.vt v.vt=true:=by rw [e3];simp
 have TC:Nat.beq m H.nx=false:=ark.2 fun h=>by have:=Nat.eq_of_beq_eq_true h;omega
 have B:dM c=(c.over||decide (rows.length=0)):=by
  unfold dM
  cases L:c.over with
  |true=>rfl
  |false=>
   obtain ⟨fs,Z,LJ⟩:=DI L;rw [Bool.false_or,Bool.false_or,arc,List.isEmpty_iff,aqS,LJ];constructor
   ·intro q
    rcases List.eq_nil_or_concat fs with rfl|⟨eg,f,Xo⟩
    ·rw [yj Z];rfl
    ·rw [List.concat_eq_append]at Xo
     subst Xo;obtain ⟨_,_,rfl,_,_,_,_,_,_,_,fW,_⟩:=qf Z;rw [jn]at q;simp at q;obtain ⟨l,k⟩:=f
     cases l with
     |nil=>exact absurd rfl fW
     |cons s l=>rw [kP]at q;simp at q
   ·intro q
    have:rows=[]:=are q;subst this;cases Z;rfl
 rw [m6]at w;rw [W]at T;have ri:((rows.length:Int)=0)↔rows=[]:=by rw [←aq9];omega
 cases L:c.over with
 |true=>
  rw [L]at w B;simp (maxSteps:=9^7)-implicitDefEqProofs+contextual [-X.ev,U2,cF,A,w];apply ah
  ·(simp-implicitDefEqProofs [-X.ev];rfl)
  refine (key).mono ?_;rintro xx H2 ⟨cs,rfl,I,d⟩;have N:=d.nx;have j:cs.length=7:=by obtain ⟨_,_,_,e,_⟩:=I.is;rw [e];rfl
  obtain ⟨H3,Q,u,U,D,J⟩:=bR (d.get n) (by rw [d.n0,t.n0];exact K) (k:=0) (vs:=cs) (by simp [j]);have Y:=gG [Value.int .i64 0,.slice none 0 0,.slice none 0 0,.slice none 0 0,.int .i64 0,.int .i64 0,.int .i64 0] cs (by rw [j];rfl);rw [Y]at J;have V:H3.ldn ⟨H.nx,0,none⟩ 7=some cs:=by rw [bH J (by rw [D,d.n0,t.n0];exact K) (by omega)];simp [aqN (Nat.le_of_eq j)]
  have y:=d.ldn A;have C:=bo.1 w;have R:=d.ldn C;have M:=d.n0;simp (maxSteps:=9^7)-implicitDefEqProofs+contextual [-X.ev,j,Q,V,B,A,y,C,R,s1,s2,s3,N,M,U,D,bq,aM,aN,By,cK,TC];refine ⟨?_,t.trans d|>.mod u (fun b hb=>by omega)⟩;obtain ⟨us,P,ut,e,a,b,cc,o⟩:=I.is;exact ⟨us,P,ut,e,a.mod u (fun q g e=>by have:=o q (.inl g);have:=AH.aS n;omega),b.mod u (fun q g e=>by have:=o q (.inr (.inl g));have:=AH.aS n;omega),cc.mod u (fun q g e=>by have:=o q (.inr (.inr g));have:=AH.aS n;omega),fun q g=>by have:=o q g;omega⟩
 |false=>
  rw [L]at w B
  obtain ⟨F,hF⟩:∃F,dM c=F:=⟨_,rfl⟩
  rw [hF]at B⊢;have hd:decide (rows=[])=F:=by rw [B,Bool.false_or,arc,aqS,aqS,aq9]
  have Bi:decide (rows.length=0)=F:=by rw [B,Bool.false_or]
  have hd3:decide ((rows.length:Int)=0)=F:=by rw [←Bi,arc,aqS,aqS];omega
  have r0n:=T;simp (maxSteps:=9^7)-implicitDefEqProofs+contextual [-X.ev,U2,cF,A,w];apply ah
  ·(simp-implicitDefEqProofs [-X.ev];rfl)
  refine (key).mono ?_;rintro xx H2 ⟨cs,rfl,I,d⟩;have N:=d.nx;have j:cs.length=7:=by obtain ⟨_,_,_,e,_⟩:=I.is;rw [e];rfl
  obtain ⟨H3,Q,u,U,D,J⟩:=bR (d.get n) (by rw [d.n0,t.n0];exact K) (k:=0) (vs:=cs) (by simp [j]);have Y:=gG [Value.int .i64 0,.slice none 0 0,.slice none 0 0,.slice none 0 0,.int .i64 0,.int .i64 0,.int .i64 0] cs (by rw [j];rfl);rw [Y]at J;have V:H3.ldn ⟨H.nx,0,none⟩ 7=some cs:=by rw [bH J (by rw [D,d.n0,t.n0];exact K) (by omega)];simp [aqN (Nat.le_of_eq j)]
  have y:=d.ldn A;have C:=bo.1 w;have R:=d.ldn C;have S:=d.ld T;have M:=d.n0;simp (maxSteps:=9^7)-implicitDefEqProofs+contextual [-X.ev,j,Q,V,hd,S,A,y,C,R,s1,s2,s3,N,M,U,D,bq,aM,aN,By,cK,TC];refine ⟨?_,t.trans d|>.mod u (fun b hb=>by omega)⟩;obtain ⟨us,P,ut,e,a,b,cc,o⟩:=I.is;exact ⟨us,P,ut,e,a.mod u (fun q g e=>by have:=o q (.inl g);have:=AH.aS n;omega),b.mod u (fun q g e=>by have:=o q (.inr (.inl g));have:=AH.aS n;omega),cc.mod u (fun q g e=>by have:=o q (.inr (.inr g));have:=AH.aS n;omega),fun q g=>by have:=o q g;omega⟩
open Go
abbrev zR:List Value:=[.int .i64 0,.slice none 0 0,.slice none 0 0,.slice none 0 0,.int .i64 0,.int .i64 0,.int .i64 0]
def lz (p:bC) (fuel:Int) (t:gA):iw:=if gC p fuel t=0 then(ym p t.cd (kR p fuel t)).run else BV
theorem ly.len {H:AH} {n:Nat} {cs:List Value} {r:iw} (h:ly H n cs r):cs.length=7:=by obtain ⟨_,_,_,e,_⟩:=h.is;rw [e];rfl
theorem ly.mod {H H':AH} {n:Nat} {S:Nat→Prop} {cs:List Value} {r:iw} (h:ly H n cs r) (M:Mod S H H') (g:∀b,S b→b<n):ly H' n cs r:=by
 obtain ⟨us,i,ut,e,a,b,c,d⟩:=h.is;exact ⟨us,i,ut,e,a.mod M (fun q f e=>by have:=d q (.inl f);have:=g q e;omega),b.mod M (fun q f e=>by have:=d q (.inr (.inl f));have:=g q e;omega),c.mod M (fun q f e=>by have:=d q (.inr (.inr f));have:=g q e;omega),d⟩
theorem ly.le {H:AH} {n k:Nat} {cs:List Value} {r:iw} (h:ly H n cs r) (i:k≤n):ly H k cs r:=by
 obtain ⟨us,f,ut,e,a,b,c,d⟩:=h.is;exact ⟨us,f,ut,e,a,b,c,fun q g=>aq2 i (d q g)⟩
theorem LM {p:bC} {t:gA} {c d:List Value} {fuel:Int} {H:AH} (U:H.n0≤H.nx) (Y:p9 H c p) (V:xH H d t):
 Ca E O 47 [.agg c.toArray,.int .i64 fuel,.agg d.toArray] H (fun x H'=>∃cs,x= .tuple #[.agg cs.toArray,.int .i64 (gC p fuel t)]∧ly H' H.nx cs (lz p fuel t)∧Ext H H'):=by
 refine Ca.aW (F:=Zj) rfl rfl rfl ?_;have hc:=Y.len;have hd:d.length=2:=by obtain ⟨vs,vp,e,_⟩:=V.is;rw [e];rfl
 have D:=Ext.alloc H (.cells c.length c);have q:(H.alloc (.cells c.length c)).ldn ⟨H.nx,0,none⟩ 3=some c:=bj U 3 (by assumption);generalize cF:H.alloc (.cells c.length c)=I at D q;have R:=D.wf U;have w:=Ext.alloc I (.cells d.length d);have r:(I.alloc (.cells d.length d)).ldn ⟨I.nx,0,none⟩ 2=some d:=bj R 2 (by assumption);generalize j0:I.alloc (.cells d.length d)=j at w r;have jh:=w.wf R;replace q:=w.ldn q;have u:=Ext.alloc j (.cells 7 zR);have B:=cq j (.cells 7 zR)
 obtain ⟨H3,LA⟩:∃H3,j.alloc (.cells 7 zR)=H3:=⟨_,rfl⟩
 rw [LA]at u B;have T:=u.wf jh;have X:=(D.trans w).trans u;replace q:=u.ldn q;replace r:=u.ldn r;have x1:=D.nx;have x2:=w.nx;have ltR:=AH.aS B;have mJ:H3.n0=H.n0:=X.n0;have a:H3.n0≤j.nx:=by rw [mJ];omega
 have k1:=Rg (fuel:=fuel) T (Y.ext X) (V.ext X);simp (maxSteps:=9^7)-implicitDefEqProofs+contextual [-X.ev,Zj,cF,j0,LA,q,r];apply ah
 ·(simp-implicitDefEqProofs [-X.ev];rfl)
 refine (k1).mono ?_;rintro x H4 y;by_cases l:gC p fuel t=0
 case neg=>
  rw [if_neg l]at y;obtain ⟨rfl,o⟩:=y;obtain ⟨H5,t5,M5,N4,xS,g5⟩:=bR (o.get B) (by rw [o.n0];exact a) (k:=0) (vs:=zR) (by simp);rw [gG _ _ rfl]at g5;have l5:H5.ldn ⟨j.nx,0,none⟩ 7=some zR:=by rw [bH g5 (by rw [xS,o.n0];exact a) (by simp)];rfl
  have ua:eS zR []=some (.agg zR.toArray):=rfl;simp (maxSteps:=9^7)-implicitDefEqProofs+contextual [-X.ev,l,ua,t5,l5];have XX:=(X.trans o).mod M5 (fun b A=>by omega);exact ⟨by rw [lz,if_neg l];exact ly.zero _ _,XX⟩
 rw [if_pos l]at y;obtain ⟨m,rfl,G,v,hM,o,BU,hG⟩:=y
 obtain ⟨fin,Xp⟩:∃f,ym p t.cd (kR p fuel t)=f:=⟨_,rfl⟩
 simp (maxSteps:=9^7)-implicitDefEqProofs+contextual [-X.ev];refine cm (fun k K H'=>K.get 8= .pointer (some ⟨m,0,none⟩)∧K.get 6= .pointer (some ⟨j.nx,0,none⟩)∧Ext H3 H'∧∃v P,tf G H' m p t.cd v P∧ym p t.cd P=fin∧(∀b,Mf m v b→H3.nx≤b)∧k=P.fuel.toNat) ?_ _ ⟨by simp,by simp,o,v,_,hM,Xp,BU,rfl⟩;rintro k K H5 ⟨L,M,X5,v5,N,s,Om,Z,rfl⟩;simp (maxSteps:=9^7)-implicitDefEqProofs+contextual [-X.ev,L];apply ah
 ·(simp-implicitDefEqProofs [-X.ev];rfl)
 refine (LI s).mono ?_;rintro x H6 ⟨rfl,Q,i,M6,J,W1⟩;have C:Ext H3 H6:=X5.mod M6 Z
 have Ro:∀b,Mf m Q b→H3.nx≤b:=fun b A=>by
  rcases J b A with q|q
  ·exact Z b q
  ·have:=X5.nx;omega
 cases g:(!dM N&& !(dV p t.cd N).over)with
 |true=>
  obtain ⟨g1,g2,g3⟩:=Rm s.inv.fuel.1 g;simp (maxSteps:=9^7)-implicitDefEqProofs+contextual [-X.ev,g,L,M];exact ⟨_,by omega,C,Q,_,i,g1.trans Om,Ro,rfl⟩
 |false=>
  have hs:dV p t.cd N=fin:=(Hz g).symm.trans Om;rw [hs]at i;simp (maxSteps:=9^7)-implicitDefEqProofs+contextual [-X.ev,g,L,M];apply ah
  ·(simp-implicitDefEqProofs [-X.ev];rfl)
  refine (LL i).mono ?_;rintro x H7 ⟨cs,rfl,W,X7⟩;have n:=W.len;have S:=(C.trans X7).wf T;obtain ⟨H8,s8,X8,Tx,BL,g8⟩:=iK S (z:=7) (c:=zR) (vs:=cs) (by rw [n];rfl);have h:=(C.trans X7).trans X8;have l8:H8.ldn ⟨H7.nx,0,none⟩ 7=some cs:=by rw [bH g8 (by rw [BL];exact S) (by omega)];simp [aqN (Nat.le_of_eq n)]
  obtain ⟨H9,t9,M9,Wa,Ob,g9⟩:=bR (h.get B) (by rw [h.n0];exact a) (k:=0) (vs:=cs) (by simp [n]);rw [gG _ _ (by rw [n];rfl)]at g9;have l9:H9.ldn ⟨j.nx,0,none⟩ 7=some cs:=by rw [bH g9 (by rw [Ob,h.n0];exact a) (by omega)];simp [aqN (Nat.le_of_eq n)]
  have x38:=C.nx;simp (maxSteps:=9^7)-implicitDefEqProofs+contextual [-X.ev,n,s8,l8,M,t9,l9];refine ⟨cs,⟨rfl,l.symm⟩,?_,(X.trans h).mod M9 (fun b A=>by omega)⟩;rw [lz,if_pos l,Xp];exact ((W.ext X8).mod M9 (fun b A=>by omega)).le (by omega)
end
end Go.Proofs.YtppcmpmnglaleaaGreatDoor.A
