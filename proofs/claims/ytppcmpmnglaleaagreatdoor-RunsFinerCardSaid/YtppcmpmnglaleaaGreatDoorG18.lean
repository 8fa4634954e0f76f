/- Texts that stand one behind the other: S40, S41, S42, S43, S44, S45, S46, S47, S48, S49, S50, S51, S52. -/
import Derived.Test.YtppcmpmnglaleaaGreatDoorG17
set_option linter.unusedVariables false
set_option linter.unusedSimpArgs false
set_option maxRecDepth 10000
namespace Go.Proofs.YtppcmpmnglaleaaGreatDoor.A
section
open Go
section
variable{G H H':AH} {m:Nat} {v:MV} {rows c8:List (List Value)} {store:List Int} {outs sD:List (Int×Int)} {trace sB:List Ev}
theorem MH.afu {vf:Value} (h:MH G H m v rows store outs trace) (M:Mod (fun b=>b=m∨aS v.vf b) H H') (g:H'.get m=some (.cells 14 ({v with vf:=vf}:MV).cells)) (o:fw H' 2 vf c8) (c:∀b,aS vf b→aS v.vf b∨H.nx≤b):MH G H' m {v with vf:=vf} c8 store outs trace where
 get:=g
 n0:=by rw [M.n0];exact h.n0
 sub:=h.sub.mod M fun b a=>h.out b (by rcases a with q|q;exact .inl q;exact .inr (.inl q))
 wf:=M.wf h.wf
 fr:=o
 st:=h.st.mod M fun b a q=>by rcases q with rfl|q;exact h.d1.2.1 a;exact (h.d2 b q).1 a
 ou:=h.ou.mod M fun b a q=>by rcases q with rfl|q;exact h.d1.2.2.1 a;exact (h.d2 b q).2.1 a
 tr:=h.tr.mod M fun b a q=>by rcases q with rfl|q;exact h.d1.2.2.2 a;exact (h.d2 b q).2.2 a
 d1:=⟨fun q=>by rcases c m q with q|q;exact h.d1.1 q;have:=h.lt (.inl rfl);omega,h.d1.2.1,h.d1.2.2.1,h.d1.2.2.2⟩
 d2:=fun b a=>by
  rcases c b a with q|q
  ·exact h.d2 b q
  ·exact ⟨fun k=>by have:=h.lt (.inr (.inr (.inl k)));omega,fun k=>by have:=h.lt (.inr (.inr (.inr (.inl k))));omega,fun k=>by have:=h.lt (.inr (.inr (.inr (.inr k))));omega⟩
 d3:=h.d3
 d4:=h.d4
 out:=fun b a=>by
  rcases a with q|q|q
  ·exact h.out b (.inl q)
  ·rcases c b q with q|q
   ·exact h.out b (.inr (.inl q))
   ·exact AH.rp (arh h.sub.nx q)
  ·exact h.out b (.inr (.inr q))
theorem MH.Wy {vo:Value} (h:MH G H m v rows store outs trace) (M:Mod (fun b=>b=m∨aS v.vo b) H H') (g:H'.get m=some (.cells 14 ({v with vo:=vo}:MV).cells)) (o:dE H' 2 vo (cQ sD)) (c:∀b,aS vo b→aS v.vo b∨H.nx≤b):MH G H' m {v with vo:=vo} rows store sD trace where
 get:=g
 n0:=by rw [M.n0];exact h.n0
 sub:=h.sub.mod M fun b a=>h.out b (by rcases a with q|q;exact .inl q;exact .inr (.inr (.inr (.inl q))))
 wf:=M.wf h.wf
 fr:=h.fr.mod M fun b a q=>by rcases q with rfl|q;exact h.d1.1 a;exact (h.d2 b a).2.1 q
 st:=h.st.mod M fun b a q=>by rcases q with rfl|q;exact h.d1.2.1 a;exact (h.d3 b a).1 q
 ou:=o
 tr:=h.tr.mod M fun b a q=>by rcases q with rfl|q;exact h.d1.2.2.2 a;exact h.d4 b q a
 d1:=⟨h.d1.1,h.d1.2.1,fun q=>by rcases c m q with q|q;exact h.d1.2.2.1 q;have:=h.lt (.inl rfl);omega,h.d1.2.2.2⟩
 d2:=fun b a=>⟨(h.d2 b a).1,fun q=>by rcases c b q with q|q;exact (h.d2 b a).2.1 q;have:=h.lt (.inr (.inl a));omega,(h.d2 b a).2.2⟩
 d3:=fun b a=>⟨fun q=>by rcases c b q with q|q;exact (h.d3 b a).1 q;have:=h.lt (.inr (.inr (.inl a)));omega,(h.d3 b a).2⟩
 d4:=fun b a q=>by rcases c b a with k|k;exact h.d4 b k q;have:=h.lt (.inr (.inr (.inr (.inr q))));omega
 out:=fun b a=>by
  rcases a with q|q|q|q|q
  ·exact h.out b (.inl q)
  ·exact h.out b (.inr (.inl q))
  ·exact h.out b (.inr (.inr (.inl q)))
  ·rcases c b q with q|q
   ·exact h.out b (.inr (.inr (.inr (.inl q))))
   ·exact AH.rp (arh h.sub.nx q)
  ·exact h.out b (.inr (.inr (.inr (.inr q))))
theorem MH.QU {v':MV} (h:MH G H m v rows store outs trace) (M:Mod (fun b=>b=m) H H') (g:H'.get m=some (.cells 14 v'.cells)) (f:v'.vf=v.vf) (e:v'.vs=v.vs) (d:v'.vo=v.vo) (c:v'.vt=v.vt):MH G H' m v' rows store outs trace where
 get:=g
 n0:=by rw [M.n0];exact h.n0
 sub:=h.sub.mod M fun b a=>h.out b (.inl a)
 wf:=M.wf h.wf
 fr:=by rw [f];exact h.fr.mod M fun b a q=>h.d1.1 (q▸a)
 st:=by rw [e];exact h.st.mod M fun b a q=>h.d1.2.1 (q▸a)
 ou:=by rw [d];exact h.ou.mod M fun b a q=>h.d1.2.2.1 (q▸a)
 tr:=by rw [c];exact h.tr.mod M fun b a q=>h.d1.2.2.2 (q▸a)
 d1:=by rw [f,e,d,c];exact h.d1
 d2:=by rw [f,e,d,c];exact h.d2
 d3:=by rw [e,d,c];exact h.d3
 d4:=by rw [d,c];exact h.d4
 out:=fun b a=>h.out b (by unfold Mf at a⊢;rw [f,e,d,c]at a;exact a)
theorem ny {x:Value}:∀{l:List Value} {k:Nat},k<l.length→aI l k [x]=l.set k x
 |y::l,0,_=>by simp [aI]
 |y::l,k+1,h=>by simp only [aI,List.set_cons_succ];rw [ny (by simpa using h)]
theorem iv (l:List Int):(bI l).flatten=l.map (fun n=>.int .i64 n):=by
 induction l with
 |nil=>rfl
 |cons x l ih=>simp only [bI,List.map_cons,List.flatten_cons,List.singleton_append]at ih⊢;rw [ih]
theorem MH.afv {k:Nat} (a:Int) (h:MH G H m v rows store outs trace) (f:k<store.length):∃b H',v.vs= .slice (some ⟨b,0,none⟩) store.length store.length∧H.st ⟨b,k,none⟩ [.int .i64 a]=some H'∧MH G H' m v rows (store.set k a) outs trace∧Mod (Mf m v) H H'∧H'.nx=H.nx∧H'.n0=H.n0:=by
 rcases h.st.is with⟨_,e⟩|⟨b,e,i,g⟩
 · have:=congrArg List.length e;simp [bI]at this;subst this;simp at f
 rw [iv]at g;have el:(bI store).length=store.length:=by simp [bI]
 rw [el]at e;have d:aS v.vs b:=by rw [e];exact (ba _ _ _ _ _).2 rfl
 obtain ⟨H',st,M,l,n0,j⟩:=bH g i (k:=k) (vs:=[.int .i64 a]) (by simp;omega);rw [ny (by simpa using f),←List.map_set,←iv]at j;refine ⟨b,H',e,st, ?_,M.mono fun x _ c=> .inr (.inr (.inl (c▸d))),l,n0⟩
 exact
  {get:=M.get (fun q=>h.d1.2.1 (by rw [q];exact d)) h.get
   n0:=by rw [n0];exact h.n0
   sub:=h.sub.mod M fun x c=>h.out x (.inr (.inr (.inl (c▸d))))
   wf:=M.wf h.wf
   fr:=h.fr.mod M fun x c q=>(h.d2 x c).1 (q▸d)
   st:=⟨.inr ⟨b,by rw [e];simp [bI],by rw [n0];exact i,j⟩,fun r n=>by obtain ⟨o,_,rfl⟩:=aru.1 n;rfl⟩
   ou:=h.ou.mod M fun x c q=>(h.d3 x (q▸d)).1 c
   tr:=h.tr.mod M fun x c q=>(h.d3 x (q▸d)).2 c
   d1:=h.d1,d2:=h.d2,d3:=h.d3,d4:=h.d4,out:=h.out}
end
section
variable{G H:AH} {m:Nat} {v:MV} {rows:List (List Value)} {store:List Int} {outs:List (Int×Int)} {trace:List Ev} {V:List Vr}
theorem BG {op n:Int} {va vt ve:Value} (h:MH G H m v rows store outs trace) (q:de G v.vv V) (i:0≤n∧n<V.length) (j:¬ 1<al V n):
 Ca E O 141 [.pointer (some ⟨m,0,none⟩),.agg #[.int .i64 op,.int .i64 n,va,vt,ve]] H (fun x H'=>x= .int .i64 0∧Ext H H'):=by
 refine Ca.aV (F:=a141) rfl rfl rfl ?_;have a:=h.wf;have c:=Ext.alloc H (.cells 5 [.int .i64 op,.int .i64 n,va,vt,ve]);have z:(H.alloc (.cells 5 [.int .i64 op,.int .i64 n,va,vt,ve])).ld ⟨H.nx,0,none⟩=some (.int .i64 op):=aj a rfl;have l:(H.alloc (.cells 5 [.int .i64 op,.int .i64 n,va,vt,ve])).ld ⟨H.nx,1,none⟩=some (.int .i64 n):=aj a rfl;have y:(H.alloc (.cells 5 [.int .i64 op,.int .i64 n,va,vt,ve])).ld ⟨H.nx,2,none⟩=some va:=aj a rfl;have w:(H.alloc (.cells 5 [.int .i64 op,.int .i64 n,va,vt,ve])).ld ⟨H.nx,3,none⟩=some vt:=aj a rfl;have u:(H.alloc (.cells 5 [.int .i64 op,.int .i64 n,va,vt,ve])).ld ⟨H.nx,4,none⟩=some ve:=aj a rfl;have d:(H.alloc (.cells 5 [.int .i64 op,.int .i64 n,va,vt,ve])).ldn ⟨H.nx,0,none⟩ 5=some [.int .i64 op,.int .i64 n,va,vt,ve]:=a7 a 5 rfl;generalize t:H.alloc (.cells 5 [.int .i64 op,.int .i64 n,va,vt,ve])=C at c z l y w u d;have A:=c.wf a;have e:=h.ext c
 obtain ⟨yv,g⟩:∃yv,V[n.toNat]?=some yv:=⟨_,aqU (by omega)⟩
 have s:al V n=yv.cells:=by simp [al,g]
 obtain ⟨b,o,B,p,_,_,_,r⟩:=(de.sub e.sub q).at g;have f:=aG e.get e.n0 (k:=2) (v:=v.vv) rfl;rw [p]at f;rw [s]at j;simp (maxSteps:=9^7)-implicitDefEqProofs+contextual [-X.ev,a141,t,f,l,i.1,i.2,r,j,bh,aL,aM];exact c
theorem BH {op n:Int} {va vt ve:Value} {j:List (List Value)} {args:List bV} {y:bV} (h:MH G H m v rows store outs trace) (W:aA v.w V=true) (Y:bK v.w V store=true) (t:de G v.vv V) (U:GY v.vv) (u:0≤n∧n<V.length) (z:1<al V n)
 (L:Rows G 4 va j) (P:fU G j args) (s:args[0]?=some y) (Q:cY v.w V 1 y=true) (i:(trace.length:Int)+av y≤2^40) (T:0≤v.cost∧v.cost+av y≤2^60):
 Ca E O 141 [.pointer (some ⟨m,0,none⟩),.agg #[.int .i64 op,.int .i64 n,va,vt,ve]] H (fun x H'=>x= .int .i64 (bz v.w V [store] y)∧∃f,MH G H' m {v with vt:=f,cost:=v.cost+av y} rows store outs (trace++nq v.w V [store] y)∧Mod (fun b=>b=m∨aS v.vt b) H H'∧∀b,aS f b→aS v.vt b∨H.nx≤b):=by
 refine Ca.aV (F:=a141) rfl rfl rfl ?_;have a:=h.wf;have e:=Ext.alloc H (.cells 5 [.int .i64 op,.int .i64 n,va,vt,ve]);have d0:(H.alloc (.cells 5 [.int .i64 op,.int .i64 n,va,vt,ve])).ld ⟨H.nx,0,none⟩=some (.int .i64 op):=aj a rfl;have C:(H.alloc (.cells 5 [.int .i64 op,.int .i64 n,va,vt,ve])).ld ⟨H.nx,1,none⟩=some (.int .i64 n):=aj a rfl;have B:(H.alloc (.cells 5 [.int .i64 op,.int .i64 n,va,vt,ve])).ld ⟨H.nx,2,none⟩=some va:=aj a rfl;have d3:(H.alloc (.cells 5 [.int .i64 op,.int .i64 n,va,vt,ve])).ld ⟨H.nx,3,none⟩=some vt:=aj a rfl;have d4:(H.alloc (.cells 5 [.int .i64 op,.int .i64 n,va,vt,ve])).ld ⟨H.nx,4,none⟩=some ve:=aj a rfl;have d:(H.alloc (.cells 5 [.int .i64 op,.int .i64 n,va,vt,ve])).ldn ⟨H.nx,0,none⟩ 5=some [.int .i64 op,.int .i64 n,va,vt,ve]:=a7 a 5 rfl;generalize Z:H.alloc (.cells 5 [.int .i64 op,.int .i64 n,va,vt,ve])=H1 at e d0 C B d3 d4 d;have bo:=e.wf a;have c:=h.ext e
 obtain ⟨yv,p⟩:∃yv,V[n.toNat]?=some yv:=⟨_,aqU (by omega)⟩
 have S:al V n=yv.cells:=by simp [al,p]
 obtain ⟨b,o,c',I,_,_,_,N⟩:=(de.sub c.sub t).at p;have l:=aG c.get c.n0 (k:=2) (v:=v.vv) rfl;rw [I]at l;rw [S]at z;obtain ⟨b4,o4,c4,vy,r,J,M,K,R⟩:=fU.row L P s;have g:=c.sub.ldn M;simp only [Nat.zero_mul,Nat.add_zero]at g;have QV:0<args.length:=by have:=(aq0.1 s).1;omega
 rw [←K]at g;have A:=B;rw [J]at A;have x1:=e.nx;simp (maxSteps:=9^7)-implicitDefEqProofs+contextual [-X.ev,a141,Z,l,C,A,u.1,u.2,N,z,QV,g,bh,aL,aM];apply ah
 ·(simp-implicitDefEqProofs [-X.ev];rfl)
 refine (jX c W Y t U R Q i T).mono ?_;rintro x H2 ⟨rfl,f,h2,M2,D⟩;simp (maxSteps:=9^7)-implicitDefEqProofs+contextual [-X.ev];exact ⟨f,h2,(Mod.bN e).trans M2,fun b i=>(D b i).imp id (fun q=>by omega)⟩
end
end
section
open Go
section
variable{G H:AH} {m:Nat} {v:MV} {rows:List (List Value)} {store:List Int} {outs:List (Int×Int)} {trace:List Ev} {V:List Vr}
theorem MH.tell (e:Ev) (h:MH G H m v rows store outs trace) (g:trace.length≤2^41):
 ∃H1 a c f d,mB 1 3 [.int .i64 0,.int .i64 0,.int .i64 0] H [(0,3,.agg #[.int .i64 e.kind,.int .i64 e.at_,.int .i64 e.val])]=some (.slice (some ⟨H.nx,0,none⟩) 1 1,H1)∧bc 3 24 H1 v.vt (.slice (some ⟨H.nx,0,none⟩) 1 1)=some (.slice a (trace.length+1) c,f)∧f.st ⟨m,9,none⟩ [.slice a (trace.length+1) c]=some d∧
  MH G d m {v with vt:=.slice a (trace.length+1) c} rows store outs (trace++[e])∧Mod (fun b=>b=m∨aS v.vt b) H d∧(∀b,aS (.slice a (trace.length+1) c) b→H.nx≤b)∧H1.n0=H.n0∧H.nx≤H1.nx∧f.n0=H.n0∧H1.nx≤f.nx∧d.n0=H.n0∧d.nx=f.nx:=by
 obtain ⟨H1,a,c,f,d,t,u,s,w,k,j,i,r,o,x,q,n,p,l,y⟩:=A.tell e h.wf h.get h.n0 h.tr h.d1.2.2.2 g;exact ⟨H1,a,c,f,d,t,u,s,h.vx j w k (fun b g=>.inr (i b g)),j,i,r,o,q,n,p,l⟩
theorem mg {n i a:Int} (h:MH G H m v rows store outs trace) (J:aA v.w V=true) (hS:bK v.w V store=true) (T:de G v.vv V) (gI:GY v.vv) (hn:0≤n∧n<V.length) (hi:0≤i∧i≤2^40) (e:trace.length≤2^41):
 Ca E O 144 [.pointer (some ⟨m,0,none⟩),.int .i64 n,.int .i64 i,.int .i64 a] H (fun x H'=>∃f,MH G H' m {v with vt:=f} rows (store.set (bT V n+i%al V n).toNat a) outs (trace++if 1<al V n then [⟨2,n,i%al V n⟩]else [])∧Mod (Mf m v) H H'∧∀b,aS f b→aS v.vt b∨H.nx≤b):=by
 refine Ca.aV (F:=Dj) rfl rfl rfl ?_;have hw:=h.wf
 obtain ⟨nn,rfl⟩:∃k:Nat,n=k:=⟨n.toNat,by omega⟩
 obtain ⟨yv,G6⟩:∃yv,V[nn]?=some yv:=⟨_,aqU (by omega)⟩
 have Ly:al V nn=yv.cells:=by simp [al,G6]
 obtain ⟨b,o,c',R,_,_,_,Ac⟩:=(de.sub h.sub T).at G6;have uc:=vk J hn i;have L:=zY (b:=yv.cells) hi.1;rw [if_neg (by omega)]at L;have Z9:=(aF J).2.2.2
 have fD:1≤v.w∧v.w≤8:=⟨(aF J).1,(aF J).2.1⟩
 obtain ⟨x0,Q,_⟩:=lA fD hS (i:=bT V nn+i%al V nn) (by omega);have db:=(aq0.1 Q).1;rw [Ly]at uc db⊢;have M:=aG h.get h.n0 (k:=2) (v:=v.vv) rfl;rw [R]at M;have Wz:nn<V.length:=by omega
 have Od:H.ld ⟨b,o+nn*3+2,none⟩=some (.int .i64 yv.cells):=by simpa using Ac
 have anw:Mf m v m:=.inl rfl;have WA:∀b,aS v.vt b→Mf m v b:=fun b e=>.inr (.inr (.inr (.inr e)))
 refine sg [.r,.r] (fun d B=>d.get 0= .pointer (some ⟨m,0,none⟩)∧d.get 1= .int .i64 nn∧d.get 2= .int .i64 i∧d.get 3= .int .i64 a∧d.get 8= .int .i64 yv.cells∧∃f,MH G B m {v with vt:=f} rows store outs (trace++if 1<yv.cells then [⟨2,nn,i%yv.cells⟩]else [])∧Mod (Mf m v) H B∧∀b,aS f b→aS v.vt b∨H.nx≤b) rfl ?_ ?_
 ·rintro d B ⟨s,f1,p,l,g,f,A,M1,k1⟩
  obtain ⟨a',c1,Y,wz,U⟩:=QN (n:=nn) (de.sub A.sub T) gI hn;rw [Int.toNat_natCast]at U;have s2:=aG A.get A.n0 (k:=2) (v:=v.vv) rfl;rw [R]at wz U s2;cases wz;have lj:=A.wf;simp (maxSteps:=9^7)-implicitDefEqProofs+contextual [-X.ev,Dj,s,f1,p,l,g,s2,U];refine ch (fun k d H'=>Ext B H'∧∃j:Nat,j+k=nn∧d.get 0= .pointer (some ⟨m,0,none⟩)∧d.get 2= .int .i64 i∧d.get 3= .int .i64 a∧d.get 8= .int .i64 yv.cells∧d.get 45= .slice (some ⟨b,o,none⟩) nn Y∧d.get 46= .int .i64 nn∧d.get 47= .int .i64 j∧d.get 9= .int .i64 (bT V (j:Int))) ?_ nn ⟨Ext.refl _,0,by simp,by simp [s],by simp [p],by simp [l],by simp [g],by simp,by simp,by simp,by simp [bT,df]⟩;clear s f1 p l g d;rintro k d u ⟨K,j,hj,s,p,l,g,f45,f46,f47,f9⟩;have jB:=K.wf lj;have h2:=A.ext K;by_cases q:j<nn
  ·obtain ⟨y,hy⟩:∃y,V[j]?=some y:=⟨_,aqU (by omega)⟩
   obtain ⟨b',o',Jo,cD,bC,_,_,_⟩:=(de.sub h2.sub T).at hy;rw [R]at cD;cases cD;simp only [Vr.row]at bC;obtain ⟨t,EI,X3,Gu,Gv,z,C⟩:=dQ (H:=u) jB (z:=3) (c:=[.string ⟨#[]⟩,.int .i64 0,.int .i64 0]) (vs:=[.string y.name,.int .i64 y.level,.int .i64 y.cells]) rfl;have z0:t.ld ⟨u.nx,0,none⟩=some (.string y.name):=C 0 _ rfl;have z1:t.ld ⟨u.nx,1,none⟩=some (.int .i64 y.level):=C 1 _ rfl;have z2:t.ld ⟨u.nx,2,none⟩=some (.int .i64 y.cells):=C 2 _ rfl;clear C;replace z:t.ldn ⟨u.nx,0,none⟩ 3=some [.string y.name,.int .i64 y.level,.int .i64 y.cells]:=z;have xy:=X3.wf jB;simp (maxSteps:=9^7)-implicitDefEqProofs+contextual [-X.ev,f45,f46,f47,f9,q,bC,EI,z2];rw [ai (n:=(j:Int)+1) ⟨by omega,by omega⟩];exact ⟨k- 1,by omega,K.trans X3,j+1,by omega,s,p,l,g,by simp,by rw [sx hy]⟩
  ·have tk:j=nn:=by omega
   subst tk;have ww:IntKind.i64.wrap (bT V j+i%yv.cells)=bT V j+i%yv.cells:=ai ⟨by omega,by omega⟩;obtain ⟨bs,t,wy,fy,W,Z,N,P⟩:=h2.afv (k:=(bT V j+i%yv.cells).toNat) a db;have s7:=aG h2.get h2.n0 (k:=7) (v:=v.vs) rfl;have S:v.vs= .slice (some ⟨bs,0,none⟩) store.length store.length:=wy;rw [S]at s7;have g0:0≤bT V j+i%yv.cells:=by omega
   have gl:bT V j+i%yv.cells<(store.length:Int):=by omega
   simp (maxSteps:=9^7)-implicitDefEqProofs+contextual [-X.ev,s,p,l,g,f45,f46,f47,f9,q,s7,L,ww,g0,gl,fy,P,N,bh,aL,aM];refine ⟨f,W,(M1.trans (Mod.bN K)).then Z (fun b e q=>?_),k1⟩;rcases q with q|q|q|q|q
   ·exact .inl q
   ·exact .inr (.inl q)
   ·exact .inr (.inr (.inl q))
   ·exact .inr (.inr (.inr (.inl q)))
   ·rcases k1 b q with k|k
    ·exact WA b k
    ·omega
 ·intro rest D
  by_cases I:1<yv.cells
  ·obtain ⟨B,a',c1,u,t,lU,ha,hs,W,Z,k3,DE,GP,ph,wA,P,N⟩:=h.tell ⟨2,nn,i%yv.cells⟩ e
   have s9:=aG h.get h.n0 (k:=9) (v:=v.vt) rfl;have tF:eD [.int .i64 0,.int .i64 0,.int .i64 0] [(0,1,.int .i64 2),(1,1,.int .i64 nn),(2,1,.int .i64 (i%yv.cells))]=some (.agg #[.int .i64 2,.int .i64 nn,.int .i64 (i%yv.cells)]):=rfl;rw [if_pos I]at D;simp (maxSteps:=9^7)-implicitDefEqProofs+contextual [-X.ev,Dj,M,Wz,Od,I,s9,L,tF,lU,ha,hs,DE,GP,ph,wA,P,N,bh,aL,aM];refine D _ _ ⟨by simp,by simp,by simp,by simp,by simp,_,W,Z.mono (fun b _ e=>?_),fun b e=>.inr (k3 b e)⟩;rcases e with q|q
   ·exact .inl q
   ·exact WA b q
  ·rw [if_neg I,List.append_nil]at D
   simp (maxSteps:=9^7)-implicitDefEqProofs+contextual [-X.ev,Dj,M,Wz,Od,I];exact D _ _ ⟨by simp,by simp,by simp,by simp,by simp,_,h,Mod.refl _ _,fun b e=>.inl e⟩
end
end
section
open Go
structure eZ where
 en:Int
 store:List Int
 outs:List (Int×Int)
 trace:List Ev
 cost:Int
 used:Nat
 wh:Int
 fuel:Int
 todo:List vn
 over:Bool
def eJ (c:eZ) (e n:Int):eZ:={c with en:=e,wh:=n,todo:=[],over:=true}
def iU (V:List Vr) (c:eZ) (n i a:Int):eZ:={c with store:=c.store.set (bT V n+i%al V n).toNat a,trace:=c.trace++if 1<al V n then [⟨2,n,i%al V n⟩]else []}
def bE.args:bE→List bV| .mk _ _ a _ _=>a
def kN (p:bw) (ps:List Int) (c:eZ) (k:Int) (s:bE) (vals:List Int) (next:List vn):eZ:=
 match s with
 | .mk op n args aB aE=>
  if op=0 then iU p.vars c n (if 1<al p.vars n then fE vals 0 else 0) (fE vals (vals.length- 1))
  else if op=1 then{c with trace:=c.trace++[⟨0,k,if fE vals 0=0 then 0 else 1⟩],todo:=(if fE vals 0=0 then ek aE (k+1+aC aB)else ek aB (k+1))++next}
  else if op=2 then{c with trace:=c.trace++[⟨0,k,if fE vals 0=0 then 0 else 1⟩],todo:=if fE vals 0=0 then next else ek aB (k+1)++(k,.mk op n args aB aE)::next}
  else if op=3 then{c with outs:=c.outs++[(n,fE vals 0)]}
  else if op=4 then(if ps.length≤c.used then eJ c 4 k else iU p.vars {c with used:=c.used+1} n (if 1<al p.vars n then fE vals 0 else 0) (fE ps c.used))
  else if op=5 then(if fE vals 0=0 then eJ c 1 k else c)
  else(if fE vals 0=0 then eJ c 2 k else c)
def kr (p:bw) (c:eZ) (s:bE) (next:List vn):eZ:={c with todo:=next,fuel:=c.fuel- 1,cost:=c.cost+1+aq s.args,trace:=c.trace++eR p.w p.vars [c.store] s.args}
def dB (p:bw) (ps:List Int) (c:eZ):eZ:=
 if c.over=true then c else match c.todo with
 |[]=>c
 |(k,s)::next=>if c.fuel=0 then eJ c 3 k else kN p ps (kr p c s next) k s (cL p.w p.vars [c.store] s.args) next
structure gL (G H:AH) (m:Nat) (v:MV) (H':AH) (v':MV) (c8:List (List Value)) (vA:List Int) (sD:List (Int×Int)) (sB:List Ev):Prop where
 mh:MH G H' m v' c8 vA sD sB
 mod:Mod (Mf m v) H H'
 new:∀b,Mf m v' b→Mf m v b∨H.nx≤b
section
variable{G H H1 H2:AH} {m:Nat} {v v1 v2:MV} {rows oI Oe:List (List Value)} {store sE G9:List Int} {outs sG Of:List (Int×Int)} {trace nz Hg:List Ev} {V:List Vr}
theorem gL.refl (h:MH G H m v rows store outs trace):gL G H m v H v rows store outs trace:=⟨h,Mod.refl _ _,fun b a=>.inl a⟩
theorem gL.trans (a:gL G H m v H1 v1 oI sE sG nz) (b:gL G H1 m v1 H2 v2 Oe G9 Of Hg):gL G H m v H2 v2 Oe G9 Of Hg where
 mh:=b.mh
 mod:=a.mod.then b.mod fun x c q=>by rcases a.new x q with k|k;exact k;omega
 new:=fun x c=>by
  have:=a.mod.nx;rcases b.new x c with q|q
  ·exact a.new x q
  ·right;omega
theorem gL.ext (a:gL G H m v H1 v1 oI sE sG nz) (X:Ext H1 H2):gL G H m v H2 v1 oI sE sG nz:=⟨a.mh.ext X,a.mod.trans (Mod.bN X),a.new⟩
theorem gL.lD (h:MH G H m v rows store outs trace) (X:Ext H H1):gL G H m v H1 v rows store outs trace:=(gL.refl h).ext X
theorem gL.tr {vt:Value} {cost:Int} (h:MH G H1 m {v with vt:=vt,cost:=cost} oI sE sG nz) (M:Mod (fun b=>b=m∨aS v.vt b) H H1) (k:∀b,aS vt b→aS v.vt b∨H.nx≤b):gL G H m v H1 {v with vt:=vt,cost:=cost} oI sE sG nz where
 mh:=h
 mod:=M.mono fun b _ q=>q.elim .inl fun q=>.inr (.inr (.inr (.inr q)))
 new:=fun b a=>by
  rcases a with q|q|q|q|q
  ·exact .inl (.inl q)
  ·exact .inl (.inr (.inl q))
  ·exact .inl (.inr (.inr (.inl q)))
  ·exact .inl (.inr (.inr (.inr (.inl q))))
  ·exact (k b q).imp (fun q=>.inr (.inr (.inr (.inr q)))) id
theorem gL.trW {vt:Value} {a:List Int} (h:MH G H1 m {v with vt:=vt} oI a sG nz) (M:Mod (Mf m v) H H1) (k:∀b,aS vt b→aS v.vt b∨H.nx≤b):gL G H m v H1 {v with vt:=vt} oI a sG nz where
 mh:=h
 mod:=M
 new:=fun b c=>by
  rcases c with q|q|q|q|q
  ·exact .inl (.inl q)
  ·exact .inl (.inr (.inl q))
  ·exact .inl (.inr (.inr (.inl q)))
  ·exact .inl (.inr (.inr (.inr (.inl q))))
  ·exact (k b q).imp (fun q=>.inr (.inr (.inr (.inr q)))) id
theorem gL.fr {vf:Value} (h:MH G H m v rows store outs trace) (M:Mod (fun b=>b=m∨aS v.vf b) H H1) (g:H1.get m=some (.cells 14 ({v with vf:=vf}:MV).cells)) (o:fw H1 2 vf oI) (a:∀b,aS vf b→aS v.vf b∨H.nx≤b):gL G H m v H1 {v with vf:=vf} oI store outs trace where
 mh:=h.afu M g o a
 mod:=M.mono fun b _ q=>q.elim .inl fun q=>.inr (.inl q)
 new:=fun b c=>by
  rcases c with q|q|q
  ·exact .inl (.inl q)
  ·exact (a b q).imp (fun q=>.inr (.inl q)) id
  ·exact .inl (.inr (.inr q))
theorem MH.cell {v':MV} (k:Nat) (x:Value) (h:MH G H m v rows store outs trace) (n:k<14) (e:v.cells.set k x=v'.cells) (i:v'.vf=v.vf) (f:v'.vs=v.vs) (d:v'.vo=v.vo) (c:v'.vt=v.vt):∃H',H.st ⟨m,k,none⟩ [x]=some H'∧gL G H m v H' v' rows store outs trace∧H'.nx=H.nx∧H'.n0=H.n0:=by
 obtain ⟨H',st,M,j,l,g⟩:=bH h.get h.n0 (k:=k) (vs:=[x]) (by simp;omega);rw [ny (by simp;omega),e]at g;refine ⟨H',st,⟨h.QU M g i f d c,M.mono fun b _ q=>.inl q,fun b a=>.inl ?_⟩,j,l⟩;unfold Mf at a⊢;rw [i,f,d,c]at a;exact a
theorem sI {op n k:Int} {va vt ve:Value} {t:List (List Value)} {args:List bV} {y:bV} (h:MH G H m v rows store outs trace) (U:aA v.w V=true) (W:bK v.w V store=true) (J:de G v.vv V) (T:GY v.vv)
 (L:Rows G 4 va t) (N:fU G t args) (u:args[0]?=some y) (P:cY v.w V 1 y=true) (o:(trace.length:Int)+av y≤2^40) (R:0≤v.cost∧v.cost+av y≤2^60):
 Ca E O 145 [.pointer (some ⟨m,0,none⟩),.agg #[.int .i64 op,.int .i64 n,va,vt,ve],.int .i64 k] H (fun x H'=>x= .bool (!decide (bz v.w V [store] y=0))∧∃c,gL G H m v H' {v with vt:=c,cost:=v.cost+av y} rows store outs (trace++nq v.w V [store] y++[⟨0,k,if bz v.w V [store] y=0 then 0 else 1⟩])):=by
 refine Ca.aV (F:=a145) rfl rfl rfl ?_;have a:=h.wf;have e:=Ext.alloc H (.cells 5 [.int .i64 op,.int .i64 n,va,vt,ve]);have d0:(H.alloc (.cells 5 [.int .i64 op,.int .i64 n,va,vt,ve])).ld ⟨H.nx,0,none⟩=some (.int .i64 op):=aj a rfl;have d1:(H.alloc (.cells 5 [.int .i64 op,.int .i64 n,va,vt,ve])).ld ⟨H.nx,1,none⟩=some (.int .i64 n):=aj a rfl;have B:(H.alloc (.cells 5 [.int .i64 op,.int .i64 n,va,vt,ve])).ld ⟨H.nx,2,none⟩=some va:=aj a rfl;have d3:(H.alloc (.cells 5 [.int .i64 op,.int .i64 n,va,vt,ve])).ld ⟨H.nx,3,none⟩=some vt:=aj a rfl;have d4:(H.alloc (.cells 5 [.int .i64 op,.int .i64 n,va,vt,ve])).ld ⟨H.nx,4,none⟩=some ve:=aj a rfl;have d:(H.alloc (.cells 5 [.int .i64 op,.int .i64 n,va,vt,ve])).ldn ⟨H.nx,0,none⟩ 5=some [.int .i64 op,.int .i64 n,va,vt,ve]:=a7 a 5 rfl;generalize Y:H.alloc (.cells 5 [.int .i64 op,.int .i64 n,va,vt,ve])=H1 at e d0 d1 B d3 d4 d;have bo:=e.wf a;have z:=h.ext e;obtain ⟨b4,o4,c4,vy,r,I,M,K,Q⟩:=fU.row L N u;have j:=z.sub.ldn M;simp only [Nat.zero_mul,Nat.add_zero]at j;have QV:0<args.length:=by have:=(aq0.1 u).1;omega
 rw [←K]at j;have A:=B;rw [I]at A;have x1:=e.nx;have u2:=eS (w:=v.w) (V:=V) (S:=[store]) y;simp (maxSteps:=9^7)-implicitDefEqProofs+contextual [-X.ev,a145,Y,A,QV,j];apply ah
 ·(simp-implicitDefEqProofs [-X.ev];rfl)
 refine (jX z U W J T Q P o R).mono ?_;rintro x H2 ⟨rfl,c,h2,M2,D⟩;obtain ⟨Ha,a',c1,Hb,H3,g,p,i,Z,M3,C,DE,GP,ph,wA,l7,qZ⟩:=h2.tell ⟨0,k,if bz v.w V [store] y=0 then 0 else 1⟩ (by rw [aq3];omega);have s:=aG h2.get h2.n0 (k:=9) (v:=c) rfl;have A2:gL G H1 m v H2 {v with vt:=c,cost:=v.cost+av y} rows store outs (trace++nq v.w V [store] y):=gL.tr h2 M2 D;have f:=(gL.lD h e).trans (A2.trans (gL.tr (v:={v with vt:=c,cost:=v.cost+av y}) Z M3 (fun b o=>.inr (C b o))));simp only [aq3]at p i f;by_cases q:bz v.w V [store] y=0
 ·rw [if_pos q]at g f
  have l:eD [.int .i64 0,.int .i64 0,.int .i64 0] [(0,1,.int .i64 0),(1,1,.int .i64 k),(2,1,.int .i64 0)]=some (.agg #[.int .i64 0,.int .i64 k,.int .i64 0]):=rfl;simp (maxSteps:=9^7)-implicitDefEqProofs+contextual [-X.ev,q,s,l,g,p,i];exact ⟨_,by simpa [q]using f⟩
 ·rw [if_neg q]at g f
  have l:eD [.int .i64 0,.int .i64 0,.int .i64 0] [(0,1,.int .i64 0),(1,1,.int .i64 k),(2,1,.int .i64 1)]=some (.agg #[.int .i64 0,.int .i64 k,.int .i64 1]):=rfl;simp (maxSteps:=9^7)-implicitDefEqProofs+contextual [-X.ev,q,s,l,g,p,i];exact ⟨_,by simpa [q]using f⟩
end
end
section
open Go
def Og (G:AH) (r:List Value) (f:List bE×Int):Prop:=∃vl rs,r=[vl,.int .i64 f.2]∧Rows G 5 vl rs∧eo G rs f.1∧Fit G vl∧f.1≠[]∧f.1.length≤2^30
def lE (fs:List (List bE×Int)):List vn:=fs.foldl (fun t f=>ek f.1 f.2++t) []
theorem iV (fs:List (List bE×Int)) (f:List bE×Int):lE (fs++[f])=ek f.1 f.2++lE fs:=by simp [lE,List.foldl_append]
theorem fj.snoc {α β:Type} {C:α→β→Prop}:∀{l:List α} {k:List β} {a:α} {b:β},fj C l k→C a b→fj C (l++[a]) (k++[b])
 |_,_,_,_,.nil,h=>.cons h .nil
 |_,_,_,_,.cons x y,h=>.cons x (fj.snoc y h)
theorem ku (s:bE) (l:List bE) (k:Int):ek (s::l) k=(k,s)::ek l (k+aY s):=by
 obtain ⟨op,n,args,a,b⟩:=s;rw [ek,aY];simp only [List.cons.injEq,true_and];congr 1;omega
section
variable{G H:AH} {m:Nat} {v:MV} {rows cM:List (List Value)} {store:List Int} {outs:List (Int×Int)} {trace:List Ev} {V:List Vr}
theorem gM {f:Value} {cs:List Value} {rs:List (List Value)} {s:bE} {l:List bE} {k:Int} {e:List (List bE×Int)} (h:MH G H m v (cM++[[f,.int .i64 k]]) store outs trace) (B:Rows G 5 f (cs::rs)) (I:Fit G f) (w:yZ G cs s) (d:eo G rs l) (p:fj (Og G) cM e)
 (j:cM.length≤2^40) (K:bg s≤2^30) (y:l.length≤2^30) (D:0≤k∧k≤2^40):
 Ca E O 143 [.pointer (some ⟨m,0,none⟩)] H (fun x H'=>∃a i r,gL G H m v H' {v with vf:=a} i store outs trace∧fj (Og G) i r∧lE r=ek l (k+aY s)++lE e∧i.length≤cM.length+1):=by
 have L:aY s≤bg s:=by
  obtain ⟨op,n,args,u,J⟩:=s;have:=(aP u).2;have:=(aP J).2;have:=a6 args;rw [aY,bg];omega
 refine (Lv h.wf h.get h.n0 h.fr h.d1.1 j h.sub (fun b q=>h.out b (q.elim .inl fun q=>.inr (.inl q))) B I w.toC (by omega) (by rw [d.length];omega) D (by omega)).mono ?_;rintro x H' ⟨a,g,⟨t,z,F,o⟩,M,kk⟩;have A:=gL.fr h M g o (fun b j=>.inl (kk b j));by_cases c:rs.length=0
 ·have C:l=[]:=arv (by rw [←d.length];exact c)
  rw [xJ,if_pos c]at A;exact ⟨a,cM,e,A,p,by rw [C];rfl,by omega⟩
 ·rw [xJ,if_neg c]at A
  exact ⟨a,_,e++[(l,k+aY s)],A,p.snoc ⟨t,rs,rfl,z,d,F,fun q=>c (by rw [d.length];simp at q;rw [q];rfl),y⟩,by rw [iV],by simp⟩
theorem oJ {vt:Value} {rt:List (List Value)} {b:List bE} {k:Int} {fs:List (List bE×Int)} (h:MH G H m v rows store outs trace) (l:Rows G 5 vt rt) (n:eo G rt b) (t:Fit G vt) (p:fj (Og G) rows fs) (u:rows.length≤2^40) (d:b.length≤2^30):
 Ca E O 105 [.pointer (some ⟨m,0,none⟩),vt,.int .i64 k] H (fun x H'=>∃e i r,gL G H m v H' {v with vf:=e} i store outs trace∧fj (Og G) i r∧lE r=ek b k++lE fs∧i.length≤rows.length+1):=by
 obtain ⟨a,c,j⟩:=l.len;rw [n.length]at j;subst j;refine (Ls h.wf h.get h.n0 h.fr h.d1.1 u).mono ?_;rintro x H' ⟨e,g,o,M,kk⟩;have A:=gL.fr h M g o kk;by_cases f:b.length=0
 ·have s:b=[]:=arv f
  rw [if_pos f]at A;exact ⟨e,rows,fs,A,p,by rw [s];rfl,by omega⟩
 ·rw [if_neg f]at A
  exact ⟨e,_,fs++[(b,k)],A,p.snoc ⟨_,rt,rfl,l,n,t,fun q=>f (by simp at q;rw [q];rfl),d⟩,by rw [iV],by simp⟩
theorem q7 {how n:Int} (h:MH G H m v rows store outs trace):
 Ca E O 107 [.pointer (some ⟨m,0,none⟩),.int .i64 how,.int .i64 n] H (fun x H'=>x= .bool false∧gL G H m v H' {v with en:=how,wh:=n,ended:=true} rows store outs trace):=by
 refine Ca.aV (F:=a107) rfl rfl rfl ?_;obtain ⟨j,e,b,_,_⟩:=h.cell (v':={v with ended:=true}) 13 (.bool true) (by omega) rfl rfl rfl rfl rfl;obtain ⟨i,d,a,_,_⟩:=b.mh.cell (v':={v with ended:=true,en:=how}) 6 (.int .i64 how) (by omega) rfl rfl rfl rfl rfl;obtain ⟨g,c,f,_,_⟩:=a.mh.cell (v':={v with ended:=true,en:=how,wh:=n}) 12 (.int .i64 n) (by omega) rfl rfl rfl rfl rfl;simp (maxSteps:=9^7)-implicitDefEqProofs+contextual [-X.ev,a107,e,d,c];exact b.trans (a.trans f)
end
def Mt (v:MV) (c:eZ):Prop:=v.en=c.en∧v.cost=c.cost∧v.used=(c.used:Int)∧v.wh=c.wh∧v.fuel=c.fuel∧v.ended=c.over
def Sm (v v':MV):Prop:=v'.w=v.w∧v'.vv=v.vv∧v'.vp=v.vp∧v'.vb=v.vb
structure JC (G H:AH) (m:Nat) (p:bw) (ps:List Int) (v:MV) (c:eZ) (cM:List (List Value)) (dS:List (List bE×Int)) (vl:Value) (cs:List Value) (rs:List (List Value)) (k:Int) (s:bE) (l:List bE):Prop where
 mh:MH G H m v (cM++[[vl,.int .i64 k]]) c.store c.outs c.trace
 hr:Rows G 5 vl (cs::rs)
 hf:Fit G vl
 hs:yZ G cs s
 hl:eo G rs l
 h0:fj (Og G) cM dS
 w:v.w=p.w
 vars:de G v.vv p.vars
 cap:GY v.vv
 bM:fT G v.vp ps
 head:aA p.w p.vars=true
 store:bK p.w p.vars c.store=true
 mt:Mt v c
 ov:c.over=false
 row:dY p.w p.vars s=true
 b1:cM.length≤2^30
 b2:0≤k∧k≤2^30
 b3:bg s≤2^20
 b4:l.length+1≤2^30
 b5:c.trace.length≤2^31
 b6:c.outs.length≤2^31
 b7:0≤c.cost∧c.cost≤2^50
 b8:c.used≤ps.length∧ps.length≤2^20
structure Did (G H:AH) (m:Nat) (p:bw) (ps:List Int) (v:MV) (H':AH) (n:Nat) (c':eZ):Prop where
 is:∃v' c8,gL G H m v H' v' c8 c'.store c'.outs c'.trace∧(c'.over=false→∃qu,fj (Og G) c8 qu∧c'.todo=lE qu)∧c8.length≤n+2∧Mt v' c'∧Sm v v'
def bu (p:bw) (c:eZ) (s:bE) (next:List vn):eZ:={c with todo:=next,cost:=c.cost+aq s.args,trace:=c.trace++eR p.w p.vars [c.store] s.args}
abbrev b9 (l:List bE) (k:Int) (s:bE) (dS:List (List bE×Int)):List vn:=ek l (k+aY s)++lE dS
section
variable{G H:AH} {m:Nat} {p:bw} {ps:List Int} {v:MV} {c:eZ} {cM rs:List (List Value)} {dS:List (List bE×Int)} {vl:Value} {cs:List Value} {k:Int} {s:bE} {l:List bE}
theorem gv {w:Int} {V:List Vr} {op n:Int} {args:List bV} {t u:List bE} (h:dY w V (.mk op n args t u)=true):
 (∀e∈args,cY w V 1 e=true∧av e≤400)∧fA w V t=true∧fA w V u=true∧
   ((op=0∧(0≤n∧n<V.length)∧((¬ 1<al V n∧∃a,args=[a])∨(1<al V n∧∃a b,args=[a,b])))∨(op=1∧∃a,args=[a])∨(op=2∧∃a,args=[a])∨(op=3∧∃a,args=[a])∨
    (op=4∧(0≤n∧n<V.length)∧((¬ 1<al V n∧args=[])∨(1<al V n∧∃a,args=[a])))∨((op=5∨op=6)∧∃a,args=[a])):=by
 rw [dY,aqX,aqX,aqX,ara]at h;obtain ⟨d,h2,z,y⟩:=h;refine ⟨fun e x=>?_,h2,z,?_⟩
 · have:=y e x
   simp only [fX,aqX,aq6]at this;exact ⟨this.2.2,this.1⟩
 unfold bW at d;by_cases r:op=0
 · rw [if_pos r]at d
   simp only [ll,aqX,aq6]at d;refine .inl ⟨r,⟨d.2.1,d.2.2.1⟩,?_⟩;by_cases f:1<al V n
   · have:=d.2.2.2;rw [if_pos f]at this
     exact .inr ⟨f,N1 (by omega)⟩
   · have:=d.2.2.2;rw [if_neg f]at this
     exact .inl ⟨f,arD.1 (by omega)⟩
 rw [if_neg r]at d;by_cases q:op=1
 · rw [if_pos q]at d;simp only [aqX,aq6]at d
   exact .inr (.inl ⟨q,arD.1 (by omega)⟩)
 rw [if_neg q]at d;by_cases o:op=2
 · rw [if_pos o]at d;simp only [aqX,aq6]at d
   exact .inr (.inr (.inl ⟨o,arD.1 (by omega)⟩))
 rw [if_neg o]at d;by_cases j:op=3
 · rw [if_pos j]at d;simp only [aqX,aq6]at d
   exact .inr (.inr (.inr (.inl ⟨j,arD.1 (by omega)⟩)))
 rw [if_neg j]at d;by_cases i:op=4
 · rw [if_pos i]at d
   simp only [ll,aqX,aq6]at d;refine .inr (.inr (.inr (.inr (.inl ⟨i,⟨d.2.1,d.2.2.1⟩,?_⟩))));by_cases f:1<al V n
   · have:=d.2.2.2;rw [if_pos f]at this
     exact .inr ⟨f,arD.1 (by omega)⟩
   · have:=d.2.2.2;rw [if_neg f]at this
     exact .inl ⟨f,arv (by omega)⟩
 rw [if_neg i]at d;by_cases g:op=5∨op=6
 · rw [if_pos g]at d;simp only [aqX,aq6]at d
   exact .inr (.inr (.inr (.inr (.inr ⟨g,arD.1 (by omega)⟩))))
 rw [if_neg g]at d;cases d
def Hh (how:Int):AF:=⟨3,21,[.tmp 6],.seq (.bG [o 4 (.box (.t 1)),o 6 (.mv (.k (.bool false)))]) (.seq (.seq (.bG [o 7 (.mv (.t 0)),o 8 (.fa 2 (.t 4)),o 9 (.ld (.t 8)),o 10 (.ia 4 (.t 9) (.k (.int .i64 0))),o 11 (.ldn 4 (.t 10)),o 12 (.call 142 [.t 7,.t 11]),o 13 (.bin .eql (.t 12) (.k (.int .i64 0)))]) (.cond (.t 13) (.seq (.bG [o 14 (.mv (.t 0)),o 15 (.mv (.t 2)),o 16 (.call 107 [.t 14,.k (.int .i64 how),.t 15]),o 6 (.mv (.t 16))]) .ret) .skip)) (.seq (.bG [o 17 (.mv (.t 0)),o 18 (.aW (.t 17)),o 19 (.fa 0 (.t 18)),o 20 (.call 143 [.t 19])]) (.seq (.bG [o 6 (.mv (.k (.bool true)))]) .ret)))⟩
def kv (G H:AH) (f:Nat) (m:Nat) (p:bw) (ps:List Int) (v:MV) (c:eZ) (n:Nat) (dS:List (List bE×Int)) (cs:List Value) (k:Int) (s:bE) (l:List bE):Prop:=
 ∀c',c'=kN p ps (bu p c s (b9 l k s dS)) k s (cL p.w p.vars [c.store] s.args) (b9 l k s dS)→
  Ca E O f [.pointer (some ⟨m,0,none⟩),.agg cs.toArray,.int .i64 k] H (fun x H'=>x= .bool (!c'.over)∧Did G H m p ps v H' n c')
theorem xL {f:Nat} {op n how:Int} {args:List bV} {a b:List bE} (Z:O f=none) (he:E f=some (Hh how)) (Y:(op=5∧how=1)∨(op=6∧how=2)) (h:JC G H m p ps v c cM dS vl cs rs k (.mk op n args a b) l):
 kv G H f m p ps v c cM.length dS cs k (.mk op n args a b) l:=by
 intro c' J;obtain ⟨aH,_,_,W⟩:=gv h.row
 obtain ⟨y,rfl⟩:∃y,args=[y]:=by
  rcases W with⟨q,_⟩|⟨q,_⟩|⟨q,_⟩|⟨q,_⟩|⟨q,_⟩|⟨_,q⟩
  ·omega
  ·omega
  ·omega
  ·omega
  ·omega
  ·exact q
 obtain ⟨y4,TE⟩:=aH y (by simp);have e0:fE (cL p.w p.vars [c.store] [y]) 0=bz p.w p.vars [c.store] y:=rfl
 have g:c'=if bz p.w p.vars [c.store] y=0 then eJ (bu p c (.mk op n [y] a b) (b9 l k (.mk op n [y] a b) dS)) how k else bu p c (.mk op n [y] a b) (b9 l k (.mk op n [y] a b) dS):=by
  rw [J,kN];rcases Y with⟨rfl,rfl⟩|⟨rfl,rfl⟩
  ·rw [if_neg (by omega),if_neg (by omega),if_neg (by omega),if_neg (by omega),if_neg (by omega),if_pos rfl];rfl
  ·rw [if_neg (by omega),if_neg (by omega),if_neg (by omega),if_neg (by omega),if_neg (by omega),if_neg (by omega)];rfl
 clear J;obtain ⟨S,D,C,R,B,Q⟩:=h.mt;have iC:=h.hs
 cases iC with| @mk _ _ va vt ve ra rt re _ _ _ i1 i2 i3 i4 i5 g1 g2 g3 g4 g5 g6 g7 g8=>
 refine Ca.aV (F:=Hh how) Z he rfl ?_;have e:=h.mh.wf;have j:=Ext.alloc H (.cells 5 [.int .i64 op,.int .i64 n,va,vt,ve]);have d0:(H.alloc (.cells 5 [.int .i64 op,.int .i64 n,va,vt,ve])).ld ⟨H.nx,0,none⟩=some (.int .i64 op):=aj e rfl;have d1:(H.alloc (.cells 5 [.int .i64 op,.int .i64 n,va,vt,ve])).ld ⟨H.nx,1,none⟩=some (.int .i64 n):=aj e rfl;have M:(H.alloc (.cells 5 [.int .i64 op,.int .i64 n,va,vt,ve])).ld ⟨H.nx,2,none⟩=some va:=aj e rfl;have d3:(H.alloc (.cells 5 [.int .i64 op,.int .i64 n,va,vt,ve])).ld ⟨H.nx,3,none⟩=some vt:=aj e rfl;have d4:(H.alloc (.cells 5 [.int .i64 op,.int .i64 n,va,vt,ve])).ld ⟨H.nx,4,none⟩=some ve:=aj e rfl;have d:(H.alloc (.cells 5 [.int .i64 op,.int .i64 n,va,vt,ve])).ldn ⟨H.nx,0,none⟩ 5=some [.int .i64 op,.int .i64 n,va,vt,ve]:=a7 e 5 rfl;generalize cz:H.alloc (.cells 5 [.int .i64 op,.int .i64 n,va,vt,ve])=H1 at j d0 d1 M d3 d4 d;have bo:=j.wf e;have K:=h.mh.ext j;obtain ⟨b4,o4,c4,vy,r,U,bC,V,lW⟩:=fU.row g1 g2 (i:=0) (y:=y) rfl;have u:=K.sub.ldn bC;simp only [Nat.zero_mul,Nat.add_zero]at u;rw [←V]at u;have L:=M;rw [U]at L;have b7:=h.b7;have b5:=h.b5;have t:=h.w;have I:=h.w.symm;have key:=jX K (by rw [t];exact h.head) (by rw [t];exact h.store) h.vars h.cap lW (by rw [t];exact y4) (by omega) (by rw [D];omega);have A1:=gL.lD h.mh j;have ev:eR p.w p.vars [c.store] [y]=nq p.w p.vars [c.store] y:=by simp [eR]
 have nl:aq [y]=av y:=by simp [aq]
 simp (maxSteps:=9^7)-implicitDefEqProofs+contextual [-X.ev,Hh,cz,L,u];apply ah
 ·(simp-implicitDefEqProofs [-X.ev];rfl)
 refine (key).mono ?_;rintro x H2 ⟨rfl,nN,h2,M2,T⟩;have o:=A1.trans (gL.tr (v:=v) h2 M2 T);rw [I]at g;have P:v.cost+av y=(bu p c (.mk op n [y] a b) (b9 l k (.mk op n [y] a b) dS)).cost:=by rw [D,bu];show _=c.cost+aq [y];rw [nl]
 have N:c.trace++nq v.w p.vars [c.store] y=(bu p c (.mk op n [y] a b) (b9 l k (.mk op n [y] a b) dS)).trace:=by rw [bu];show _=c.trace++eR p.w p.vars [c.store] [y];rw [ev,I]
 by_cases q:bz v.w p.vars [c.store] y=0
 ·rw [if_pos q]at g
  subst g;simp (maxSteps:=9^7)-implicitDefEqProofs+contextual [-X.ev,q];apply ah
  ·(simp-implicitDefEqProofs [-X.ev];rfl)
  refine (q7 (how:=how) (n:=k) o.mh).mono ?_;rintro x H3 ⟨rfl,z⟩;simp (maxSteps:=9^7)-implicitDefEqProofs+contextual [-X.ev,eJ];have A:=o.trans z;rw [P,N]at A;exact ⟨_,_,A,fun q=>by simp at q,by simp,⟨rfl,rfl,C,rfl,B,rfl⟩,rfl,rfl,rfl,rfl⟩
 ·rw [if_neg q]at g
  subst g;simp (maxSteps:=9^7)-implicitDefEqProofs+contextual [-X.ev,q];apply ah
  ·(simp-implicitDefEqProofs [-X.ev];rfl)
  refine (gM o.mh h.hr h.hf h.hs h.hl h.h0 (by have:=h.b1;omega) (by have:=h.b3;omega) (by have:=h.b4;omega) (by have:=h.b2;omega)).mono ?_;rintro x H3 ⟨mP,c8,qu,z,ha,fh,uW⟩;have A:=o.trans z;rw [P,N]at A;simp (maxSteps:=9^7)-implicitDefEqProofs+contextual [-X.ev,bu,h.ov];exact ⟨_,_,A,fun _=>⟨qu,ha,fh.symm⟩,by omega,⟨S,rfl,C,R,B,Q.trans h.ov⟩,rfl,rfl,rfl,rfl⟩
end
end
section
open Go
section
variable{G H:AH} {m:Nat} {p:bw} {ps:List Int} {v:MV} {c:eZ} {cM rs:List (List Value)} {dS:List (List bE×Int)} {vl:Value} {cs:List Value} {k:Int} {s:bE} {l:List bE}
theorem gL.ou {H':AH} {rows:List (List Value)} {store:List Int} {outs a:List (Int×Int)} {trace:List Ev} {vo:Value} (h:MH G H m v rows store outs trace) (M:Mod (fun b=>b=m∨aS v.vo b) H H') (f:MH G H' m {v with vo:=vo} rows store a trace) (d:∀b,aS vo b→aS v.vo b∨H.nx≤b):gL G H m v H' {v with vo:=vo} rows store a trace where
 mh:=f
 mod:=M.mono fun b _ q=>q.elim .inl fun q=>.inr (.inr (.inr (.inl q)))
 new:=fun b e=>by
  rcases e with q|q|q|q|q
  ·exact .inl (.inl q)
  ·exact .inl (.inr (.inl q))
  ·exact .inl (.inr (.inr (.inl q)))
  ·exact (d b q).imp (fun q=>.inr (.inr (.inr (.inl q)))) id
  ·exact .inl (.inr (.inr (.inr (.inr q))))
theorem Hi {n:Int} {args:List bV} {a b:List bE} (h:JC G H m p ps v c cM dS vl cs rs k (.mk 5 n args a b) l):
 kv G H 113 m p ps v c cM.length dS cs k (.mk 5 n args a b) l:=xL (how:=1) rfl rfl (.inl ⟨rfl,rfl⟩) h
theorem Hj {n:Int} {args:List bV} {a b:List bE} (h:JC G H m p ps v c cM dS vl cs rs k (.mk 6 n args a b) l):
 kv G H 114 m p ps v c cM.length dS cs k (.mk 6 n args a b) l:=xL (how:=2) rfl rfl (.inr ⟨rfl,rfl⟩) h
theorem QW {w:Int} {V:List Vr} {op n:Int} {args:List bV} {a e:List bE} (h:dY w V (.mk op n args a e)=true) (f:op=1∨op=2∨op=3):∃y,args=[y]∧cY w V 1 y=true∧av y≤400:=by
 obtain ⟨d,_,_,b⟩:=gv h
 obtain ⟨y,rfl⟩:∃y,args=[y]:=by
  rcases b with⟨q,_⟩|⟨_,q⟩|⟨_,q⟩|⟨_,q⟩|⟨q,_⟩|⟨q,_⟩
  ·omega
  ·exact q
  ·exact q
  ·exact q
  ·omega
  ·omega
 exact ⟨y,rfl,d y (by simp)⟩
theorem DM {n:Int} {args:List bV} {aB b:List bE} (h:JC G H m p ps v c cM dS vl cs rs k (.mk 1 n args aB b) l):
 kv G H 109 m p ps v c cM.length dS cs k (.mk 1 n args aB b) l:=by
 intro c' kO;obtain ⟨y,rfl,y4,TE⟩:=QW h.row (by omega)
 have i:c'={bu p c (.mk 1 n [y] aB b) (b9 l k (.mk 1 n [y] aB b) dS)with trace:=(bu p c (.mk 1 n [y] aB b) (b9 l k (.mk 1 n [y] aB b) dS)).trace++[⟨0,k,if bz p.w p.vars [c.store] y=0 then 0 else 1⟩],todo:=(if bz p.w p.vars [c.store] y=0 then ek b (k+1+aC aB)else ek aB (k+1))++b9 l k (.mk 1 n [y] aB b) dS}:=by
  rw [kO,kN,if_neg (by omega),if_pos rfl];rfl
 clear kO;obtain ⟨Z,Y,W,V,U,T⟩:=h.mt;have iC:=h.hs
 cases iC with| @mk _ _ va vt ve ra rt re _ _ _ i1 i2 i3 i4 i5 g1 g2 g3 g4 g5 g6 g7 g8=>
 refine Ca.aV (F:=a109) rfl rfl rfl ?_;have f:=h.mh.wf;have u:=Ext.alloc H (.cells 5 [.int .i64 1,.int .i64 n,va,vt,ve]);have d0:(H.alloc (.cells 5 [.int .i64 1,.int .i64 n,va,vt,ve])).ld ⟨H.nx,0,none⟩=some (.int .i64 1):=aj f rfl;have d1:(H.alloc (.cells 5 [.int .i64 1,.int .i64 n,va,vt,ve])).ld ⟨H.nx,1,none⟩=some (.int .i64 n):=aj f rfl;have d2:(H.alloc (.cells 5 [.int .i64 1,.int .i64 n,va,vt,ve])).ld ⟨H.nx,2,none⟩=some va:=aj f rfl;have d3:(H.alloc (.cells 5 [.int .i64 1,.int .i64 n,va,vt,ve])).ld ⟨H.nx,3,none⟩=some vt:=aj f rfl;have d4:(H.alloc (.cells 5 [.int .i64 1,.int .i64 n,va,vt,ve])).ld ⟨H.nx,4,none⟩=some ve:=aj f rfl;have d:(H.alloc (.cells 5 [.int .i64 1,.int .i64 n,va,vt,ve])).ldn ⟨H.nx,0,none⟩ 5=some [.int .i64 1,.int .i64 n,va,vt,ve]:=a7 f 5 rfl;generalize cz:H.alloc (.cells 5 [.int .i64 1,.int .i64 n,va,vt,ve])=H1 at u d0 d1 d2 d3 d4 d;have bo:=u.wf f;have h1:=h.mh.ext u;have b7:=h.b7;have b5:=h.b5;have b1:=h.b1;have b2:=h.b2;have b3:=h.b3;rw [bg]at b3;have b4:=h.b4;have pa:=a6 [y];have bt:=aP aB;have lt1:=eI aB;have pr:=eI b;have be:=aP b;have E:=h.w;have nc:=h.w.symm;have key:=sI (op:=1) (n:=n) (vt:=vt) (ve:=ve) (k:=k) h1 (by rw [E];exact h.head) (by rw [E];exact h.store) h.vars h.cap g1 g2 (y:=y) rfl (by rw [E];exact y4) (by omega) (by rw [Y];omega);have A1:=gL.lD h.mh u;have ev:eR p.w p.vars [c.store] [y]=nq p.w p.vars [c.store] y:=by simp [eR]
 have nl:aq [y]=av y:=by simp [aq]
 rw [nc]at i;have cc:v.cost+av y=(bu p c (.mk 1 n [y] aB b) (b9 l k (.mk 1 n [y] aB b) dS)).cost:=by rw [Y,bu];show _=c.cost+aq [y];rw [nl]
 have ct:c.trace++nq v.w p.vars [c.store] y=(bu p c (.mk 1 n [y] aB b) (b9 l k (.mk 1 n [y] aB b) dS)).trace:=by rw [bu];show _=c.trace++eR p.w p.vars [c.store] [y];rw [ev,nc]
 rw [cc,ct]at key;simp (maxSteps:=9^7)-implicitDefEqProofs+contextual [-X.ev,a109,cz,d];apply ah
 ·(simp-implicitDefEqProofs [-X.ev];rfl)
 refine (key).mono ?_;rintro x H2 ⟨rfl,nN,S⟩;have dd:=S.mod.ldn (a:=⟨H.nx,0,none⟩) (fun q=>by have:=h.mh.lt q;simp at this) d;simp (maxSteps:=9^7)-implicitDefEqProofs+contextual [-X.ev];apply ah
 ·(simp-implicitDefEqProofs [-X.ev];rfl)
 refine (gM S.mh h.hr h.hf h.hs h.hl h.h0 (by omega) (by rw [bg];omega) (by omega) (by omega)).mono ?_;rintro x H3 ⟨mP,c8,qu,g,ha,fh,uW⟩;have t:=S.trans g;have o:=t.mod.ldn (a:=⟨H.nx,0,none⟩) (fun q=>by have:=h.mh.lt q;simp at this) d;have O:=aJ o (j:=3) rfl;have N:=aJ o (j:=4) rfl;by_cases q:bz v.w p.vars [c.store] y=0
 ·rw [if_pos q,if_pos q]at i
  have C:IntKind.i64.wrap (k+1)=k+1:=ai ⟨by omega,by omega⟩;have e3n:=bf.1 O;have Tg:=bf.1 N;simp only [q,if_true]at g t;have K:=g.mh;simp (maxSteps:=9^7)-implicitDefEqProofs+contextual [-X.ev,q,C,O,N];apply ah
  ·(simp-implicitDefEqProofs [-X.ev];rfl)
  refine (DK K.wf (g3.sub K.sub) (gE.sub K.sub g4.V4) (by omega) (by omega)).mono ?_;rintro x H4 ⟨rfl,r⟩;have z:=r.nx;have B:=r.n0;have M:=r.ldn Tg;have D:cU ve ve=true:=by obtain ⟨a,c,e⟩:=g6.len;rw [e];simp
  have w2:IntKind.i64.wrap (k+1+aC aB)=k+1+aC aB:=ai ⟨by omega,by omega⟩;have R:=g.ext r;simp (maxSteps:=9^7)-implicitDefEqProofs+contextual [-X.ev,w2];apply ah
  ·(simp-implicitDefEqProofs [-X.ev];rfl)
  refine (oJ (k:=k+1+aC aB) R.mh g6 g7 g8 ha (by omega) (by omega)).mono ?_;rintro x H5 ⟨WE,Hk,L,P,J,I,QX⟩;have A:=A1.trans ((t.ext r).trans P);have Oc:=P.mod.nx;have JB:=P.mod.n0;simp (maxSteps:=9^7)-implicitDefEqProofs+contextual [-X.ev,bh,aL,aM,z,B,Oc,JB,Tg,M,D];subst i;refine ⟨?_,_,_,A,fun _=>⟨L,J,?_⟩,by omega,⟨Z,rfl,W,V,U,T⟩,rfl,rfl,rfl,rfl⟩
  ·exact h.ov
  ·rw [I,fh]
 ·rw [if_neg q,if_neg q]at i
  have C:IntKind.i64.wrap (k+1)=k+1:=ai ⟨by omega,by omega⟩;simp only [q,if_false]at g t;simp (maxSteps:=9^7)-implicitDefEqProofs+contextual [-X.ev,q,C,O,N];apply ah
  ·(simp-implicitDefEqProofs [-X.ev];rfl)
  refine (oJ (k:=k+1) g.mh g3 g4 g5 ha (by omega) (by omega)).mono ?_;rintro x H4 ⟨WE,Hk,L,Q,J,I,QX⟩;have A:=A1.trans (t.trans Q);have B:=Q.mod.n0;have z:=Q.mod.nx;simp (maxSteps:=9^7)-implicitDefEqProofs+contextual [-X.ev,bh,aL,aM,B,z];subst i;refine ⟨?_,_,_,A,fun _=>⟨L,J,?_⟩,by omega,⟨Z,rfl,W,V,U,T⟩,rfl,rfl,rfl,rfl⟩
  ·exact h.ov
  ·rw [I,fh]
theorem Lz {n:Int} {args:List bV} {b e:List bE} (h:JC G H m p ps v c cM dS vl cs rs k (.mk 2 n args b e) l):
 kv G H 110 m p ps v c cM.length dS cs k (.mk 2 n args b e) l:=by
 intro c' J;obtain ⟨y,rfl,Q,TE⟩:=QW h.row (by omega)
 have i:c'={bu p c (.mk 2 n [y] b e) (b9 l k (.mk 2 n [y] b e) dS)with trace:=(bu p c (.mk 2 n [y] b e) (b9 l k (.mk 2 n [y] b e) dS)).trace++[⟨0,k,if bz p.w p.vars [c.store] y=0 then 0 else 1⟩],todo:=if bz p.w p.vars [c.store] y=0 then b9 l k (.mk 2 n [y] b e) dS else ek b (k+1)++(k,.mk 2 n [y] b e)::b9 l k (.mk 2 n [y] b e) dS}:=by
  rw [J,kN,if_neg (by omega),if_neg (by omega),if_pos rfl];rfl
 clear J;obtain ⟨E,D,C,B,z,u⟩:=h.mt;have U:=h.hs
 cases U with| @mk _ _ va vt ve ra rt re _ _ _ i1 i2 i3 i4 i5 g1 g2 g3 g4 g5 g6 g7 g8=>
 refine Ca.aV (F:=Kg) rfl rfl rfl ?_;have f:=h.mh.wf;have o:=Ext.alloc H (.cells 5 [.int .i64 2,.int .i64 n,va,vt,ve]);have d0:(H.alloc (.cells 5 [.int .i64 2,.int .i64 n,va,vt,ve])).ld ⟨H.nx,0,none⟩=some (.int .i64 2):=aj f rfl;have d1:(H.alloc (.cells 5 [.int .i64 2,.int .i64 n,va,vt,ve])).ld ⟨H.nx,1,none⟩=some (.int .i64 n):=aj f rfl;have d2:(H.alloc (.cells 5 [.int .i64 2,.int .i64 n,va,vt,ve])).ld ⟨H.nx,2,none⟩=some va:=aj f rfl;have d3:(H.alloc (.cells 5 [.int .i64 2,.int .i64 n,va,vt,ve])).ld ⟨H.nx,3,none⟩=some vt:=aj f rfl;have d4:(H.alloc (.cells 5 [.int .i64 2,.int .i64 n,va,vt,ve])).ld ⟨H.nx,4,none⟩=some ve:=aj f rfl;have d:(H.alloc (.cells 5 [.int .i64 2,.int .i64 n,va,vt,ve])).ldn ⟨H.nx,0,none⟩ 5=some [.int .i64 2,.int .i64 n,va,vt,ve]:=a7 f 5 rfl;generalize Y:H.alloc (.cells 5 [.int .i64 2,.int .i64 n,va,vt,ve])=H1 at o d0 d1 d2 d3 d4 d;have bo:=o.wf f;have Z:=h.mh.ext o;have b7:=h.b7;have b5:=h.b5;have b1:=h.b1;have b2:=h.b2;have b3:=h.b3;rw [bg]at b3;have b4:=h.b4;have pa:=a6 [y];have bt:=aP b;have O:=eI b;have pr:=eI e;have be:=aP e;have r:=h.w;have I:=h.w.symm;have key:=sI (op:=2) (n:=n) (vt:=vt) (ve:=ve) (k:=k) Z (by rw [r];exact h.head) (by rw [r];exact h.store) h.vars h.cap g1 g2 (y:=y) rfl (by rw [r];exact Q) (by omega) (by rw [D];omega);have K:=gL.lD h.mh o;have ev:eR p.w p.vars [c.store] [y]=nq p.w p.vars [c.store] y:=by simp [eR]
 have nl:aq [y]=av y:=by simp [aq]
 rw [I]at i;have cc:v.cost+av y=(bu p c (.mk 2 n [y] b e) (b9 l k (.mk 2 n [y] b e) dS)).cost:=by rw [D,bu];show _=c.cost+aq [y];rw [nl]
 have ct:c.trace++nq v.w p.vars [c.store] y=(bu p c (.mk 2 n [y] b e) (b9 l k (.mk 2 n [y] b e) dS)).trace:=by rw [bu];show _=c.trace++eR p.w p.vars [c.store] [y];rw [ev,I]
 rw [cc,ct]at key;simp (maxSteps:=9^7)-implicitDefEqProofs+contextual [-X.ev,Kg,Y,d];apply ah
 ·(simp-implicitDefEqProofs [-X.ev];rfl)
 refine (key).mono ?_;rintro x H2 ⟨rfl,nN,g⟩;have dd:=g.mod.ldn (a:=⟨H.nx,0,none⟩) (fun q=>by have:=h.mh.lt q;simp at this) d;have e3:=aJ dd (j:=3) rfl;by_cases q:bz v.w p.vars [c.store] y=0
 ·rw [if_pos q,if_pos q]at i
  simp only [q,if_true]at g;simp (maxSteps:=9^7)-implicitDefEqProofs+contextual [-X.ev,q];apply ah
  ·(simp-implicitDefEqProofs [-X.ev];rfl)
  refine (gM g.mh h.hr h.hf h.hs h.hl h.h0 (by omega) (by rw [bg];omega) (by omega) (by omega)).mono ?_;rintro x H3 ⟨mP,c8,qu,A3,W,T,uW⟩;have A:=K.trans (g.trans A3);simp (maxSteps:=9^7)-implicitDefEqProofs+contextual [-X.ev];subst i;refine ⟨?_,_,_,A,fun _=>⟨qu,W,?_⟩,by omega,⟨E,rfl,C,B,z,u⟩,rfl,rfl,rfl,rfl⟩
  ·exact h.ov
  ·exact T.symm
 ·rw [if_neg q,if_neg q]at i
  have N:IntKind.i64.wrap (k+1)=k+1:=ai ⟨by omega,by omega⟩;simp only [q,if_false]at g;have R:fj (Og G) (cM++[[vl,.int .i64 k]]) (dS++[(.mk 2 n [y] b e::l,k)]):=h.h0.snoc ⟨vl,_,rfl,h.hr,.cons h.hs h.hl,h.hf,by simp,by simpa using b4⟩;simp (maxSteps:=9^7)-implicitDefEqProofs+contextual [-X.ev,q,N,e3];apply ah
  ·(simp-implicitDefEqProofs [-X.ev];rfl)
  refine (oJ (k:=k+1) g.mh g3 g4 g5 R (by simp;omega) (by omega)).mono ?_;rintro x H4 ⟨WE,Hk,Hl,t,V,S,P⟩;have A:=K.trans (g.trans t);have M:=t.mod.n0;have L:=t.mod.nx;simp (maxSteps:=9^7)-implicitDefEqProofs+contextual [-X.ev,bh,aL,aM,M,L];subst i;simp at P;refine ⟨?_,_,_,A,fun _=>⟨Hl,V,?_⟩,by omega,⟨E,rfl,C,B,z,u⟩,rfl,rfl,rfl,rfl⟩
  ·exact h.ov
  ·rw [S,iV,ku];simp
theorem LA {n:Int} {args:List bV} {e f:List bE} (h:JC G H m p ps v c cM dS vl cs rs k (.mk 3 n args e f) l):
 kv G H 111 m p ps v c cM.length dS cs k (.mk 3 n args e f) l:=by
 intro c' kO;obtain ⟨y,rfl,y4,TE⟩:=QW h.row (by omega)
 have fF:c'={bu p c (.mk 3 n [y] e f) (b9 l k (.mk 3 n [y] e f) dS)with outs:=c.outs++[(n,bz p.w p.vars [c.store] y)]}:=by
  rw [kO,kN,if_neg (by omega),if_neg (by omega),if_neg (by omega),if_pos rfl];rfl
 clear kO;obtain ⟨m1,m2,m3,m4,m5,m6⟩:=h.mt;have iC:=h.hs
 cases iC with| @mk _ _ va vt ve ra rt re _ _ _ i1 i2 i3 i4 i5 g1 g2 g3 g4 g5 g6 g7 g8=>
 refine Ca.aV (F:=Kh) rfl rfl rfl ?_;have g:=h.mh.wf;have B:=Ext.alloc H (.cells 5 [.int .i64 3,.int .i64 n,va,vt,ve]);have d0:(H.alloc (.cells 5 [.int .i64 3,.int .i64 n,va,vt,ve])).ld ⟨H.nx,0,none⟩=some (.int .i64 3):=aj g rfl;have W:(H.alloc (.cells 5 [.int .i64 3,.int .i64 n,va,vt,ve])).ld ⟨H.nx,1,none⟩=some (.int .i64 n):=aj g rfl;have d2:(H.alloc (.cells 5 [.int .i64 3,.int .i64 n,va,vt,ve])).ld ⟨H.nx,2,none⟩=some va:=aj g rfl;have d3:(H.alloc (.cells 5 [.int .i64 3,.int .i64 n,va,vt,ve])).ld ⟨H.nx,3,none⟩=some vt:=aj g rfl;have d4:(H.alloc (.cells 5 [.int .i64 3,.int .i64 n,va,vt,ve])).ld ⟨H.nx,4,none⟩=some ve:=aj g rfl;have d:(H.alloc (.cells 5 [.int .i64 3,.int .i64 n,va,vt,ve])).ldn ⟨H.nx,0,none⟩ 5=some [.int .i64 3,.int .i64 n,va,vt,ve]:=a7 g 5 rfl;generalize cz:H.alloc (.cells 5 [.int .i64 3,.int .i64 n,va,vt,ve])=H1 at B d0 W d2 d3 d4 d;have bo:=B.wf g;have u:=h.mh.ext B;have b7:=h.b7;have b5:=h.b5;have b6:=h.b6;have b1:=h.b1;have b2:=h.b2;have b3:=h.b3;have b4:=h.b4;have P:=h.w;have nc:=h.w.symm;obtain ⟨b4',o4,c4,vy,r,fW,bC,y3,lW⟩:=fU.row g1 g2 (i:=0) (y:=y) rfl;have Q:=u.sub.ldn bC;simp only [Nat.zero_mul,Nat.add_zero]at Q;rw [←y3]at Q;have Dv:=d2;rw [fW]at Dv;have key:=jX u (by rw [P];exact h.head) (by rw [P];exact h.store) h.vars h.cap lW (by rw [P];exact y4) (by omega) (by rw [m2];omega);have A1:=gL.lD h.mh B;have ev:eR p.w p.vars [c.store] [y]=nq p.w p.vars [c.store] y:=by simp [eR]
 have nl:aq [y]=av y:=by simp [aq]
 rw [nc]at fF;have cc:v.cost+av y=(bu p c (.mk 3 n [y] e f) (b9 l k (.mk 3 n [y] e f) dS)).cost:=by rw [m2,bu];show _=c.cost+aq [y];rw [nl]
 have ct:c.trace++nq v.w p.vars [c.store] y=(bu p c (.mk 3 n [y] e f) (b9 l k (.mk 3 n [y] e f) dS)).trace:=by rw [bu];show _=c.trace++eR p.w p.vars [c.store] [y];rw [ev,nc]
 rw [cc,ct]at key;have Z:=aG u.get u.n0 (k:=8) (v:=v.vo) rfl;obtain ⟨oa,oc,yR⟩:=h.mh.ou.shape;simp (maxSteps:=9^7)-implicitDefEqProofs+contextual [-X.ev,Kh,cz,W,Dv,Q,Z];apply ah
 ·(simp-implicitDefEqProofs [-X.ev];rfl)
 refine (key).mono ?_;rintro x D ⟨rfl,nN,h2,C,k2⟩;have A2:=A1.trans (gL.tr (v:=v) h2 C k2);have E:=C.nx;have WH:=C.n0;have L:=aG h2.get h2.n0 (k:=8) (v:=v.vo) rfl;have J:=bf.1 Z;have K:=bf.1 L
 have dd:=C.ldn (a:=⟨H.nx,0,none⟩) (fun q=>by
  rcases q with q|q
  ·have:=h.mh.lt (.inl rfl);simp at q;omega
  ·have:=h.mh.tr.lt q;simp at this) d
 have V:=bf.1 W;have U:=bf.1 (aJ dd (j:=1) rfl);have R:=xD (sz:=2) (z:=[.int .i64 0,.int .i64 0]) (H:=D) (v:=.agg #[.int .i64 n,.int .i64 (bz v.w p.vars [c.store] y)]) rfl rfl rfl;simp only [gh]at R;have X3:=Ext.alloc D (.cells 2 [.int .i64 n,.int .i64 (bz v.w p.vars [c.store] y)])
 obtain ⟨H3,Lw⟩:∃H3,D.alloc (.cells 2 [.int .i64 n,.int .i64 (bz v.w p.vars [c.store] y)])=H3:=⟨_,rfl⟩
 obtain ⟨s',H4,ha,o,M4,N,nm,yW,wf4,l7,qZ,M⟩:=jT (bytes:=16) h2.wf h2.ou (r:=[.int .i64 n,.int .i64 (bz v.w p.vars [c.store] y)]) rfl Lw (by rw [iS];omega) (by rw [iS];omega);rw [Lw]at R X3;obtain ⟨a,Y,hs⟩:=o.shape;rw [aq3,List.length_singleton,iS]at hs;subst hs;have T:=M4.get h2.d1.2.2.1 h2.get;obtain ⟨H5,s5,M5,NY,xB,S⟩:=bH T (by rw [nm];exact h2.n0) (k:=8) (vs:=[.slice a (c.outs.length+1) Y]) (by simp)
 have o5:dE H5 2 (.slice a (c.outs.length+1) Y) (cQ (c.outs++[(n,bz v.w p.vars [c.store] y)])):=by
  rw [sA];exact o.mod M5 fun b t q=>by have:=N b t;have:=h2.lt (.inl rfl);omega
 have NZ:Mod (fun b=>b=m∨aS v.vo b) D H5:=(M4.mono fun x _ O=>.inr O).trans (M5.mono fun x _ O=>.inl O);have h5:=h2.Wy (vo:=.slice a (c.outs.length+1) Y) NZ S o5 (fun b t=>.inr (N b t));have A5:=gL.ou h2 NZ h5 (fun b t=>.inr (N b t));have I:cU v.vo v.vo=true:=by rw [yR];simp
 have tF:eD [.int .i64 0,.int .i64 0] [(0,1,.int .i64 n),(1,1,.int .i64 (bz v.w p.vars [c.store] y))]=some (.agg #[.int .i64 n,.int .i64 (bz v.w p.vars [c.store] y)]):=rfl;simp (maxSteps:=9^7)-implicitDefEqProofs+contextual [-X.ev,tF,R,ha,s5,E,WH,J,K,V,U,I,l7,nm,xB,qZ,M,NY,bh,aL,aM];apply ah
 ·(simp-implicitDefEqProofs [-X.ev];rfl)
 refine (gM A5.mh h.hr h.hf h.hs h.hl h.h0 (by omega) (by omega) (by omega) (by omega)).mono ?_;rintro x H6 ⟨mP,c8,qu,A6,V3,fh,uW⟩;have A:=A2.trans (A5.trans A6);simp (maxSteps:=9^7)-implicitDefEqProofs+contextual [-X.ev];subst fF;refine ⟨?_,_,_,A,fun _=>⟨qu,V3,?_⟩,by omega,⟨m1,rfl,m3,m4,m5,m6⟩,rfl,rfl,rfl,rfl⟩
 ·exact h.ov
 ·exact fh.symm
end
end
section
open Go
section
variable{G H:AH} {m:Nat} {p:bw} {ps:List Int} {v:MV} {c:eZ} {cM rs:List (List Value)} {dS:List (List bE×Int)} {vl:Value} {cs:List Value} {k:Int} {s:bE} {l:List bE}
theorem LB {n:Int} {args:List bV} {f g:List bE} (h:JC G H m p ps v c cM dS vl cs rs k (.mk 0 n args f g) l):
 kv G H 108 m p ps v c cM.length dS cs k (.mk 0 n args f g) l:=by
 intro c' kO;rw [kN,if_pos rfl]at kO;obtain ⟨Q,_,_,DL⟩:=gv h.row;obtain ⟨m1,E,m3,m4,m5,m6⟩:=h.mt;have iC:=h.hs
 cases iC with| @mk _ _ va vt ve ra rt re _ _ _ i1 i2 i3 i4 i5 g1 g2 g3 g4 g5 g6 g7 g8=>
 refine Ca.aV (F:=FY) rfl rfl rfl ?_;have u:=h.mh.wf;have T:=Ext.alloc H (.cells 5 [.int .i64 0,.int .i64 n,va,vt,ve]);have d0:(H.alloc (.cells 5 [.int .i64 0,.int .i64 n,va,vt,ve])).ld ⟨H.nx,0,none⟩=some (.int .i64 0):=aj u rfl;have d1:(H.alloc (.cells 5 [.int .i64 0,.int .i64 n,va,vt,ve])).ld ⟨H.nx,1,none⟩=some (.int .i64 n):=aj u rfl;have d2:(H.alloc (.cells 5 [.int .i64 0,.int .i64 n,va,vt,ve])).ld ⟨H.nx,2,none⟩=some va:=aj u rfl;have d3:(H.alloc (.cells 5 [.int .i64 0,.int .i64 n,va,vt,ve])).ld ⟨H.nx,3,none⟩=some vt:=aj u rfl;have d4:(H.alloc (.cells 5 [.int .i64 0,.int .i64 n,va,vt,ve])).ld ⟨H.nx,4,none⟩=some ve:=aj u rfl;have d:(H.alloc (.cells 5 [.int .i64 0,.int .i64 n,va,vt,ve])).ldn ⟨H.nx,0,none⟩ 5=some [.int .i64 0,.int .i64 n,va,vt,ve]:=a7 u 5 rfl;generalize cz:H.alloc (.cells 5 [.int .i64 0,.int .i64 n,va,vt,ve])=H1 at T d0 d1 d2 d3 d4 d;have bo:=T.wf u;have R:=h.mh.ext T;have b7:=h.b7;have b5:=h.b5;have b6:=h.b6;have b1:=h.b1;have b2:=h.b2;have b3:=h.b3;have b4:=h.b4;have b8:=h.b8;have xM:=h.w;have D:=h.w.symm;have o:=h.head;have C:=h.store;rw [D]at o C;have A1:=gL.lD h.mh T
 have fD:1≤v.w∧v.w≤8:=⟨(aF o).1,(aF o).2.1⟩
 have hp:=jo fD;have EN:GS v.w p.vars [c.store]:=fun t ht=>by simp at ht;subst ht;exact C
 have out:∀b,(b=m∨aS v.vt b)→b≠H.nx:=fun b hb e=>by
  subst e;rcases hb with q|q
  ·have:=h.mh.lt (.inl q);omega
  ·have:=h.mh.tr.lt q;omega
 rw [D]at Q;have nb:¬ Mf m v H.nx:=fun q=>by have:=h.mh.lt q;omega
 have w0:IntKind.i64.wrap 0=0:=rfl;have WJ:IntKind.i64.wrap 1=1:=rfl
 obtain ⟨P,hY⟩:(0≤n∧n<p.vars.length)∧((¬ 1<al p.vars n∧∃a,args=[a])∨(1<al p.vars n∧∃a b,args=[a,b])):=by
  rcases DL with⟨_,q⟩|⟨q,_⟩|⟨q,_⟩|⟨q,_⟩|⟨q,_⟩|⟨q,_⟩
  ·exact q
  ·omega
  ·omega
  ·omega
  ·omega
  ·omega
 rcases hY with⟨K,y,rfl⟩|⟨K,z,y,rfl⟩
 ·obtain ⟨J,TE⟩:=Q y (by simp)
  have TC:=iQ o EN y J;obtain ⟨b4',o4,c4,vy,r,fW,B,y3,lW⟩:=fU.row g1 g2 (i:=0) (y:=y) rfl;simp only [Nat.zero_mul,Nat.add_zero]at B;rw [←y3]at B;simp (maxSteps:=9^7)-implicitDefEqProofs+contextual [-X.ev,FY,cz,d];apply ah
  ·(simp-implicitDefEqProofs [-X.ev];rfl)
  refine (BG (op:=0) (n:=n) (va:=va) (vt:=vt) (ve:=ve) R h.vars P K).mono ?_;rintro x H2 ⟨rfl,X2⟩;have h2:=R.ext X2;have xi:=h2.sub.ldn B;have L:=aJ (X2.ldn d) (j:=2) rfl;rw [fW]at L;have U:=gL.lD R X2;have u2:=eS (w:=v.w) (V:=p.vars) (S:=[c.store]) y;simp (maxSteps:=9^7)-implicitDefEqProofs+contextual [-X.ev,L,xi,w0];apply ah
  ·(simp-implicitDefEqProofs [-X.ev];rfl)
  refine (jX h2 o C h.vars h.cap lW J (by omega) (by rw [E];omega)).mono ?_;rintro x H3 ⟨rfl,nN,h3,M3,k3⟩;have N:=U.trans (gL.tr (v:=v) h3 M3 k3);simp (maxSteps:=9^7)-implicitDefEqProofs+contextual [-X.ev];apply ah
  ·(simp-implicitDefEqProofs [-X.ev];rfl)
  refine (gM N.mh h.hr h.hf h.hs h.hl h.h0 (by omega) (by omega) (by omega) (by omega)).mono ?_;rintro x H4 ⟨mP,Y,qu,O,ha,fh,uW⟩;have M:=N.trans O;have e1:=aJ (M.mod.ldn (a:=⟨H.nx,0,none⟩) nb d) (j:=1) rfl;simp (maxSteps:=9^7)-implicitDefEqProofs+contextual [-X.ev,e1];apply ah
  ·(simp-implicitDefEqProofs [-X.ev];rfl)
  refine (mg (n:=n) (i:=0) (a:=bz v.w p.vars [c.store] y) O.mh o C h.vars h.cap P (by omega) (by simp only [aq3];omega)).mono ?_;rintro x H5 ⟨QY,h5,M5,Z⟩;have B5:=M.trans (gL.trW h5 M5 Z);have A:=A1.trans B5;simp (maxSteps:=9^7)-implicitDefEqProofs+contextual [-X.ev]
  have fF:c'=iU p.vars (bu p c (.mk 0 n [y] f g) (b9 l k (.mk 0 n [y] f g) dS)) n 0 (bz v.w p.vars [c.store] y):=by
   rw [kO,if_neg K];show iU _ _ _ _ (bz p.w p.vars [c.store] y)=_;rw [D]
  subst fF;have fy:(iU p.vars (bu p c (.mk 0 n [y] f g) (b9 l k (.mk 0 n [y] f g) dS)) n 0 (bz v.w p.vars [c.store] y)).store=c.store.set (bT p.vars n+0%al p.vars n).toNat (bz v.w p.vars [c.store] y):=rfl
  have BI:(iU p.vars (bu p c (.mk 0 n [y] f g) (b9 l k (.mk 0 n [y] f g) dS)) n 0 (bz v.w p.vars [c.store] y)).trace=c.trace++nq v.w p.vars [c.store] y++if 1<al p.vars n then [⟨2,n,0%al p.vars n⟩]else []:=by
   show c.trace++eR p.w p.vars [c.store] [y]++_=_;rw [D];simp [eR]
  rw [←fy,←BI]at A;refine ⟨?_,_,Y,A,fun _=>⟨qu,ha,fh.symm⟩,by omega,⟨m1,?_,m3,m4,m5,m6⟩,rfl,rfl,rfl,rfl⟩
  ·exact h.ov
  ·show v.cost+av y=c.cost+aq [y]
   rw [E];simp [aq]
 ·obtain ⟨J,TE⟩:=Q y (by simp)
  obtain ⟨I,ZY⟩:=Q z (by simp);have TC:=iQ o EN y J;have hwz:=iQ o EN z I;obtain ⟨b4',o4,c4,vy,r,fW,B,y3,lW⟩:=fU.row g1 g2 (i:=1) (y:=y) rfl;simp only [Nat.one_mul]at B;rw [←y3]at B;simp (maxSteps:=9^7)-implicitDefEqProofs+contextual [-X.ev,FY,cz,d];apply ah
  ·(simp-implicitDefEqProofs [-X.ev];rfl)
  refine (BH (op:=0) (n:=n) (va:=va) (vt:=vt) (ve:=ve) R o C h.vars h.cap P K g1 g2 (y:=z) rfl I (by omega) (by rw [E];omega)).mono ?_;rintro x H2 ⟨rfl,W,h2,M2,k2⟩;have xi:=h2.sub.ldn B;have U:=gL.tr (v:=v) h2 M2 k2;have L:=aJ (U.mod.ldn (a:=⟨H.nx,0,none⟩) nb d) (j:=2) rfl;rw [fW]at L;have u1:=eS (w:=v.w) (V:=p.vars) (S:=[c.store]) z;have u2:=eS (w:=v.w) (V:=p.vars) (S:=[c.store]) y;have pz:=dR z;simp (maxSteps:=9^7)-implicitDefEqProofs+contextual [-X.ev,L,xi,WJ];apply ah
  ·(simp-implicitDefEqProofs [-X.ev];rfl)
  refine (jX h2 o C h.vars h.cap lW J (by rw [aq3];omega) (by show 0≤v.cost+av z∧v.cost+av z+av y≤2^60;rw [E];omega)).mono ?_;rintro x H3 ⟨rfl,nN,h3,M3,k3⟩;have N:=U.trans (gL.tr (v:={v with vt:=W,cost:=v.cost+av z}) h3 M3 k3);simp (maxSteps:=9^7)-implicitDefEqProofs+contextual [-X.ev];apply ah
  ·(simp-implicitDefEqProofs [-X.ev];rfl)
  refine (gM N.mh h.hr h.hf h.hs h.hl h.h0 (by omega) (by omega) (by omega) (by omega)).mono ?_;rintro x H4 ⟨mP,Y,qu,O,ha,fh,uW⟩;have M:=N.trans O;have e1:=aJ (M.mod.ldn (a:=⟨H.nx,0,none⟩) nb d) (j:=1) rfl;simp (maxSteps:=9^7)-implicitDefEqProofs+contextual [-X.ev,e1];apply ah
  ·(simp-implicitDefEqProofs [-X.ev];rfl)
  refine (mg (n:=n) (i:=(bz v.w p.vars [c.store] z)) (a:=bz v.w p.vars [c.store] y) O.mh o C h.vars h.cap P (by omega) (by simp only [aq3];omega)).mono ?_;rintro x H5 ⟨QY,h5,M5,Z⟩;have B5:=M.trans (gL.trW h5 M5 Z);have A:=A1.trans B5;simp (maxSteps:=9^7)-implicitDefEqProofs+contextual [-X.ev]
  have fF:c'=iU p.vars (bu p c (.mk 0 n [z,y] f g) (b9 l k (.mk 0 n [z,y] f g) dS)) n (bz v.w p.vars [c.store] z) (bz v.w p.vars [c.store] y):=by
   rw [kO,if_pos K];show iU _ _ _ _ (bz p.w p.vars [c.store] y)=_;rw [D];rfl
  subst fF;have fy:(iU p.vars (bu p c (.mk 0 n [z,y] f g) (b9 l k (.mk 0 n [z,y] f g) dS)) n (bz v.w p.vars [c.store] z) (bz v.w p.vars [c.store] y)).store=c.store.set (bT p.vars n+(bz v.w p.vars [c.store] z)%al p.vars n).toNat (bz v.w p.vars [c.store] y):=rfl
  have BI:(iU p.vars (bu p c (.mk 0 n [z,y] f g) (b9 l k (.mk 0 n [z,y] f g) dS)) n (bz v.w p.vars [c.store] z) (bz v.w p.vars [c.store] y)).trace=c.trace++nq v.w p.vars [c.store] z++nq v.w p.vars [c.store] y++if 1<al p.vars n then [⟨2,n,(bz v.w p.vars [c.store] z)%al p.vars n⟩]else []:=by
   show c.trace++eR p.w p.vars [c.store] [z,y]++_=_;rw [D];simp [eR]
  rw [←fy,←BI]at A;refine ⟨?_,_,Y,A,fun _=>⟨qu,ha,fh.symm⟩,by omega,⟨m1,?_,m3,m4,m5,m6⟩,rfl,rfl,rfl,rfl⟩
  ·exact h.ov
  ·show v.cost+av z+av y=c.cost+aq [z,y]
   rw [E];simp [aq];omega
end
end
section
open Go
section
variable{G H:AH} {m:Nat} {p:bw} {ps:List Int} {v:MV} {c:eZ} {cM rs:List (List Value)} {dS:List (List bE×Int)} {vl:Value} {cs:List Value} {k:Int} {s:bE} {l:List bE}
theorem Hn {n:Int} {args:List bV} {f g:List bE} (h:JC G H m p ps v c cM dS vl cs rs k (.mk 4 n args f g) l):
 kv G H 112 m p ps v c cM.length dS cs k (.mk 4 n args f g) l:=by
 intro c' z;rw [kN,if_neg (by omega),if_neg (by omega),if_neg (by omega),if_neg (by omega),if_pos rfl]at z;rw [show(bu p c (.mk 4 n args f g) (b9 l k (.mk 4 n args f g) dS)).used=c.used from rfl]at z;obtain ⟨aH,_,_,DL⟩:=gv h.row;obtain ⟨m1,N,u,m4,W,m6⟩:=h.mt;have iC:=h.hs
 cases iC with| @mk _ _ va vt ve ra rt re _ _ _ i1 i2 i3 i4 i5 g1 g2 g3 g4 g5 g6 g7 g8=>
 refine Ca.aV (F:=FZ) rfl rfl rfl ?_;have C:=h.mh.wf;have X1:=Ext.alloc H (.cells 5 [.int .i64 4,.int .i64 n,va,vt,ve]);have d0:(H.alloc (.cells 5 [.int .i64 4,.int .i64 n,va,vt,ve])).ld ⟨H.nx,0,none⟩=some (.int .i64 4):=aj C rfl;have d1:(H.alloc (.cells 5 [.int .i64 4,.int .i64 n,va,vt,ve])).ld ⟨H.nx,1,none⟩=some (.int .i64 n):=aj C rfl;have d2:(H.alloc (.cells 5 [.int .i64 4,.int .i64 n,va,vt,ve])).ld ⟨H.nx,2,none⟩=some va:=aj C rfl;have d3:(H.alloc (.cells 5 [.int .i64 4,.int .i64 n,va,vt,ve])).ld ⟨H.nx,3,none⟩=some vt:=aj C rfl;have d4:(H.alloc (.cells 5 [.int .i64 4,.int .i64 n,va,vt,ve])).ld ⟨H.nx,4,none⟩=some ve:=aj C rfl;have d:(H.alloc (.cells 5 [.int .i64 4,.int .i64 n,va,vt,ve])).ldn ⟨H.nx,0,none⟩ 5=some [.int .i64 4,.int .i64 n,va,vt,ve]:=a7 C 5 rfl;generalize cz:H.alloc (.cells 5 [.int .i64 4,.int .i64 n,va,vt,ve])=H1 at X1 d0 d1 d2 d3 d4 d;have bo:=X1.wf C;have Z:=h.mh.ext X1;have b7:=h.b7;have b5:=h.b5;have b6:=h.b6;have b1:=h.b1;have b2:=h.b2;have b3:=h.b3;have b4:=h.b4;have b8:=h.b8;have xM:=h.w;have I:=h.w.symm;have J:=h.head;have Q:=h.store;rw [I]at J Q;have A1:=gL.lD h.mh X1
 have fD:1≤v.w∧v.w≤8:=⟨(aF J).1,(aF J).2.1⟩
 have hp:=jo fD;have EN:GS v.w p.vars [c.store]:=fun t ht=>by simp at ht;subst ht;exact Q
 have out:∀b,(b=m∨aS v.vt b)→b≠H.nx:=fun b hb e=>by
  subst e;rcases hb with q|q
  ·have:=h.mh.lt (.inl q);omega
  ·have:=h.mh.tr.lt q;omega
 rw [I]at aH;have nb:¬ Mf m v H.nx:=fun q=>by have:=h.mh.lt q;omega
 have w0:IntKind.i64.wrap 0=0:=rfl;have WJ:IntKind.i64.wrap 1=1:=rfl
 obtain ⟨Y,hY⟩:(0≤n∧n<p.vars.length)∧((¬ 1<al p.vars n∧args=[])∨(1<al p.vars n∧∃a,args=[a])):=by
  rcases DL with⟨q,_⟩|⟨q,_⟩|⟨q,_⟩|⟨q,_⟩|⟨_,q⟩|⟨q,_⟩
  ·omega
  ·omega
  ·omega
  ·omega
  ·exact q
  ·omega
 obtain ⟨pa,pc,WK⟩:=h.bM.len;rcases hY with⟨O,rfl⟩|⟨O,y,rfl⟩
 ·simp (maxSteps:=9^7)-implicitDefEqProofs+contextual [-X.ev,FZ,cz,d]
  apply ah
  ·(simp-implicitDefEqProofs [-X.ev];rfl)
  refine (BG (op:=4) (n:=n) (va:=va) (vt:=vt) (ve:=ve) Z h.vars Y O).mono ?_;rintro x H2 ⟨rfl,X2⟩;have h2:=Z.ext X2;have B:=gL.lD Z X2;have K:=aG h2.get h2.n0 (k:=5) (v:=v.vp) rfl;have f11:=aG h2.get h2.n0 (k:=11) (v:=.int .i64 v.used) rfl;rw [WK]at K;rw [u]at f11;by_cases q:ps.length≤c.used
  ·have E:(c.used:Int)=(ps.length:Int):=by omega
   rw [if_pos q]at z;simp (maxSteps:=9^7)-implicitDefEqProofs+contextual [-X.ev,K,f11,u,E,bh,aL,aM];apply ah
   ·(simp-implicitDefEqProofs [-X.ev];rfl)
   refine (q7 (how:=4) (n:=k) B.mh).mono ?_;rintro x H3 ⟨rfl,r⟩;have A:=(A1.trans B).trans r;simp (maxSteps:=9^7)-implicitDefEqProofs+contextual [-X.ev];subst z
   have D:(eJ (bu p c (.mk 4 n [] f g) (b9 l k (.mk 4 n [] f g) dS)) 4 k).trace=c.trace:=by
    show c.trace++eR p.w p.vars [c.store] []=_;rw [I];simp [eR]
   rw [←D]at A;refine ⟨?_,_,_,A,fun q=>by simp [eJ]at q,by simp,⟨rfl,?_,u,rfl,W,rfl⟩,rfl,rfl,rfl,rfl⟩
   ·rfl
   ·show v.cost=c.cost+aq []
    rw [N];simp [aq]
  ·have E:¬ (c.used:Int)=(ps.length:Int):=by omega
   rw [if_neg q]at z;simp (maxSteps:=9^7)-implicitDefEqProofs+contextual [-X.ev,K,f11,u,E,bh,aL,aM];apply ah
   ·(simp-implicitDefEqProofs [-X.ev];rfl)
   refine (gM B.mh h.hr h.hf h.hs h.hl h.h0 (by omega) (by omega) (by omega) (by omega)).mono ?_;rintro x H3 ⟨mP,c8,qu,r,ha,fh,uW⟩;have B3:=B.trans r;have g11:=aG r.mh.get r.mh.n0 (k:=11) (v:=.int .i64 v.used) rfl;obtain ⟨H4,s4,U,yW,nm⟩:=r.mh.cell (v':={v with vf:=mP,used:=(c.used:Int)+1}) 11 (.int .i64 ((c.used:Int)+1)) (by omega) rfl rfl rfl rfl rfl;have T:=B3.trans U;have w2:IntKind.i64.wrap ((c.used:Int)+1)=(c.used:Int)+1:=ai ⟨by omega,by omega⟩;have w3:IntKind.i64.wrap (c.used:Int)=(c.used:Int):=ai ⟨by omega,by omega⟩;have e1:=aJ (T.mod.ldn (a:=⟨H.nx,0,none⟩) nb d) (j:=1) rfl;have o:=U.mh
   obtain ⟨a,P⟩:∃a,ps[c.used]?=some a:=⟨_,aqU (by omega)⟩
   have fW:fE ps c.used=a:=by simp [fE,P]
   obtain ⟨bp,op_,cp_,N0,fg⟩:=(fT.sub o.sub h.bM).at P;have R:=aG o.get o.n0 (k:=5) (v:=v.vp) rfl;have QZ:=aG o.get o.n0 (k:=11) (v:=.int .i64 ((c.used:Int)+1)) rfl;rw [N0]at R;have db:(c.used:Int)<(ps.length:Int):=by omega
   rw [u]at g11;simp (maxSteps:=9^7)-implicitDefEqProofs+contextual [-X.ev,g11,w2,s4,e1,R,QZ,w3,db,fg];apply ah
   ·(simp-implicitDefEqProofs [-X.ev];rfl)
   refine (mg (n:=n) (i:=0) (a:=a) o J Q h.vars h.cap Y (by omega) (by omega)).mono ?_;rintro x H5 ⟨QY,h5,L,k5⟩;have M:=gL.trW h5 L k5;have A:=A1.trans (T.trans M);have Oc:=L.nx;have JB:=L.n0;simp (maxSteps:=9^7)-implicitDefEqProofs+contextual [-X.ev,bh,aL,aM,Oc,JB]
   have fF:c'=iU p.vars {bu p c (.mk 4 n [] f g) (b9 l k (.mk 4 n [] f g) dS)with used:=c.used+1} n 0 a:=by
    rw [z,if_neg O,fW]
   subst fF;have fy:(iU p.vars {bu p c (.mk 4 n [] f g) (b9 l k (.mk 4 n [] f g) dS)with used:=c.used+1} n 0 a).store=c.store.set (bT p.vars n+0%al p.vars n).toNat a:=rfl
   have D:(iU p.vars {bu p c (.mk 4 n [] f g) (b9 l k (.mk 4 n [] f g) dS)with used:=c.used+1} n 0 a).trace=c.trace++if 1<al p.vars n then [⟨2,n,0%al p.vars n⟩]else []:=by
    show c.trace++eR p.w p.vars [c.store] []++_=_;rw [I];simp [eR]
   rw [←fy,←D]at A;refine ⟨?_,_,c8,A,fun _=>⟨qu,ha,fh.symm⟩,by omega,⟨m1,?_,by show(c.used:Int)+1=((c.used+1:Nat):Int);omega,m4,W,m6⟩,rfl,rfl,rfl,rfl⟩
   ·exact h.ov
   ·show v.cost=c.cost+aq []
    rw [N];simp [aq]
 ·obtain ⟨y4,TE⟩:=aH y (by simp)
  have TC:=iQ J EN y y4;simp (maxSteps:=9^7)-implicitDefEqProofs+contextual [-X.ev,FZ,cz,d];apply ah
  ·(simp-implicitDefEqProofs [-X.ev];rfl)
  refine (BH (op:=4) (n:=n) (va:=va) (vt:=vt) (ve:=ve) Z J Q h.vars h.cap Y O g1 g2 (y:=y) rfl y4 (by omega) (by rw [N];omega)).mono ?_;rintro x H2 ⟨rfl,vt1,h2,M2,k2⟩;have B:=gL.tr (v:=v) h2 M2 k2;have u1:=eS (w:=v.w) (V:=p.vars) (S:=[c.store]) y;have K:=aG h2.get h2.n0 (k:=5) (v:=v.vp) rfl;have f11:=aG h2.get h2.n0 (k:=11) (v:=.int .i64 v.used) rfl;rw [WK]at K;rw [u]at f11;by_cases q:ps.length≤c.used
  ·have E:(c.used:Int)=(ps.length:Int):=by omega
   rw [if_pos q]at z;simp (maxSteps:=9^7)-implicitDefEqProofs+contextual [-X.ev,K,f11,u,E,bh,aL,aM];apply ah
   ·(simp-implicitDefEqProofs [-X.ev];rfl)
   refine (q7 (how:=4) (n:=k) B.mh).mono ?_;rintro x H3 ⟨rfl,r⟩;have A:=(A1.trans B).trans r;simp (maxSteps:=9^7)-implicitDefEqProofs+contextual [-X.ev];subst z
   have D:(eJ (bu p c (.mk 4 n [y] f g) (b9 l k (.mk 4 n [y] f g) dS)) 4 k).trace=c.trace++nq v.w p.vars [c.store] y:=by
    show c.trace++eR p.w p.vars [c.store] [y]=_;rw [I];simp [eR]
   rw [←D]at A;refine ⟨?_,_,_,A,fun q=>by simp [eJ]at q,by simp,⟨rfl,?_,u,rfl,W,rfl⟩,rfl,rfl,rfl,rfl⟩
   ·rfl
   ·show v.cost+av y=c.cost+aq [y]
    rw [N];simp [aq]
  ·have E:¬ (c.used:Int)=(ps.length:Int):=by omega
   rw [if_neg q]at z;simp (maxSteps:=9^7)-implicitDefEqProofs+contextual [-X.ev,K,f11,u,E,bh,aL,aM];apply ah
   ·(simp-implicitDefEqProofs [-X.ev];rfl)
   refine (gM B.mh h.hr h.hf h.hs h.hl h.h0 (by omega) (by omega) (by omega) (by omega)).mono ?_;rintro x H3 ⟨mP,c8,qu,r,ha,fh,uW⟩;have B3:=B.trans r;have g11:=aG r.mh.get r.mh.n0 (k:=11) (v:=.int .i64 v.used) rfl;obtain ⟨H4,s4,U,yW,nm⟩:=r.mh.cell (v':={v with vt:=vt1,cost:=v.cost+av y,vf:=mP,used:=(c.used:Int)+1}) 11 (.int .i64 ((c.used:Int)+1)) (by omega) rfl rfl rfl rfl rfl;have T:=B3.trans U;have w2:IntKind.i64.wrap ((c.used:Int)+1)=(c.used:Int)+1:=ai ⟨by omega,by omega⟩;have w3:IntKind.i64.wrap (c.used:Int)=(c.used:Int):=ai ⟨by omega,by omega⟩;have e1:=aJ (T.mod.ldn (a:=⟨H.nx,0,none⟩) nb d) (j:=1) rfl;have o:=U.mh
   obtain ⟨a,P⟩:∃a,ps[c.used]?=some a:=⟨_,aqU (by omega)⟩
   have fW:fE ps c.used=a:=by simp [fE,P]
   obtain ⟨bp,op_,cp_,N0,fg⟩:=(fT.sub o.sub h.bM).at P;have R:=aG o.get o.n0 (k:=5) (v:=v.vp) rfl;have QZ:=aG o.get o.n0 (k:=11) (v:=.int .i64 ((c.used:Int)+1)) rfl;rw [N0]at R;have db:(c.used:Int)<(ps.length:Int):=by omega
   rw [u]at g11;simp (maxSteps:=9^7)-implicitDefEqProofs+contextual [-X.ev,g11,w2,s4,e1,R,QZ,w3,db,fg];apply ah
   ·(simp-implicitDefEqProofs [-X.ev];rfl)
   refine (mg (n:=n) (i:=(bz v.w p.vars [c.store] y)) (a:=a) o J Q h.vars h.cap Y (by omega) (by simp only [aq3];omega)).mono ?_;rintro x H5 ⟨QY,h5,L,k5⟩;have M:=gL.trW h5 L k5;have A:=A1.trans (T.trans M);have Oc:=L.nx;have JB:=L.n0;simp (maxSteps:=9^7)-implicitDefEqProofs+contextual [-X.ev,bh,aL,aM,Oc,JB]
   have fF:c'=iU p.vars {bu p c (.mk 4 n [y] f g) (b9 l k (.mk 4 n [y] f g) dS)with used:=c.used+1} n (bz v.w p.vars [c.store] y) a:=by
    rw [z,if_pos O,fW];show iU _ _ _ (bz p.w p.vars [c.store] y) _=_;rw [I]
   subst fF;have fy:(iU p.vars {bu p c (.mk 4 n [y] f g) (b9 l k (.mk 4 n [y] f g) dS)with used:=c.used+1} n (bz v.w p.vars [c.store] y) a).store=c.store.set (bT p.vars n+(bz v.w p.vars [c.store] y)%al p.vars n).toNat a:=rfl
   have D:(iU p.vars {bu p c (.mk 4 n [y] f g) (b9 l k (.mk 4 n [y] f g) dS)with used:=c.used+1} n (bz v.w p.vars [c.store] y) a).trace=c.trace++nq v.w p.vars [c.store] y++if 1<al p.vars n then [⟨2,n,(bz v.w p.vars [c.store] y)%al p.vars n⟩]else []:=by
    show c.trace++eR p.w p.vars [c.store] [y]++_=_;rw [I];simp [eR]
   rw [←fy,←D]at A;refine ⟨?_,_,c8,A,fun _=>⟨qu,ha,fh.symm⟩,by omega,⟨m1,?_,by show(c.used:Int)+1=((c.used+1:Nat):Int);omega,m4,W,m6⟩,rfl,rfl,rfl,rfl⟩
   ·exact h.ov
   ·show v.cost+av y=c.cost+aq [y]
    rw [N];simp [aq]
end
end
section
open Go
structure Inv (p:bw) (ps:List Int) (c:eZ):Prop where
 head:aA p.w p.vars=true
 store:bK p.w p.vars c.store=true
 words:∀a∈ps,0≤a∧a<2^p.w.toNat
 used:c.used≤ps.length∧ps.length≤16
 TF:aC p.body≤400
 todo:∀it∈c.todo,0≤it.1∧it.1+aY it.2≤aC p.body∧dY p.w p.vars it.2=true∧bg it.2≤400
 fuel:0≤c.fuel∧c.fuel≤4096
 tr:(c.trace.length:Int)+500*c.fuel≤2^30
 ou:(c.outs.length:Int)+c.fuel≤2^30
 co:0≤c.cost∧c.cost+500*c.fuel≤2^40
theorem oK {w:Int} {V:List Vr} {C N:Int}:∀(l:List bE) (k:Int),0≤k→k+aC l≤C→fA w V l=true→au l≤N→∀it∈ek l k,0≤it.1∧it.1+aY it.2≤C∧dY w V it.2=true∧bg it.2≤N
 |[],k,_,_,_,_,it,h=>by simp [ek]at h
 |s::l,k,c,d,a,b,it,h=>by
  rw [ku]at h;rw [aC]at d;rw [au]at b;rw [fA,aqX]at a;have g:=aP l;have h2:=lC s;have f:=lu s;have e:=cT l;rcases arc.1 h with rfl|h
  ·exact ⟨c,by show k+aY s≤C;omega,a.1,by show bg s≤N;omega⟩
  ·exact oK l _ (by omega) (by omega) a.2 (by omega) it h
theorem xN {w:Int} {V:List Vr} {s:List Int} (c:1≤w∧w≤8) (h:bK w V s=true) (k:Nat) {a:Int} (e:0≤a∧a<2^w.toNat):bK w V (s.set k a)=true:=by
 simp only [bK,aqX,aq6,ara,List.length_set]at h⊢;refine ⟨h.1,fun b d=>?_⟩;rcases List.mem_or_eq_of_mem_set d with q|q
 ·exact h.2 b q
 ·rw [q];exact me c e
theorem BJ {p:bw} {ps:List Int} {c:eZ} {n i a:Int} (h:Inv p ps c) (d:(c.trace.length:Int)+1+500*c.fuel≤2^30) (b:0≤a∧a<2^p.w.toNat):Inv p ps (iU p.vars c n i a)where
 head:=h.head
 store:=xN ⟨(aF h.head).1,(aF h.head).2.1⟩ h.store _ b
 words:=h.words
 used:=h.used
 TF:=h.TF
 todo:=h.todo
 fuel:=h.fuel
 tr:=by
  show((c.trace++_).length:Int)+500*c.fuel≤2^30;rw [aq3];split
  ·simp;omega
  ·simp;have:=h.tr;omega
 ou:=h.ou
 co:=h.co
theorem lF {p:bw} {ps:List Int} {c:eZ} (h:Inv p ps c) (e n:Int):Inv p ps (eJ c e n):={h with todo:=by simp [eJ]}
theorem DN {p:bw} {S:List (List Int)} (b:aA p.w p.vars=true) (c:GS p.w p.vars S):∀(l:List bV),(∀e∈l,cY p.w p.vars S.length e=true)→∀i,i<l.length→0≤fE (cL p.w p.vars S l) i∧fE (cL p.w p.vars S l) i<2^p.w.toNat:=by
 intro l a i hi
 have:fE (cL p.w p.vars S l) i=bz p.w p.vars S (l[i]):=by
  unfold fE;rw [sv,aqU hi];rfl
 rw [this];exact iQ b c _ (a _ (List.getElem_mem hi))
theorem qv {w:Int} {V:List Vr} {S:List (List Int)}:∀l:List bV,(cL w V S l).length=l.length
 |[]=>rfl
 |e::l=>by simp [cL,qv l]
theorem sJ {p:bw} {ps:List Int} {c:eZ} (h:Inv p ps c):Inv p ps (dB p ps c):=by
 unfold dB;by_cases G:c.over=true
 ·rw [if_pos G];exact h
 rw [if_neg G]
 cases j:c.todo with
 |nil=>exact h
 |cons it next=>
  obtain ⟨k,s⟩:=it;show Inv p ps (if c.fuel=0 then _ else _);by_cases L:c.fuel=0
  ·rw [if_pos L];exact lF h _ _
  rw [if_neg L];obtain ⟨op,n,args,d,aE⟩:=s;obtain ⟨K,J,F,H⟩:=h.todo (k,.mk op n args d aE) (by rw [j];simp);obtain ⟨Y,P,Q,R⟩:=gv F;have LC:aY (.mk op n args d aE)=1+aC d+aC aE:=by rw [aY]
  simp only at K J H;rw [bg]at H;have pa:=a6 args;have pt:=cT d;have pe:=cT aE;have bt:=aP d;have be:=aP aE;have hp:=jo (w:=p.w) ⟨(aF h.head).1,(aF h.head).2.1⟩;have Z:GS p.w p.vars [c.store]:=fun t j=>by simp at j;subst j;exact h.store
  have O:=DN (S:=[c.store]) h.head Z args (fun e X=>(Y e X).1);have evb:=jW (w:=p.w) (V:=p.vars) (S:=[c.store]) (l:=args) (fun e _=>eS e);have W:=h.fuel;have BI:=h.tr;have T:=h.ou;have Nv:=h.co
  obtain ⟨b,g⟩:∃b,kr p c (.mk op n args d aE) next=b:=⟨_,rfl⟩
  have e1:b.trace=c.trace++eR p.w p.vars [c.store] args:=by rw [←g];rfl
  have e2:b.cost=c.cost+1+aq args:=by rw [←g];rfl
  have r:b.fuel=c.fuel- 1:=by rw [←g];rfl
  have e4:b.todo=next:=by rw [←g];rfl
  have M:b.outs=c.outs:=by rw [←g];rfl
  have e6:b.used=c.used:=by rw [←g];rfl
  have o:∀it∈next,0≤it.1∧it.1+aY it.2≤aC p.body∧dY p.w p.vars it.2=true∧bg it.2≤400:=fun it i=>h.todo it (by rw [j];simp [i])
  have Tb:(b.trace.length:Int)+99+500*b.fuel≤2^30:=by rw [e1,r,aq3];omega
  have f:Inv p ps b:={head:=h.head,store:=by rw [←g];exact h.store,words:=h.words,used:=by rw [e6];exact h.used,TF:=h.TF,todo:=by rw [e4];exact o,fuel:=by rw [r];omega,tr:=by omega,ou:=by rw [M,r];omega,co:=by rw [e2,r];omega}
  rw [show(bE.mk op n args d aE).args=args from rfl];have E:=oK (w:=p.w) (V:=p.vars) (C:=aC p.body) (N:=400) d (k+1) (by omega) (by omega) P (by omega);have u:=oK (w:=p.w) (V:=p.vars) (C:=aC p.body) (N:=400) aE (k+1+aC d) (by omega) (by omega) Q (by omega)
  have both:∀(l:List vn),(∀it∈l,0≤it.1∧it.1+aY it.2≤aC p.body∧dY p.w p.vars it.2=true∧bg it.2≤400)→∀(e:Ev),Inv p ps {b with trace:=b.trace++[e],todo:=l}:=fun l v e=>
   {f with todo:=v,tr:=by show((b.trace++[e]).length:Int)+500*b.fuel≤2^30;rw [aq3];simp;omega}
  have app:∀(l m:List vn),(∀it∈l,0≤it.1∧it.1+aY it.2≤aC p.body∧dY p.w p.vars it.2=true∧bg it.2≤400)→(∀it∈m,0≤it.1∧it.1+aY it.2≤aC p.body∧dY p.w p.vars it.2=true∧bg it.2≤400)→∀it∈l++m,0≤it.1∧it.1+aY it.2≤aC p.body∧dY p.w p.vars it.2=true∧bg it.2≤400:=fun l m v U it i=>(are.1 i).elim (v it) (U it)
  rw [g];unfold kN;by_cases D:op=0
  ·simp only [if_pos D]
   have I:0<args.length:=by
    rcases R with⟨_,_,⟨_,a,rfl⟩|⟨_,a,b,rfl⟩⟩|⟨q,_⟩|⟨q,_⟩|⟨q,_⟩|⟨q,_⟩|⟨q,_⟩
    ·simp
    ·simp
    all_goals omega
   exact BJ f (by omega) (O _ (by rw [qv];omega))
  simp only [if_neg D];by_cases B:op=1
  ·simp only [if_pos B]
   by_cases q:fE (cL p.w p.vars [c.store] args) 0=0
   ·simp only [if_pos q];exact both _ (app _ _ u o) _
   ·simp only [if_neg q];exact both _ (app _ _ E o) _
  simp only [if_neg B];by_cases A:op=2
  ·simp only [if_pos A]
   by_cases q:fE (cL p.w p.vars [c.store] args) 0=0
   ·simp only [if_pos q];exact both _ o _
   ·simp only [if_neg q]
    exact both _ (app _ _ E (fun it i=>by
     rcases arc.1 i with rfl|i
     ·exact ⟨K,J,F,by show bg (.mk op n args d aE)≤400;rw [bg];omega⟩
     ·exact o it i)) _
  simp only [if_neg A];by_cases z:op=3
  ·simp only [if_pos z]
   exact {f with ou:=by show((b.outs++[_]).length:Int)+b.fuel≤2^30;rw [aq3,M,r];simp;omega}
  simp only [if_neg z];by_cases y:op=4
  ·simp only [if_pos y]
   by_cases q:ps.length≤b.used
   ·simp only [if_pos q];exact lF f _ _
   ·simp only [if_neg q]
    have hu:=f.used;refine BJ (c:={b with used:=b.used+1}) {f with used:=by show b.used+1≤ps.length∧_;omega} (by show(b.trace.length:Int)+1+500*b.fuel≤2^30;omega) ?_;have:fE ps b.used=ps[b.used]'(by omega):=by simp [fE,aqU (show b.used<ps.length by omega)]
    rw [this];exact h.words _ (List.getElem_mem _)
  simp only [if_neg y];by_cases x:op=5
  ·simp only [if_pos x]
   by_cases q:fE (cL p.w p.vars [c.store] args) 0=0
   ·simp only [if_pos q];exact lF f _ _
   ·simp only [if_neg q];exact f
  simp only [if_neg x];by_cases q:fE (cL p.w p.vars [c.store] args) 0=0
  ·simp only [if_pos q];exact lF f _ _
  ·simp only [if_neg q];exact f
open Go
structure sK (G H:AH) (m:Nat) (p:bw) (ps:List Int) (v:MV) (c:eZ):Prop where
 is:∃rows,MH G H m v rows c.store c.outs c.trace∧(c.over=false→∃fs,fj (Og G) rows fs∧c.todo=lE fs)∧(rows.length:Int)+2*c.fuel≤2^20
 w:v.w=p.w
 vars:de G v.vv p.vars
 cap:GY v.vv
 bM:fT G v.vp ps
 mt:Mt v c
 inv:Inv p ps c
 ov:c.over=true→c.todo=[]
def dC (c:eZ):Bool:=c.over||c.todo.isEmpty
theorem sK.mod {G H H':AH} {m:Nat} {p:bw} {ps:List Int} {v:MV} {c:eZ} {T:Nat→Prop} (h:sK G H m p ps v c) (M:Mod T H H') (a:∀b,T b→¬ Mf m v b) (d:∀b,T b→G.get b=none):sK G H' m p ps v c:=by
 obtain ⟨rows,f,h2,e⟩:=h.is;exact {h with is:=⟨rows,f.mod M a d,h2,e⟩}
theorem sK.ext {G H H':AH} {m:Nat} {p:bw} {ps:List Int} {v:MV} {c:eZ} (h:sK G H m p ps v c) (X:Ext H H'):sK G H' m p ps v c:=h.mod (Mod.bN (S:=fun _=>False) X) (by simp) (by simp)
theorem xP {α β:Type} {C:α→β→Prop} {l:List α} (h:fj C l []):l=[]:=by cases h;rfl
theorem pJ {α β:Type} {C:α→β→Prop}:∀{l:List α} {k:List β} {b:β},fj C l (k++[b])→∃c a,l=c++[a]∧fj C c k∧C a b
 |_,[],b,.cons h .nil=>⟨[],_,rfl,.nil,h⟩
 |_,x::k,b,.cons h t=>by
  obtain ⟨c,a,rfl,d,h2⟩:=pJ t;exact ⟨_::c,a,rfl,.cons h d,h2⟩
theorem xQ (p:bw) (c:eZ) (s:bE) (next:List vn):bu p {c with fuel:=c.fuel- 1,cost:=c.cost+1} s next=kr p c s next:=rfl
theorem afJ {G H:AH} {m:Nat} {p:bw} {ps:List Int} {v:MV} {c:eZ} {b rs:List (List Value)} {d:List (List bE×Int)} {g:Value} {cs:List Value} {k:Int} {l:List bE} {op n:Int} {args:List bV} {a e:List bE} (q:Value) (h:JC G H m p ps v c b d g cs rs k (.mk op n args a e) l):
 0≤op∧op<7∧∃f,([.func (.func 108) #[q] #[],.func (.func 109) #[q] #[],.func (.func 110) #[q] #[],.func (.func 111) #[q] #[],.func (.func 112) #[q] #[],.func (.func 113) #[q] #[],.func (.func 114) #[q] #[]]:List Value)[op.toNat]?=some (.func (.func f) #[q] #[])∧
  kv G H f m p ps v c b.length d cs k (.mk op n args a e) l:=by
 obtain ⟨_,_,_,i⟩:=gv h.row;rcases i with⟨rfl,_⟩|⟨rfl,_⟩|⟨rfl,_⟩|⟨rfl,_⟩|⟨rfl,_⟩|⟨rfl|rfl,_⟩
 ·exact ⟨by omega,by omega,_,rfl,LB h⟩
 ·exact ⟨by omega,by omega,_,rfl,DM h⟩
 ·exact ⟨by omega,by omega,_,rfl,Lz h⟩
 ·exact ⟨by omega,by omega,_,rfl,LA h⟩
 ·exact ⟨by omega,by omega,_,rfl,Hn h⟩
 ·exact ⟨by omega,by omega,_,rfl,Hi h⟩
 ·exact ⟨by omega,by omega,_,rfl,Hj h⟩
theorem DO {p:bw} {ps:List Int} {c:eZ} {k:Int} {s:bE} {vals:List Int} {next:List vn} (h:c.over=false):(kN p ps c k s vals next).over=true→(kN p ps c k s vals next).todo=[]:=by
 obtain ⟨op,n,args,i,j⟩:=s;unfold kN;intro q;by_cases g:op=0
 ·simp only [if_pos g,iU]at q⊢;rw [h]at q;cases q
 simp only [if_neg g]at q⊢;by_cases f:op=1
 ·simp only [if_pos f]at q⊢;rw [h]at q;cases q
 simp only [if_neg f]at q⊢;by_cases e:op=2
 ·simp only [if_pos e]at q⊢;rw [h]at q;cases q
 simp only [if_neg e]at q⊢;by_cases d:op=3
 ·simp only [if_pos d]at q⊢;rw [h]at q;cases q
 simp only [if_neg d]at q⊢;by_cases b:op=4
 ·simp only [if_pos b]at q⊢
  by_cases u:ps.length≤c.used
  ·simp only [if_pos u];rfl
  ·simp only [if_neg u,iU]at q;rw [h]at q;cases q
 simp only [if_neg b]at q⊢;by_cases a:op=5
 ·simp only [if_pos a]at q⊢
  by_cases u:fE vals 0=0
  ·simp only [if_pos u];rfl
  ·simp only [if_neg u]at q;rw [h]at q;cases q
 simp only [if_neg a]at q⊢;by_cases u:fE vals 0=0
 ·simp only [if_pos u];rfl
 ·simp only [if_neg u]at q;rw [h]at q;cases q
theorem xR {p:bw} {ps:List Int} {c:eZ} {k:Int} {s:bE} {vals:List Int} {next:List vn}:(kN p ps c k s vals next).fuel=c.fuel:=by
 obtain ⟨op,n,args,h,i⟩:=s;unfold kN;by_cases g:op=0
 ·simp only [if_pos g];rfl
 simp only [if_neg g];by_cases f:op=1
 ·simp only [if_pos f]
 simp only [if_neg f];by_cases e:op=2
 ·simp only [if_pos e]
 simp only [if_neg e];by_cases d:op=3
 ·simp only [if_pos d]
 simp only [if_neg d];by_cases b:op=4
 ·simp only [if_pos b];split<;>rfl
 simp only [if_neg b];by_cases a:op=5
 ·simp only [if_pos a];split<;>rfl
 simp only [if_neg a];split<;>rfl
structure afK (G H:AH) (m:Nat) (p:bw) (ps:List Int) (v:MV) (H':AH) (c':eZ):Prop where
 is:∃v',sK G H' m p ps v' c'∧Mod (Mf m v) H H'∧(∀b,Mf m v' b→Mf m v b∨H.nx≤b)∧Sm v v'
theorem LD {G H:AH} {m:Nat} {p:bw} {ps:List Int} {v:MV} {c:eZ} (h:sK G H m p ps v c):
 Ca E O 78 [.pointer (some ⟨m,0,none⟩)] H (fun x H'=>x= .bool (!dC c&& !(dB p ps c).over)∧afK G H m p ps v H' (dB p ps c)):=by
 refine Ca.aV (F:=Tc) rfl rfl rfl ?_;obtain ⟨rows,d,S,uW⟩:=h.is;obtain ⟨m1,m2,m3,m4,m5,Z⟩:=h.mt;have C:=aG d.get d.n0 (k:=13) (v:=.bool v.ended) rfl
 cases i:c.over with
 |true=>
  have hs:dB p ps c=c:=by unfold dB;rw [if_pos i]
  rw [Z,i]at C;have I:dC c=true:=by simp [dC,i]
  rw [hs,I];simp (maxSteps:=9^7)-implicitDefEqProofs+contextual [-X.ev,Tc,C];exact ⟨v,h,Mod.refl _ _,fun b hb=>.inl hb,rfl,rfl,rfl,rfl⟩
 |false=>
  rw [Z,i]at C;obtain ⟨fs,aH,u⟩:=S i;rcases List.eq_nil_or_concat fs with rfl|⟨j,f,S⟩
  ·have Lu:=xP aH
   subst Lu;have ht:c.todo=[]:=u;have hs:dB p ps c=c:=by unfold dB;rw [if_neg (by rw [i];decide),ht]
   have I:dC c=true:=by simp [dC,ht]
   rw [hs,I];simp (maxSteps:=9^7)-implicitDefEqProofs+contextual [-X.ev,Tc,C];apply ah
   ·(simp-implicitDefEqProofs [-X.ev];rfl)
   refine (GW d.wf d.get d.n0 d.fr).mono ?_;rintro x M ⟨rfl,y⟩;obtain ⟨H2,N,L,wA,Y,g2⟩:=iq (y.wf d.wf) (z:=5) (c:=zS) (vs:=zS) rfl;simp (maxSteps:=9^7)-implicitDefEqProofs+contextual [-X.ev,N];exact ⟨v,h.ext (y.trans L),Mod.bN (y.trans L),fun b hb=>.inl hb,rfl,rfl,rfl,rfl⟩
  ·rw [List.concat_eq_append]at S
   subst S;obtain ⟨cM,r,rfl,h0,vl,rs,rfl,hr,Q7,JL,fm,fh⟩:=pJ aH;obtain ⟨lst,k⟩:=f
   cases Q7 with
   |nil=>exact absurd rfl fm
   | @cons cs s rs l hs hl=>
   rw [iV,ku]at u;simp only [List.cons_append]at u;have J:=hs.len;have a:=h.inv;obtain ⟨Ho,Oa,lv,vr⟩:=a.todo (k,s) (by rw [u];simp);simp only at Ho Oa vr fh hr;have pc:=lC s;have afL:=a.TF;have hfu:=a.fuel;have BI:=a.tr;have hou:=a.ou;have Nv:=a.co;have hus:=a.used;have I:dC c=false:=by simp [dC,i,u]
   have r4:=aG d.get d.n0 (k:=4) (v:=.int .i64 v.fuel) rfl;rw [m5]at r4;simp only [aq3,List.length_singleton]at uW;rw [I];simp (maxSteps:=9^7)-implicitDefEqProofs+contextual [-X.ev,Tc,C];apply ah
   ·(simp-implicitDefEqProofs [-X.ev];rfl)
   refine (Lt d.wf d.get d.n0 d.fr (by omega) d.sub hr).mono ?_;rintro x M ⟨rfl,y⟩;have P:=y.wf d.wf;obtain ⟨H2,N,L,wA,Y,g2⟩:=iq P (z:=5) (c:=zS) (vs:=cs) J;have U:=y.trans L;have jB:=L.wf P;have M2:=d.ext U;have o:=U.ld r4;by_cases hf:c.fuel=0
   ·have Q:dB p ps c=eJ c 3 k:=by unfold dB;rw [if_neg (by rw [i];decide),u];show(if c.fuel=0 then _ else _)=_;rw [if_pos hf]
    rw [hf]at o;simp (maxSteps:=9^7)-implicitDefEqProofs+contextual [-X.ev,J,N,o];apply ah
    ·(simp-implicitDefEqProofs [-X.ev];rfl)
    refine (q7 (how:=3) (n:=k) M2).mono ?_;rintro x H3 ⟨rfl,B⟩;rw [Q];have WO:(eJ c 3 k).over=true:=rfl;simp (maxSteps:=9^7)-implicitDefEqProofs+contextual [-X.ev,WO];have A:=(gL.lD d U).trans B;exact ⟨_,{is:=⟨_,A.mh,fun q=>by rw [WO]at q;exact absurd q (by decide),by rw [aq3,List.length_singleton];show _+2*c.fuel≤2^20;omega⟩,w:=h.w,vars:=h.vars,cap:=h.cap,bM:=h.bM,mt:=⟨rfl,m2,m3,rfl,m5,rfl⟩,inv:=lF a 3 k,ov:=fun _=>rfl},A.mod,A.new,rfl,rfl,rfl,rfl⟩
   ·have Q:dB p ps c=kN p ps (kr p c s (b9 l k s j)) k s (cL p.w p.vars [c.store] s.args) (b9 l k s j):=by unfold dB;rw [if_neg (by rw [i];decide),u];show(if c.fuel=0 then _ else _)=_;rw [if_neg hf]
    have w1:IntKind.i64.wrap (c.fuel- 1)=c.fuel- 1:=ai ⟨by omega,by omega⟩;have w2:IntKind.i64.wrap (c.cost+1)=c.cost+1:=ai ⟨by omega,by omega⟩;obtain ⟨H3,s3,B,qZ,l7⟩:=M2.cell (v':={v with fuel:=c.fuel- 1}) 4 (.int .i64 (c.fuel- 1)) (by omega) rfl rfl rfl rfl rfl;have D:=aG B.mh.get B.mh.n0 (k:=10) (v:=.int .i64 v.cost) rfl;rw [m2]at D;obtain ⟨H4,s4,A4,yW,nm⟩:=B.mh.cell (v':={v with fuel:=c.fuel- 1,cost:=c.cost+1}) 10 (.int .i64 (c.cost+1)) (by omega) rfl rfl rfl rfl rfl;have B4:=B.trans A4;have M4:=A4.mh
    obtain ⟨q,hq⟩:∃q:Value,.pointer (some ⟨m,0,none⟩)=q:=⟨_,rfl⟩
    obtain ⟨H5,s5,X5,NY,xB,g5⟩:=iq M4.wf (z:=7) (c:=[.nilFunc,.nilFunc,.nilFunc,.nilFunc,.nilFunc,.nilFunc,.nilFunc]) (vs:=[.func (.func 108) #[q] #[],.func (.func 109) #[q] #[],.func (.func 110) #[q] #[],.func (.func 111) #[q] #[],.func (.func 112) #[q] #[],.func (.func 113) #[q] #[],.func (.func 114) #[q] #[]]) rfl;subst hq;have M5:=M4.ext X5;have qt:=M5.wf;have nb:¬ Mf m v M.nx:=fun q=>by have:=d.lt q;have:=y.nx;omega
    have K:=X5.get (B4.mod.get nb g2);have n5:H5.n0≤M.nx:=by rw [xB,nm,l7,Y];exact P
    have lcs:H5.ldn ⟨M.nx,0,none⟩ 5=some cs:=by rw [bB K n5 (by omega)];simp [aq1 (Nat.le_of_eq J)]
    obtain ⟨op,n,args,e,g⟩:=s;have afN:∃t,cs= .int .i64 op::t:=by cases hs;exact ⟨_,rfl⟩
    obtain ⟨t,rfl⟩:=afN;have l0:=aG K n5 (k:=0) (v:=.int .i64 op) rfl
    have hAt:JC G H5 m p ps {v with fuel:=c.fuel- 1,cost:=c.cost+1} {c with fuel:=c.fuel- 1,cost:=c.cost+1} cM j vl (.int .i64 op::t) rs k (.mk op n args e g) l:=
     {mh:=M5,hr:=hr,hf:=JL,hs:=hs,hl:=hl,h0:=h0,w:=h.w,vars:=h.vars,cap:=h.cap,bM:=h.bM,head:=a.head,store:=a.store,mt:=⟨m1,rfl,m3,m4,rfl,Z⟩,ov:=i,row:=lv,b1:=by omega,b2:=by omega,b3:=by omega,b4:=by simpa using fh,b5:=by show c.trace.length≤2^31;omega,b6:=by show c.outs.length≤2^31;omega,b7:=by show 0≤c.cost+1∧c.cost+1≤2^50;omega,b8:=by show c.used≤ps.length∧_;omega}
    obtain ⟨ho1,ho2,f,ij,fF⟩:=afJ (.pointer (some ⟨m,0,none⟩)) hAt;have lf:=aG g5 (by rw [xB];exact M4.wf) ij;have tF:eD [.nilFunc,.nilFunc,.nilFunc,.nilFunc,.nilFunc,.nilFunc,.nilFunc] [(0,1,.func (.func 108) #[.pointer (some ⟨m,0,none⟩)] #[]),(1,1,.func (.func 109) #[.pointer (some ⟨m,0,none⟩)] #[]),(2,1,.func (.func 110) #[.pointer (some ⟨m,0,none⟩)] #[]),(3,1,.func (.func 111) #[.pointer (some ⟨m,0,none⟩)] #[]),(4,1,.func (.func 112) #[.pointer (some ⟨m,0,none⟩)] #[]),(5,1,.func (.func 113) #[.pointer (some ⟨m,0,none⟩)] #[]),(6,1,.func (.func 114) #[.pointer (some ⟨m,0,none⟩)] #[])]=some (.agg #[.func (.func 108) #[.pointer (some ⟨m,0,none⟩)] #[],.func (.func 109) #[.pointer (some ⟨m,0,none⟩)] #[],.func (.func 110) #[.pointer (some ⟨m,0,none⟩)] #[],.func (.func 111) #[.pointer (some ⟨m,0,none⟩)] #[],.func (.func 112) #[.pointer (some ⟨m,0,none⟩)] #[],.func (.func 113) #[.pointer (some ⟨m,0,none⟩)] #[],.func (.func 114) #[.pointer (some ⟨m,0,none⟩)] #[]]):=rfl;have T:=fF _ rfl;rw [xQ]at T;rw [Q]
    obtain ⟨c',kO⟩:∃c',kN p ps (kr p c (.mk op n args e g) (b9 l k (.mk op n args e g) j)) k (.mk op n args e g) (cL p.w p.vars [c.store] args) (b9 l k (.mk op n args e g) j)=c':=⟨_,rfl⟩
    have R:=sJ a;have WQ:=DO (p:=p) (ps:=ps) (c:=kr p c (.mk op n args e g) (b9 l k (.mk op n args e g) j)) (k:=k) (s:=.mk op n args e g) (vals:=cL p.w p.vars [c.store] args) (next:=b9 l k (.mk op n args e g) j) i;have WR:=xR (p:=p) (ps:=ps) (c:=kr p c (.mk op n args e g) (b9 l k (.mk op n args e g) j)) (k:=k) (s:=.mk op n args e g) (vals:=cL p.w p.vars [c.store] args) (next:=b9 l k (.mk op n args e g) j);rw [Q]at R;simp only [bE.args]at T R⊢;rw [kO]at T R WQ WR⊢;have afO:c'.fuel=c.fuel- 1:=WR;have gl:H2.ldn ⟨M.nx,0,none⟩ 5=some (.int .i64 op::t):=by rw [bB g2 (by rw [Y];exact P) (by omega)];simp [aq1 (Nat.le_of_eq J)]
    have B5:=(gL.lD d U).trans (B4.ext X5);simp (maxSteps:=9^7)-implicitDefEqProofs+contextual [-X.ev,J,N,o,hf,w1,s3,D,w2,s4,tF,s5,l0,ho1,ho2,lf,lcs,bh,aL,aM];apply jR
    ·(simp-implicitDefEqProofs [-X.ev,-Value.func.injEq];rfl)
    ·(simp-implicitDefEqProofs [-X.ev];rfl)
    refine T.mono ?_;rintro x H6 ⟨rfl,v',c8,A6,afP,hr6,afQ,WS⟩;have A:=B5.trans A6;have Ws:=A6.mod.n0;have V:=A6.mod.nx;simp (maxSteps:=9^7)-implicitDefEqProofs+contextual [-X.ev,bh,aL,aM,Ws,V];obtain ⟨q1,W,q3,q4⟩:=WS;exact ⟨v',{is:=⟨c8,A.mh,afP,by rw [afO];omega⟩,w:=q1.trans h.w,vars:=by rw [W];exact h.vars,cap:=by rw [W];exact h.cap,bM:=by rw [q3];exact h.bM,mt:=afQ,inv:=R,ov:=WQ},A.mod,A.new,q1,W,q3,q4⟩
end
section
open Go
theorem dE.Q8 {H:AH} {sz:Nat} {v:Value} {rows:List (List Value)} {r r':List Value} (h:dE H sz v (rows++[r])) (l:r'.length=sz):∃b,v= .slice (some ⟨b,0,none⟩) (rows.length+1) (rows.length+1)∧∃H',H.st ⟨b,rows.length*sz,none⟩ r'=some H'∧dE H' sz v (rows++[r'])∧Mod (fun q=>q=b) H H'∧H'.nx=H.nx∧H'.n0=H.n0:=by
 rcases h.is with⟨_,e⟩|⟨b,e,f,g⟩
 ·simp at e
 have d:∀q∈rows,q.length=sz:=fun q a=>h.len q (by simp [a])
 have o:=h.len r (by simp);have m:=bZ d;obtain ⟨H',st,M,j,c,n⟩:=bH g f (k:=rows.length*sz) (vs:=r') (by rw [bZ h.len];simp only [aq3,List.length_singleton,Nat.succ_mul];omega);have i:v= .slice (some ⟨b,0,none⟩) (rows.length+1) (rows.length+1):=by rw [e];simp
 refine ⟨b,i,H',st,⟨.inr ⟨b,by rw [i];simp,by rw [c];exact f,?_⟩,?_⟩,M,j,c⟩
 ·rw [n]
  have:=pH rows.flatten r r' [] (by omega);rw [m]at this;simp only [List.append_nil]at this;simp only [List.flatten_append,List.flatten_cons,List.flatten_nil,List.append_nil];rw [this]
 ·intro q a
  rcases are.1 a with a|a
  ·exact d q a
  ·simp at a;subst a;exact l
def fO (p:bw) (fuel:Int) (t:eY):eZ:=⟨0,t.store,[],[],0,0,0,fuel,ek p.body 0,false⟩
theorem ue {p:bw} {fuel:Int} {t:eY} (h:fV p fuel t=0):Inv p t.bM (fO p fuel t)∧bj p=true∧0≤fuel∧fuel≤4096∧iO p t=true:=by
 unfold fV at h
 cases d:bj p with
 |false=>rw [if_pos d]at h;omega
 |true=>
  rw [if_neg (by rw [d];decide)]at h;by_cases h2:fuel<0∨4096<fuel
  ·rw [if_pos h2]at h;omega
  rw [if_neg h2]at h
  cases e:iO p t with
  |false=>rw [if_pos e]at h;omega
  |true=>
   have b:=d;have c:=e;simp only [bj,aqX,aq6]at b;simp only [iO,aqX,aq6,ara]at c
   have f:1≤p.w∧p.w≤8:=⟨(aF b.1).1,(aF b.1).2.1⟩
   have i:=aP p.body;refine ⟨⟨b.1,c.1,fun a g=>?_,⟨by show 0≤_;omega,c.2.1⟩,by omega,?_,by show 0≤fuel∧fuel≤4096;omega,by show(0:Int)+500*fuel≤2^30;omega,by show(0:Int)+fuel≤2^30;omega,by show 0≤(0:Int)∧0+500*fuel≤2^40;omega⟩,rfl,by omega,by omega,rfl⟩
   ·have:=c.2.2 a g
    rw [jV f]at this;simp at this;exact this
   ·exact oK p.body 0 (by omega) (by omega) b.2.2.2 (by omega)
structure Made (H:AH) (p:bw) (ps:List Int) (H':AH) (m:Nat) (c:eZ):Prop where
 is:∃G v,sK G H' m p ps v c∧Ext H H'∧(∀b,Mf m v b→H.nx≤b)∧∀b x,G.get b=some x→H.nx≤b
abbrev oL (w fuel:Int) (vp vv vb vs vf:Value):MV:=⟨vf,w,vv,vb,fuel,vp,0,vs,.slice none 0 0,.slice none 0 0,0,0,0,false⟩
theorem vB:eu zS zS=true:=by simp [zS]
theorem Q9 {p:bw} {t:eY} {c d:List Value} {fuel:Int} {H:AH} (hw:H.n0≤H.nx) (hp:pD H c p) (ht:xj H d t):
 Ca E O 77 [.agg c.toArray,.int .i64 fuel,.agg d.toArray] H (fun x H'=>if fV p fuel t=0 then∃m,x= .tuple #[.pointer (some ⟨m,0,none⟩),.int .i64 0]∧Made H p t.bM H' m (fO p fuel t)else x= .tuple #[.pointer none,.int .i64 (fV p fuel t)]∧Ext H H'):=by
 refine Ca.aV (F:=Zc) rfl rfl rfl ?_;have hc:=hp.len;have hd:d.length=2:=by obtain ⟨vs,vp,e,_⟩:=ht.is;rw [e];rfl
 have X1:=Ext.alloc H (.cells c.length c);have q:(H.alloc (.cells c.length c)).ldn ⟨H.nx,0,none⟩ 3=some c:=a7 hw 3 (by assumption);generalize cz:H.alloc (.cells c.length c)=H1 at X1 q;have bo:=X1.wf hw;have X2:=Ext.alloc H1 (.cells d.length d);have r:(H1.alloc (.cells d.length d)).ldn ⟨H1.nx,0,none⟩ 2=some d:=a7 bo 2 (by assumption);generalize kl:H1.alloc (.cells d.length d)=H2 at X2 r;have iP:=X2.wf bo;replace q:=X2.ldn q;have X:=X1.trans X2;simp (maxSteps:=9^7)-implicitDefEqProofs+contextual [-X.ev,Zc,cz,kl,q];apply ah
 ·(simp-implicitDefEqProofs [-X.ev];rfl)
 refine (pF iP (hp.ext X)).mono ?_;rintro x H3 ⟨rfl,X3⟩;replace q:=X3.ldn q;replace r:=X3.ldn r;have jg:=X.trans X3
 cases B:bj p with
 |false=>
  have I:fV p fuel t=30:=by unfold fV;rw [if_pos B]
  simp (maxSteps:=9^7)-implicitDefEqProofs+contextual [-X.ev,B,I,jg]
 |true=>
  by_cases h2:fuel<0
  ·have I:fV p fuel t=1:=by unfold fV;rw [if_neg (by rw [B];decide),if_pos (.inl h2)]
   simp (maxSteps:=9^7)-implicitDefEqProofs+contextual [-X.ev,B,h2,I,jg]
  by_cases h3:4096<fuel
  ·have I:fV p fuel t=1:=by unfold fV;rw [if_neg (by rw [B];decide),if_pos (.inr h3)]
   simp (maxSteps:=9^7)-implicitDefEqProofs+contextual [-X.ev,B,h2,h3,I,jg]
  simp (maxSteps:=9^7)-implicitDefEqProofs+contextual [-X.ev,B,h2,h3,q,r];apply ah
  ·(simp-implicitDefEqProofs [-X.ev];rfl)
  refine (sq (X3.wf iP) (hp.ext jg) (ht.ext jg) B).mono ?_;rintro x H4 ⟨rfl,X4⟩;replace q:=X4.ldn q;replace r:=X4.ldn r;have J:=jg.trans X4;have qq:=J.wf hw
  cases h4:iO p t with
  |false=>
   have I:fV p fuel t=50:=by unfold fV;rw [if_neg (by rw [B];decide),if_neg (by omega),if_pos h4]
   simp (maxSteps:=9^7)-implicitDefEqProofs+contextual [-X.ev,h4,I,J]
  |true=>
   have I:fV p fuel t=0:=by unfold fV;rw [if_neg (by rw [B];decide),if_neg (by omega),if_neg (by rw [h4];decide)]
   obtain ⟨g,_,hf1,hf2,_⟩:=ue I;have hp4:=hp.ext J;have ht4:=ht.ext J;obtain ⟨N,C,rb,rfl,hi,hv,yR,hr,hl,lq⟩:=hp4.is;obtain ⟨vs,vp,rfl,ss,sp,l1,l2,_,_⟩:=ht4.is;have q1:=aJ q (j:=1) rfl;have q2:=aJ q (j:=2) rfl;have r0:=aJ r (j:=0) rfl;have r1:=aJ r (j:=1) rfl;simp only [Nat.zero_add]at q1 q2 r0 r1;have hpk:=g.used.2
   have vw:t.store.length≤48:=by
    have:=g.store;simp only [bK,aqX,aq6]at this;have h48:=(ko g.head).2.2;have e:=this.1;simp only [fO]at e;omega
   have Z9:=(ko g.head).2.1;simp (maxSteps:=9^7)-implicitDefEqProofs+contextual [-X.ev,h4,q,r1];apply ah
   ·(simp-implicitDefEqProofs [-X.ev];rfl)
   refine (jU qq sp (by omega)).mono ?_;rintro l H5 ⟨o5,X5,k5⟩;obtain ⟨pa,pc,N0⟩:=o5.shape;have qt:=X5.wf qq
   have tF:eD [.slice none 0 0,.int .i64 0,.slice none 0 0,.slice none 0 0,.int .i64 0,.slice none 0 0,.int .i64 0,.slice none 0 0,.slice none 0 0,.slice none 0 0,.int .i64 0,.int .i64 0,.int .i64 0,.bool false] [(1,3,.agg #[.int .i64 p.w,N,C]),(4,1,.int .i64 fuel),(5,1,l)]=some (.agg (oL p.w fuel l N C (.slice none 0 0) (.slice none 0 0)).cells.toArray):=by
    rw [N0];rfl
   have gm:=cg H5 (.cells 14 (oL p.w fuel l N C (.slice none 0 0) (.slice none 0 0)).cells);have X6:=Ext.alloc H5 (.cells 14 (oL p.w fuel l N C (.slice none 0 0) (.slice none 0 0)).cells)
   obtain ⟨H6,hH6⟩:∃H6,H5.alloc (.cells 14 (oL p.w fuel l N C (.slice none 0 0) (.slice none 0 0)).cells)=H6:=⟨_,rfl⟩
   rw [hH6]at gm X6
   obtain ⟨m,hm⟩:∃m,H5.nx=m:=⟨_,rfl⟩
   rw [hm]at gm;have Oc:=X5.nx;have JB:=X5.n0;have x6x:=X6.nx;have mlt:=AH.aQ gm;have Y:=X5.trans X6;have afS:=Y.ld q1;have Dz:=X6.wf qt;have q5:=X5.ldn q;have cc1:H4.nx≤m:=by omega
   have W:H6.n0=H4.n0:=X6.n0.trans JB;have cc3:m≤H6.nx:=by omega
   obtain ⟨va0,vc0,afU⟩:=hv.len;obtain ⟨ba0,bc0,WT⟩:=hr.len;have svv:cU N N=true:=by rw [afU];simp
   have svb:cU C C=true:=by rw [WT];simp
   simp (maxSteps:=9^7)-implicitDefEqProofs+contextual [-X.ev,tF,hH6,q,q5,svv,svb,JB,cc1,W,cc3,bh,aL,aM,afS,hm];apply ah
   ·(simp-implicitDefEqProofs [-X.ev];rfl)
   refine (mb (f:=103) (sz:=3) (bytes:=32) rfl rfl Dz (hv.ext Y) (by simp;omega) (by simp;omega)).mono ?_;rintro x H7 ⟨o7,X7,k7⟩;have x7x:=X7.nx;have Q:H.n0≤m:=by have:=J.nx;omega
   obtain ⟨wa,wc,Q5⟩:=o7.shape;rw [List.length_map]at Q5;obtain ⟨H8,s8,M8,Tv,BD,g8⟩:=bH (X7.get gm) (by rw [X7.n0,W,J.n0];exact Q) (k:=2) (vs:=[x]) (by simp);have QI:aI (oL p.w fuel l N C (.slice none 0 0) (.slice none 0 0)).cells 2 [x]=(oL p.w fuel l x C (.slice none 0 0) (.slice none 0 0)).cells:=rfl;rw [QI]at g8;obtain ⟨H9,s9,M9,V2,N5,g9⟩:=bH g8 (by rw [BD,X7.n0,W,J.n0];exact Q) (k:=3) (vs:=[.slice none 0 0]) (by simp);have QJ:aI (oL p.w fuel l x C (.slice none 0 0) (.slice none 0 0)).cells 3 [.slice none 0 0]=(oL p.w fuel l x (.slice none 0 0) (.slice none 0 0) (.slice none 0 0)).cells:=rfl;rw [QJ]at g9;have WU:Ext H4 H9:=((Y.trans X7).mod M8 (fun b a=>by omega)).mod M9 (fun b a=>by omega);have n9:H9.n0=H.n0:=WU.n0.trans J.n0;have WV:=WU.ld q2;have anR:=WU.ld r0;have hw9:=WU.wf qq;have LG:=WT;rw [hl.length]at LG;rw [LG]at WV;rw [Q5]at s8;simp (maxSteps:=9^7)-implicitDefEqProofs+contextual [-X.ev,Q5,s8,s9,WV];rw [←Q5]at s8;refine ch (fun k fr H'=>Mod (fun b=>b=m) H9 H'∧∃(i:Nat) (z:Value) (rs:List (List Value)),H'.get m=some (.cells 14 (oL p.w fuel l x z (.slice none 0 0) (.slice none 0 0)).cells)∧i+k=p.body.length∧fr.get 8= .pointer (some ⟨m,0,none⟩)∧fr.get 5= .pointer (some ⟨H1.nx,0,none⟩)∧fr.get 43=C∧fr.get 44= .int .i64 p.body.length∧fr.get 45= .int .i64 i∧dE H' 5 z rs∧rs.length=i∧eo (part H' H9.nx (aS z)) rs (p.body.take i)∧(∀b,aS z b→H9.nx≤b)) ?_ p.body.length ⟨Mod.refl _ _,0,.slice none 0 0,[],by simpa [Q5]using g9,by simp,by simp [hm],by simp,by simp [LG],by simp,by simp,dE.nil _ _,rfl,by simpa using eo.nil,fun b a=>absurd a (dG _ _ _)⟩;rintro k fr yX ⟨Z,i,z,rs,g10,hi,f8,f5,f43,f44,f45,ow,zy,aH,jN⟩;have Ra:=Z.wf hw9;have anS:=Z.nx;have Hq:Ext H4 yX:=WU.mod Z (fun b a=>by omega)
   have anT:au p.body≤400:=by
    simp only [bj,aqX,aq6]at B;exact B.2.1
   have ajC:=eI p.body;by_cases db:i<p.body.length
   ·obtain ⟨y,hy⟩:∃y,p.body[i]?=some y:=⟨_,aqU db⟩
    have t1:=eE hy;have t2:=bq p.body (i+1);have t3:=bq p.body i;obtain ⟨kL,yn,jq,oD,oE⟩:=y;obtain ⟨b,o,c',oF,oG,oH,V5,V6,V7,cD,bC,_,_,_,_,_,j1,j2,j3,j4,j5,e1,e2,e3,e4,e5,e6⟩:=gE.row (hr.ext Hq) (gE.ext Hq hl) hy;have EK:nk yX [.int .i64 kL,.int .i64 yn,oF,oG,oH] (.mk kL yn jq oD oE):=.mk j1 j2 j3 j4 j5 e1 e2 e3 e4 e5 e6;have Hr:=f43;rw [cD]at Hr;obtain ⟨A,sHa,L,anV,anW,u,TJ⟩:=dQ (H:=yX) Ra (z:=5) (c:=[.int .i64 0,.int .i64 0,.slice none 0 0,.slice none 0 0,.slice none 0 0]) (vs:=[.int .i64 kL,.int .i64 yn,oF,oG,oH]) rfl;have u0:A.ld ⟨yX.nx,0,none⟩=some (.int .i64 kL):=TJ 0 _ rfl;have u1:A.ld ⟨yX.nx,1,none⟩=some (.int .i64 yn):=TJ 1 _ rfl;have u2:A.ld ⟨yX.nx,2,none⟩=some oF:=TJ 2 _ rfl;have u3:A.ld ⟨yX.nx,3,none⟩=some oG:=TJ 3 _ rfl;have u4:A.ld ⟨yX.nx,4,none⟩=some oH:=TJ 4 _ rfl;clear TJ;replace u:A.ldn ⟨yX.nx,0,none⟩ 5=some [.int .i64 kL,.int .i64 yn,oF,oG,oH]:=u;have WW:=L.wf Ra;have ga:=L.get g10;have TK:A.n0=H.n0:=L.n0.trans (Z.n0.trans n9);have R:=aG ga (by rw [TK];exact Q) (k:=3) (v:=z) rfl;obtain ⟨za,zc,K⟩:=ow.shape;rw [zy]at K;have V:=xD (sz:=5) (z:=zS) (H:=A) (v:=.agg #[.int .i64 0,.int .i64 0,.slice none 0 0,.slice none 0 0,.slice none 0 0]) rfl rfl rfl;simp only [gh]at V;have s:=Ext.alloc A (.cells 5 zS);have gz:=cg A (.cells 5 zS)
    obtain ⟨Hb,hHb⟩:∃Hb,A.alloc (.cells 5 zS)=Hb:=⟨_,rfl⟩
    rw [hHb]at V s gz;have hwb:=s.wf WW
    have oz:dE Hb 5 (.slice (some ⟨A.nx,0,none⟩) 1 1) [zS]:=⟨.inr ⟨A.nx,rfl,by rw [s.n0];exact WW,by simpa using gz⟩,by simp⟩
    have xax:=L.nx;have xbx:=s.nx;rw [K]at R;simp (maxSteps:=9^7)-implicitDefEqProofs+contextual [-X.ev,Hr,f44,f45,f8,db,bC,sHa,u,R,V];apply ah
    ·(simp-implicitDefEqProofs [-X.ev];rfl)
    refine (DI _ _ _ Hb (aq9 _) hwb (nk.ext (L.trans s) EK) (by omega)).mono ?_;rintro xx Hc ⟨cs,rfl,hk5,D⟩;have hwc:=D.wf hwb;have xcx:=D.nx;obtain ⟨s',Hd,tp,od,Md,kd,WX⟩:=sk (bytes:=88) hwc ((ow.ext (L.trans s)).ext D) (oz.ext D).rows (by simp;omega) (by simp;omega);have WY:=hk5.len;obtain ⟨bd,U,He,sd,oe,Me,nxe,P⟩:=od.Q8 WY;have QG:∀b,aS z b→b<yX.nx:=fun b a=>ow.lt a
    have an2:m<H9.nx:=AH.aQ g9;have gd:=Md.get (fun q=>by have:=jN m q;omega) (D.get (s.get ga));have EG:aS s' bd:=by rw [U];exact (ba _ _ _ _ _).2 rfl
    have an3:=WX (by simp) bd EG;have ge:=Me.get (fun q=>by omega) gd;obtain ⟨Hf,sf,M,nxf,n0f,gf⟩:=bH ge (by rw [P,Md.n0,D.n0,s.n0,TK];exact Q) (k:=3) (vs:=[s']) (by simp);have afZ:aI (oL p.w fuel l x z (.slice none 0 0) (.slice none 0 0)).cells 3 [s']=(oL p.w fuel l x s' (.slice none 0 0) (.slice none 0 0)).cells:=rfl;rw [afZ]at gf;have Rb:=bf.1 R;have WZ:=D.ldn (s.ldn Rb);have W0:=s.ldn Rb;have gzc:=D.get gz;have mdx:=Md.nx;rw [zy]at sd U;have TA:Nat.beq bd m=false:=arA.2 fun h=>by have:=Nat.eq_of_beq_eq_true h;omega
    have n0d:=Md.n0;have n0c:=D.n0;have n0b:=s.n0;rw [K]at tp;rw [U]at tp sf;have af0:(i:Int)<(i:Int)+1:=by omega
    simp (maxSteps:=9^7)-implicitDefEqProofs+contextual [-X.ev,f45,tp,sd,sf,WY,af0,bh,aL,aM,Bq,cC,Rb,WZ,W0,gz,gzc,mG,vB,TA,n0d,n0c,n0b,P,n0f,xbx,xcx,mdx,nxe,nxf];rw [ai (n:=(i:Int)+1) ⟨by omega,by omega⟩];have MM:=(((Z.trans (Mod.bN ((L.trans s).trans D))).then Md (fun b a q=>by have:=jN b q;omega)).then Me (fun b a q=>by omega)).then M (fun b _ q=>q);have nn:Hf.n0=Hc.n0:=n0f.trans (P.trans n0d);refine ⟨k- 1,by omega,MM,i+1,s',gf,by omega,f8,f5,f43,f44,by simp,_,oe.mod M (fun b a q=>by have:=WX (by simp) b a;omega),by simp [zy],?_,fun b a=>by have:=WX (by simp) b a;omega⟩;rw [mf hy];refine eo.snoc (aH.sub (ec (nn.trans (n0c.trans (n0b.trans L.n0))) (by omega) fun b y a hn K=>?_)) (hk5.sub (ec nn (by omega) fun b y a hn K=>?_))
    ·have kb:=AH.aQ a
     exact ⟨M.get (fun q=>by omega) (Me.get (fun q=>by omega) (Md.get K (D.get (s.get (L.get a))))),hn,fun q=>by have:=WX (by simp) b q;omega⟩
    ·have kb:=AH.aQ a
     exact ⟨M.get (fun q=>by omega) (Me.get (fun q=>by omega) (Md.get (fun q=>by have:=QG b q;omega) a)),by omega,fun q=>by have:=WX (by simp) b q;omega⟩
   rw [aq1 (by omega)]at aH;have W1:=Hq.ld r0;have Hr:=f43;rw [LG]at Hr;simp (maxSteps:=9^7)-implicitDefEqProofs+contextual [-X.ev,Hr,f44,f45,f8,f5,db,W1];apply ah
   ·(simp-implicitDefEqProofs [-X.ev];rfl)
   refine (jU Ra (ss.ext Hq) (by omega)).mono ?_;rintro TM ZV ⟨Jy,TN,S⟩;have TK:yX.n0=H.n0:=Z.n0.trans n9;have an7:=TN.nx;obtain ⟨DG,Z2,Tw,Lq,n12,g12⟩:=bH (TN.get g10) (by rw [TN.n0,TK];exact Q) (k:=7) (vs:=[TM]) (by simp);have W2:aI (oL p.w fuel l x z (.slice none 0 0) (.slice none 0 0)).cells 7 [TM]=(oL p.w fuel l x z TM (.slice none 0 0)).cells:=rfl;rw [W2]at g12;have an8:m<H9.nx:=AH.aQ g9;have Re:Mod (fun b=>b=m) yX DG:=(Mod.bN TN).trans Tw;have MM7:Mod (fun b=>b=m) H7 DG:=((M8.trans M9).trans Z).trans Re;have MM5:Mod (fun b=>b=m) H5 DG:=(Mod.bN (X6.trans X7)).trans MM7;have GQ:DG.n0=H.n0:=n12.trans (TN.n0.trans TK);have af1:DG.n0≤DG.nx:=by rw [GQ,Lq];omega
   obtain ⟨v12,T⟩:∃v12,oL p.w fuel l x z TM (.slice none 0 0)=v12:=⟨_,rfl⟩
   have W3:∀b,Mf m v12 b↔b=m∨aS TM b:=by
    intro b;rw [←T];unfold Mf;simp only [dG,false_or,or_false]
   obtain ⟨G,hG⟩:∃G,part DG H.nx (Mf m v12)=G:=⟨_,rfl⟩
   have x04:=J.nx
   have o12:=(Jy.mod Tw (fun b a q=>by have:=S b a;omega))
   have vm:¬ aS TM m:=fun q=>by have:=S m q;omega
   have h12:MH G DG m v12 [] t.store [] []:=by
    subst hG T;exact {get:=g12,n0:=by rw [GQ];exact Q,sub:=BE _ _ _,wf:=af1,fr:=(dE.nil _ 2).QK,st:=o12,ou:=dE.nil _ 2,tr:=dE.nil _ 3,d1:=⟨dG _ _ _,vm,dG _ _ _,dG _ _ _⟩,d2:=fun b a=>absurd a (dG _ _ _),d3:=fun b a=>⟨dG _ _ _,dG _ _ _⟩,d4:=fun b a=>absurd a (dG _ _ _),out:=fun b a=>ud a}
   have W4:dE G 5 z rs:=by
    rw [←hG]
    exact (ow.mod Re (fun b a q=>by have:=jN b a;omega)).part fun b a=>⟨by have:=jN b a;omega,fun q=>by
     rw [W3]at q;rcases q with q|q
     ·have:=jN b a;omega
     ·have:=S b q;have:=ow.lt a;omega⟩
   have af2:eo G rs p.body:=by
    rw [←hG];refine aH.sub (ec (GQ.trans TK.symm) (by omega) fun b y a hn K=>?_);have kb:=AH.aQ a;refine ⟨Re.get (fun q=>by omega) a,by omega,fun q=>?_⟩;rw [W3]at q;rcases q with q|q
    ·omega
    ·have:=S b q;omega
   have W5:dE G 3 x (p.vars.map Vr.row):=by
    rw [←hG]
    refine (o7.mod MM7 (fun b a q=>by have:=k7 b a;omega)).part fun b a=>⟨by have:=k7 b a;omega,fun q=>?_⟩
    rw [W3]at q;rcases q with q|q
    ·have:=k7 b a;omega
    ·have:=S b q;have:=o7.lt a;have:=Tv;have:=V2;omega
   have af3:dE G 1 l (bI t.bM):=by
    rw [←hG]
    refine (o5.mod MM5 (fun b a q=>by have:=o5.lt a;omega)).part fun b a=>⟨by have:=k5 b a;omega,fun q=>?_⟩
    rw [W3]at q;rcases q with q|q
    ·have:=o5.lt a;omega
    ·have:=S b q;have:=o5.lt a;omega
   have l3:=aG g12 (by rw [GQ];exact Q) (k:=3) (v:=z) rfl;obtain ⟨za,zc,K⟩:=ow.shape;obtain ⟨sa,sc,Uc⟩:=Jy.shape;have af4:p.body.length≤2^30:=by omega
   have key:=oJ (k:=0) h12 W4.rows af2 W4.fit (fs:=[]) .nil (by simp) af4;rw [K]at l3 key;rw [Uc]at Z2;simp (maxSteps:=9^7)-implicitDefEqProofs+contextual [-X.ev,f8,Uc,Z2,l3,bh,aL,aM];apply ah
   ·(simp-implicitDefEqProofs [-X.ev];rfl)
   refine (key).mono ?_;rintro xx H13 ⟨mP,c8,qu,W6,af5,W7,W8⟩;have af6:=W6.mod.n0;have af7:=W6.mod.nx;simp (maxSteps:=9^7)-implicitDefEqProofs+contextual [-X.ev,f8,bh,aL,aM,af6,af7,I];have XX:Ext H DG:=(((J.trans Hq)).trans TN).mod Tw (fun b a=>by omega)
   have BM:∀b,Mf m v12 b→H.nx≤b:=fun b a=>by
    rw [W3]at a;rcases a with q|q
    ·omega
    ·have:=S b q;omega
   have fS:∀b x,G.get b=some x→H.nx≤b:=fun b x a=>by rw [←hG]at a;exact (iR.1 a).2.1
   refine ⟨G,_,{is:=⟨c8,W6.mh,fun _=>⟨qu,af5,by rw [W7];simp [lE,fO]⟩,by simp at W8;show _+2*fuel≤2^20;omega⟩,w:=by rw [←T],vars:=by rw [←T];exact W5.rows,cap:=by rw [←T];exact W5.cap,bM:=by rw [←T];exact af3.ints,mt:=by rw [←T];exact ⟨rfl,rfl,rfl,rfl,rfl,rfl⟩,inv:=g,ov:=fun q=>by cases q},XX.mod W6.mod BM,fun b a=>?_,fS⟩;rcases W6.new b a with q|q
   ·exact BM b q
   ·have:=XX.nx;omega
open Go
structure eK where
 en:Int
 store:List Int
 outs:List (Int×Int)
 trace:List Ev
 cost:Int
 used:Int
 wh:Int
def eZ.run (c:eZ):eK:=⟨c.en,c.store,c.outs,c.trace,c.cost,c.used,c.wh⟩
def BN:eK:=⟨0,[],[],[],0,0,0⟩
def Small (r:eK):Prop:=r.store.length≤2^40∧r.outs.length≤2^40∧r.trace.length≤2^40
structure kP (H:AH) (n:Nat) (cs:List Value) (r:eK):Prop where
 is:∃vs vo vt,cs=[.int .i64 r.en,vs,vo,vt,.int .i64 r.cost,.int .i64 r.used,.int .i64 r.wh]∧dE H 1 vs (bI r.store)∧dE H 2 vo (cQ r.outs)∧dE H 3 vt (du r.trace)∧(∀b,aS vs b∨aS vo b∨aS vt b→n≤b)
theorem kP.ext {H H':AH} {n:Nat} {cs:List Value} {r:eK} (X:Ext H H') (h:kP H n cs r):kP H' n cs r:=by
 obtain ⟨g,i,f,e,a,b,c,d⟩:=h.is;exact ⟨g,i,f,e,a.ext X,b.ext X,c.ext X,d⟩
theorem kP.zero (H:AH) (n:Nat):kP H n [.int .i64 0,.slice none 0 0,.slice none 0 0,.slice none 0 0,.int .i64 0,.int .i64 0,.int .i64 0] BN:=
 ⟨_,_,_,rfl,dE.nil _ _,dE.nil _ _,dE.nil _ _,fun b a=>by rcases a with q|q|q<;>exact absurd q (dG _ _ _)⟩
theorem DQ {H:AH} {r:eK} {vs vo vt:Value} (c:H.n0≤H.nx) (hs:Rows H 1 vs (bI r.store)) (ho:Rows H 2 vo (cQ r.outs)) (ht:Rows H 3 vt (du r.trace)) (e:Small r):
 Ca E O 115 [.agg #[.int .i64 r.en,vs,vo,vt,.int .i64 r.cost,.int .i64 r.used,.int .i64 r.wh]] H (fun x H'=>∃cs,x= .agg cs.toArray∧kP H' H.nx cs r∧Ext H H'):=by
 refine Ca.aV (F:=Ki) rfl rfl rfl ?_;obtain ⟨b1,b2,b3⟩:=e;have gB:=cg H (.cells 7 [.int .i64 r.en,vs,vo,vt,.int .i64 r.cost,.int .i64 r.used,.int .i64 r.wh]);have D:=Ext.alloc H (.cells 7 [.int .i64 r.en,vs,vo,vt,.int .i64 r.cost,.int .i64 r.used,.int .i64 r.wh]);have d0:(H.alloc (.cells 7 [.int .i64 r.en,vs,vo,vt,.int .i64 r.cost,.int .i64 r.used,.int .i64 r.wh])).ld ⟨H.nx,0,none⟩=some (.int .i64 r.en):=aj c rfl;have y:(H.alloc (.cells 7 [.int .i64 r.en,vs,vo,vt,.int .i64 r.cost,.int .i64 r.used,.int .i64 r.wh])).ld ⟨H.nx,1,none⟩=some vs:=aj c rfl;have w:(H.alloc (.cells 7 [.int .i64 r.en,vs,vo,vt,.int .i64 r.cost,.int .i64 r.used,.int .i64 r.wh])).ld ⟨H.nx,2,none⟩=some vo:=aj c rfl;have v:(H.alloc (.cells 7 [.int .i64 r.en,vs,vo,vt,.int .i64 r.cost,.int .i64 r.used,.int .i64 r.wh])).ld ⟨H.nx,3,none⟩=some vt:=aj c rfl;have d4:(H.alloc (.cells 7 [.int .i64 r.en,vs,vo,vt,.int .i64 r.cost,.int .i64 r.used,.int .i64 r.wh])).ld ⟨H.nx,4,none⟩=some (.int .i64 r.cost):=aj c rfl;have d5:(H.alloc (.cells 7 [.int .i64 r.en,vs,vo,vt,.int .i64 r.cost,.int .i64 r.used,.int .i64 r.wh])).ld ⟨H.nx,5,none⟩=some (.int .i64 r.used):=aj c rfl;have d6:(H.alloc (.cells 7 [.int .i64 r.en,vs,vo,vt,.int .i64 r.cost,.int .i64 r.used,.int .i64 r.wh])).ld ⟨H.nx,6,none⟩=some (.int .i64 r.wh):=aj c rfl;have d:(H.alloc (.cells 7 [.int .i64 r.en,vs,vo,vt,.int .i64 r.cost,.int .i64 r.used,.int .i64 r.wh])).ldn ⟨H.nx,0,none⟩ 7=some [.int .i64 r.en,vs,vo,vt,.int .i64 r.cost,.int .i64 r.used,.int .i64 r.wh]:=a7 c 7 rfl;generalize cz:H.alloc (.cells 7 [.int .i64 r.en,vs,vo,vt,.int .i64 r.cost,.int .i64 r.used,.int .i64 r.wh])=A at D d0 y w v d4 d5 d6 d;have bo:=D.wf c;rw [cz]at gB;have j:=Ext.alloc A (.cells 7 [.int .i64 0,.slice none 0 0,.slice none 0 0,.slice none 0 0,.int .i64 0,.int .i64 0,.int .i64 0]);have M:=cg A (.cells 7 [.int .i64 0,.slice none 0 0,.slice none 0 0,.slice none 0 0,.int .i64 0,.int .i64 0,.int .i64 0])
 obtain ⟨H2,kl⟩:∃H2,A.alloc (.cells 7 [.int .i64 0,.slice none 0 0,.slice none 0 0,.slice none 0 0,.int .i64 0,.int .i64 0,.int .i64 0])=H2:=⟨_,rfl⟩
 rw [kl]at j M;have Z:=j.wf bo;have z:=D.trans j;have ltB:=AH.aQ gB;have ltR:=AH.aQ M;have x1:=D.nx;have x2:=j.nx;replace y:=j.ld y;replace w:=j.ld w;replace v:=j.ld v;have u:=bf.1 y;have t:=bf.1 w;have s:=bf.1 v;obtain ⟨a1,c1,e1⟩:=hs.len;obtain ⟨a2,c2,e2⟩:=ho.len;obtain ⟨a3,c3,e3⟩:=ht.len;have s1:cU vs vs=true:=by rw [e1];simp
 have s2:cU vo vo=true:=by rw [e2];simp
 have s3:cU vt vt=true:=by rw [e3];simp
 simp (maxSteps:=9^7)-implicitDefEqProofs+contextual [-X.ev,Ki,cz,kl,y,w,v];apply ah
 ·(simp-implicitDefEqProofs [-X.ev];rfl)
 refine (jU (l:=r.store) Z (hs.ext z) b1).mono ?_;rintro xs H3 ⟨Q,g,W⟩;have Y:=g.wf Z;simp (maxSteps:=9^7)-implicitDefEqProofs+contextual [-X.ev];apply ah
 ·(simp-implicitDefEqProofs [-X.ev];rfl)
 refine (mb (f:=147) (sz:=2) (bytes:=16) rfl rfl Y (ho.ext (z.trans g)) (by simp [cQ];omega) (by simp [cQ];omega)).mono ?_;rintro a H4 ⟨P,i,V⟩;have qq:=i.wf Y;simp (maxSteps:=9^7)-implicitDefEqProofs+contextual [-X.ev];apply ah
 ·(simp-implicitDefEqProofs [-X.ev];rfl)
 refine (mb (f:=148) (sz:=3) (bytes:=24) rfl rfl qq (ht.ext ((z.trans g).trans i)) (by simp [du];omega) (by simp [du];omega)).mono ?_;rintro xt H5 ⟨N,o,U⟩;have x3:=g.nx;have x4:=i.nx;have x5:=o.nx;obtain ⟨f1,g1,h1⟩:=Q.shape;obtain ⟨f2,g2,h2⟩:=P.shape;obtain ⟨f3,g3,h3⟩:=N.shape;have h:=g.trans (i.trans o);have n:H5.n0=H.n0:=h.n0.trans z.n0;obtain ⟨H6,t6,M6,G,m,Z6⟩:=bH (h.get (j.get gB)) (by rw [n];exact c) (k:=1) (vs:=[xs]) (by simp);rw [show aI [Value.int .i64 r.en,vs,vo,vt,.int .i64 r.cost,.int .i64 r.used,.int .i64 r.wh] 1 [xs]=[.int .i64 r.en,xs,vo,vt,.int .i64 r.cost,.int .i64 r.used,.int .i64 r.wh] from rfl]at Z6;obtain ⟨H7,t7,M7,Z1,p,V8⟩:=bH Z6 (by rw [m,n];exact c) (k:=2) (vs:=[a]) (by simp);rw [show aI [Value.int .i64 r.en,xs,vo,vt,.int .i64 r.cost,.int .i64 r.used,.int .i64 r.wh] 2 [a]=[.int .i64 r.en,xs,a,vt,.int .i64 r.cost,.int .i64 r.used,.int .i64 r.wh] from rfl]at V8;obtain ⟨H8,t8,M8,Tv,B,V9⟩:=bH V8 (by rw [p,m,n];exact c) (k:=3) (vs:=[xt]) (by simp);rw [show aI [Value.int .i64 r.en,xs,a,vt,.int .i64 r.cost,.int .i64 r.used,.int .i64 r.wh] 3 [xt]=[.int .i64 r.en,xs,a,xt,.int .i64 r.cost,.int .i64 r.used,.int .i64 r.wh] from rfl]at V9;have l8:H8.ldn ⟨H.nx,0,none⟩ 7=some [.int .i64 r.en,xs,a,xt,.int .i64 r.cost,.int .i64 r.used,.int .i64 r.wh]:=by rw [bB V9 (by rw [B,p,m,n];exact c) (by simp)];rfl
 have L:=M8.get (fun q=>by omega) (M7.get (fun q=>by omega) (M6.get (fun q=>by omega) (h.get M)));obtain ⟨H9,t9,M9,V2,N5,Wa⟩:=bH L (by rw [B,p,m,n];omega) (k:=0) (vs:=[.int .i64 r.en,xs,a,xt,.int .i64 r.cost,.int .i64 r.used,.int .i64 r.wh]) (by simp);rw [show aI [Value.int .i64 0,.slice none 0 0,.slice none 0 0,.slice none 0 0,.int .i64 0,.int .i64 0,.int .i64 0] 0 [.int .i64 r.en,xs,a,xt,.int .i64 r.cost,.int .i64 r.used,.int .i64 r.wh]=[.int .i64 r.en,xs,a,xt,.int .i64 r.cost,.int .i64 r.used,.int .i64 r.wh] from rfl]at Wa;have l9:H9.ldn ⟨A.nx,0,none⟩ 7=some [.int .i64 r.en,xs,a,xt,.int .i64 r.cost,.int .i64 r.used,.int .i64 r.wh]:=by rw [bB Wa (by rw [N5,B,p,m,n];omega) (by simp)];rfl
 have K:=g.ldn u;have T:=g.ldn t;have S:=g.ldn s;have J:=i.ldn T;have R:=i.ldn S;have I:=o.ldn R;have i1:cw xs=false:=by rw [h1];rfl
 have i2:cw a=false:=by rw [h2];rfl
 have i3:cw xt=false:=by rw [h3];rfl
 have v1:aR xs=[xs]:=by rw [h1];rfl
 have v2:aR a=[a]:=by rw [h2];rfl
 have v3:aR xt=[xt]:=by rw [h3];rfl
 simp (maxSteps:=9^7)-implicitDefEqProofs+contextual [-X.ev,i1,i2,i3,v1,v2,v3,t6,t7,t8,l8,t9,l9,s1,s2,s3,u,t,s,K,T,S,J,R,I,g.n0,i.n0,o.n0,x3,x4,x5,m,p,B,G,Z1,Tv,bh,aL,aM];have C:Mod (fun b=>b=H.nx∨b=A.nx) H5 H9:=(((M6.mono fun b _ q=>.inl q).trans (M7.mono fun b _ q=>.inl q)).trans (M8.mono fun b _ q=>.inl q)).trans (M9.mono fun b _ q=>.inr q);refine ⟨⟨xs,a,xt,rfl,(Q.ext (i.trans o)).mod C (fun b e q=>by have:=W b e;omega),(P.ext o).mod C (fun b e q=>by have:=V b e;omega),N.mod C (fun b e q=>by have:=U b e;omega),fun b e=>?_⟩,(z.trans h).mod C (fun b e=>by omega)⟩;rcases e with q|q|q
 ·have:=W b q;omega
 ·have:=V b q;omega
 ·have:=U b q;omega
end
section
open Go
def iterM (p:bw) (ps:List Int):Nat→eZ→eZ
 |0,c=>c
 |n+1,c=>iterM p ps n (dB p ps c)
def sL (p:bw) (ps:List Int) (c:eZ):eZ:=iterM p ps (c.fuel.toNat+1) c
theorem sM {p:bw} {ps:List Int} {c:eZ} (h:dC c=true):dB p ps c=c:=by
 unfold dC at h;unfold dB;by_cases a:c.over=true
 ·rw [if_pos a]
 ·rw [if_neg a]
  simp only [Bool.or_eq_true,List.isEmpty_iff]at h;rw [h.resolve_left a]
theorem nA {p:bw} {ps:List Int} {c:eZ} (h:dC c=true):∀n,iterM p ps n c=c
 |0=>rfl
 |n+1=>by rw [iterM,sM h];exact nA h n
theorem DR {p:bw} {ps:List Int} {c:eZ} (h:dC c=false) (h2:(dB p ps c).over=false):c.fuel≠0∧(dB p ps c).fuel=c.fuel- 1:=by
 unfold dC at h;simp only [Bool.or_eq_false_iff]at h;unfold dB at h2⊢;rw [if_neg (by rw [h.1];decide)]at h2⊢
 cases b:c.todo with
 |nil=>rw [b]at h;simp at h
 |cons it next=>
  obtain ⟨k,s⟩:=it;rw [b]at h2;by_cases a:c.fuel=0
  ·simp only [if_pos a]at h2
   cases h2
  ·refine ⟨a,?_⟩
   simp only [if_neg a];rw [xR];rfl
theorem Hs {p:bw} {ps:List Int} {c:eZ} (h:(!dC c&& !(dB p ps c).over)=false):sL p ps c=dB p ps c:=by
 unfold sL
 cases a:dC c with
 |true=>rw [nA a,sM a]
 |false=>
  rw [a]at h;simp at h;rw [iterM];exact nA (by simp [dC,h]) _
theorem Rf {p:bw} {ps:List Int} {c:eZ} (b:0≤c.fuel) (h:(!dC c&& !(dB p ps c).over)=true):sL p ps (dB p ps c)=sL p ps c∧(dB p ps c).fuel=c.fuel- 1∧0<c.fuel:=by
 simp only [aqX,Bool.not_eq_true']at h;obtain ⟨d,h2⟩:=DR h.1 h.2;refine ⟨?_,h2,by omega⟩;unfold sL;rw [h2]
 obtain ⟨n,a⟩:∃n:Nat,c.fuel=n+1:=⟨c.fuel.toNat- 1,by omega⟩
 rw [a];simp only [Int.add_sub_cancel,Int.toNat_natCast];rw [show((n:Int)+1).toNat=n+1 by omega]
 conv=>rhs;rw [iterM]
theorem DS {p:bw} {ps:List Int} {c:eZ} (h:Inv p ps c):Small c.run:=by
 have e:=h.tr;have h2:=h.ou;have d:=h.fuel;have a:=h.store;simp only [bK,aqX,aq6]at a;have b:=(ko h.head).2.2;refine ⟨?_,?_,?_⟩
 ·show c.store.length≤_;omega
 ·show c.outs.length≤_;omega
 ·show c.trace.length≤_;omega
theorem LH {G H:AH} {m:Nat} {p:bw} {ps:List Int} {v:MV} {c:eZ} (h:sK G H m p ps v c):
 Ca E O 79 [.pointer (some ⟨m,0,none⟩)] H (fun x H'=>∃cs,x= .tuple #[.agg cs.toArray,.bool (dC c)]∧kP H' H.nx cs c.run∧Ext H H'):=by
 refine Ca.aV (F:=UW) rfl rfl rfl ?_;obtain ⟨rows,z,DC,uW⟩:=h.is;obtain ⟨m1,m2,m3,m4,m5,m6⟩:=h.mt;have K:=z.wf;have t:=Ext.alloc H (.cells 7 [.int .i64 0,.slice none 0 0,.slice none 0 0,.slice none 0 0,.int .i64 0,.int .i64 0,.int .i64 0]);have n:=cg H (.cells 7 [.int .i64 0,.slice none 0 0,.slice none 0 0,.slice none 0 0,.int .i64 0,.int .i64 0,.int .i64 0])
 obtain ⟨H1,cz⟩:∃H1,H.alloc (.cells 7 [.int .i64 0,.slice none 0 0,.slice none 0 0,.slice none 0 0,.int .i64 0,.int .i64 0,.int .i64 0])=H1:=⟨_,rfl⟩
 rw [cz]at t n;have i:=z.ext t;have x1:=t.nx;have w:=aG i.get i.n0 (k:=13) (v:=.bool v.ended) rfl;have T:=aG i.get i.n0 (k:=0) (v:=v.vf) rfl
 have A:H1.ldn ⟨m,6,none⟩ 7=some [.int .i64 c.run.en,v.vs,v.vo,v.vt,.int .i64 c.run.cost,.int .i64 c.run.used,.int .i64 c.run.wh]:=by
  rw [bB i.get i.n0 (by simp)];show some [Value.int .i64 v.en,v.vs,v.vo,v.vt,.int .i64 v.cost,.int .i64 v.used,.int .i64 v.wh]=_;rw [m1,m2,m3,m4];rfl
 have ltm:=z.lt (.inl rfl);obtain ⟨fa,fc,W⟩:=z.fr.shape;have key:=DQ (r:=c.run) i.wf i.st.rows i.ou.rows i.tr.rows (DS h.inv);obtain ⟨a1,c1,e1⟩:=z.st.shape;obtain ⟨a2,c2,e2⟩:=z.ou.shape;obtain ⟨a3,c3,e3⟩:=z.tr.shape;have s1:cU v.vs v.vs=true:=by rw [e1];simp
 have s2:cU v.vo v.vo=true:=by rw [e2];simp
 have s3:cU v.vt v.vt=true:=by rw [e3];simp
 have TA:Nat.beq m H.nx=false:=arA.2 fun h=>by have:=Nat.eq_of_beq_eq_true h;omega
 have B:dC c=(c.over||decide (rows.length=0)):=by
  unfold dC
  cases L:c.over with
  |true=>rfl
  |false=>
   obtain ⟨fs,Z,LF⟩:=DC L;rw [Bool.false_or,Bool.false_or,art,List.isEmpty_iff,aq6,LF];constructor
   ·intro q
    rcases List.eq_nil_or_concat fs with rfl|⟨dS,f,Xf⟩
    ·rw [xP Z];rfl
    ·rw [List.concat_eq_append]at Xf
     subst Xf;obtain ⟨_,_,rfl,_,_,_,_,_,_,_,fm,_⟩:=pJ Z;rw [iV]at q;simp at q;obtain ⟨l,k⟩:=f
     cases l with
     |nil=>exact absurd rfl fm
     |cons s l=>rw [ku]at q;simp at q
   ·intro q
    have:rows=[]:=arv q;subst this;cases Z;rfl
 rw [m6]at w;rw [W]at T;have qJ:((rows.length:Int)=0)↔rows=[]:=by rw [←arp];omega
 cases L:c.over with
 |true=>
  rw [L]at w B;simp (maxSteps:=9^7)-implicitDefEqProofs+contextual [-X.ev,UW,cz,A,w];apply ah
  ·(simp-implicitDefEqProofs [-X.ev];rfl)
  refine (key).mono ?_;rintro xx H2 ⟨cs,rfl,I,d⟩;have N:=d.nx;have j:cs.length=7:=by obtain ⟨_,_,_,e,_⟩:=I.is;rw [e];rfl
  obtain ⟨H3,Q,u,U,D,J⟩:=bH (d.get n) (by rw [d.n0,t.n0];exact K) (k:=0) (vs:=cs) (by simp [j]);have Y:=gq [Value.int .i64 0,.slice none 0 0,.slice none 0 0,.slice none 0 0,.int .i64 0,.int .i64 0,.int .i64 0] cs (by rw [j];rfl);rw [Y]at J;have V:H3.ldn ⟨H.nx,0,none⟩ 7=some cs:=by rw [bB J (by rw [D,d.n0,t.n0];exact K) (by omega)];simp [aq1 (Nat.le_of_eq j)]
  have y:=d.ldn A;have C:=bf.1 w;have R:=d.ldn C;have M:=d.n0;simp (maxSteps:=9^7)-implicitDefEqProofs+contextual [-X.ev,j,Q,V,B,A,y,C,R,s1,s2,s3,N,M,U,D,bh,aL,aM,Bq,cC,TA];refine ⟨?_,t.trans d|>.mod u (fun b hb=>by omega)⟩;obtain ⟨us,P,ut,e,a,b,cc,o⟩:=I.is;exact ⟨us,P,ut,e,a.mod u (fun q g e=>by have:=o q (.inl g);have:=AH.aQ n;omega),b.mod u (fun q g e=>by have:=o q (.inr (.inl g));have:=AH.aQ n;omega),cc.mod u (fun q g e=>by have:=o q (.inr (.inr g));have:=AH.aQ n;omega),fun q g=>by have:=o q g;omega⟩
 |false=>
  rw [L]at w B
  obtain ⟨F,hF⟩:∃F,dC c=F:=⟨_,rfl⟩
  rw [hF]at B⊢;have hd:decide (rows=[])=F:=by rw [B,Bool.false_or,art,aq6,aq6,arp]
  have Bc:decide (rows.length=0)=F:=by rw [B,Bool.false_or]
  have hd3:decide ((rows.length:Int)=0)=F:=by rw [←Bc,art,aq6,aq6];omega
  have r0n:=T;simp (maxSteps:=9^7)-implicitDefEqProofs+contextual [-X.ev,UW,cz,A,w];apply ah
  ·(simp-implicitDefEqProofs [-X.ev];rfl)
  refine (key).mono ?_;rintro xx H2 ⟨cs,rfl,I,d⟩;have N:=d.nx;have j:cs.length=7:=by obtain ⟨_,_,_,e,_⟩:=I.is;rw [e];rfl
  obtain ⟨H3,Q,u,U,D,J⟩:=bH (d.get n) (by rw [d.n0,t.n0];exact K) (k:=0) (vs:=cs) (by simp [j]);have Y:=gq [Value.int .i64 0,.slice none 0 0,.slice none 0 0,.slice none 0 0,.int .i64 0,.int .i64 0,.int .i64 0] cs (by rw [j];rfl);rw [Y]at J;have V:H3.ldn ⟨H.nx,0,none⟩ 7=some cs:=by rw [bB J (by rw [D,d.n0,t.n0];exact K) (by omega)];simp [aq1 (Nat.le_of_eq j)]
  have y:=d.ldn A;have C:=bf.1 w;have R:=d.ldn C;have S:=d.ld T;have M:=d.n0;simp (maxSteps:=9^7)-implicitDefEqProofs+contextual [-X.ev,j,Q,V,hd,S,A,y,C,R,s1,s2,s3,N,M,U,D,bh,aL,aM,Bq,cC,TA];refine ⟨?_,t.trans d|>.mod u (fun b hb=>by omega)⟩;obtain ⟨us,P,ut,e,a,b,cc,o⟩:=I.is;exact ⟨us,P,ut,e,a.mod u (fun q g e=>by have:=o q (.inl g);have:=AH.aQ n;omega),b.mod u (fun q g e=>by have:=o q (.inr (.inl g));have:=AH.aQ n;omega),cc.mod u (fun q g e=>by have:=o q (.inr (.inr g));have:=AH.aQ n;omega),fun q g=>by have:=o q g;omega⟩
open Go
abbrev zR:List Value:=[.int .i64 0,.slice none 0 0,.slice none 0 0,.slice none 0 0,.int .i64 0,.int .i64 0,.int .i64 0]
def jD (p:bw) (fuel:Int) (t:eY):eK:=if fV p fuel t=0 then(sL p t.bM (fO p fuel t)).run else BN
theorem kP.len {H:AH} {n:Nat} {cs:List Value} {r:eK} (h:kP H n cs r):cs.length=7:=by obtain ⟨_,_,_,e,_⟩:=h.is;rw [e];rfl
theorem kP.mod {H H':AH} {n:Nat} {S:Nat→Prop} {cs:List Value} {r:eK} (h:kP H n cs r) (M:Mod S H H') (g:∀b,S b→b<n):kP H' n cs r:=by
 obtain ⟨us,i,ut,e,a,b,c,d⟩:=h.is;exact ⟨us,i,ut,e,a.mod M (fun q f e=>by have:=d q (.inl f);have:=g q e;omega),b.mod M (fun q f e=>by have:=d q (.inr (.inl f));have:=g q e;omega),c.mod M (fun q f e=>by have:=d q (.inr (.inr f));have:=g q e;omega),d⟩
theorem kP.le {H:AH} {n k:Nat} {cs:List Value} {r:eK} (h:kP H n cs r) (i:k≤n):kP H k cs r:=by
 obtain ⟨us,f,ut,e,a,b,c,d⟩:=h.is;exact ⟨us,f,ut,e,a,b,c,fun q g=>arh i (d q g)⟩
theorem LI {p:bw} {t:eY} {c d:List Value} {fuel:Int} {H:AH} (U:H.n0≤H.nx) (Y:pD H c p) (V:xj H d t):
 Ca E O 47 [.agg c.toArray,.int .i64 fuel,.agg d.toArray] H (fun x H'=>∃cs,x= .tuple #[.agg cs.toArray,.int .i64 (fV p fuel t)]∧kP H' H.nx cs (jD p fuel t)∧Ext H H'):=by
 refine Ca.aV (F:=Y2) rfl rfl rfl ?_;have hc:=Y.len;have hd:d.length=2:=by obtain ⟨vs,vp,e,_⟩:=V.is;rw [e];rfl
 have D:=Ext.alloc H (.cells c.length c);have q:(H.alloc (.cells c.length c)).ldn ⟨H.nx,0,none⟩ 3=some c:=a7 U 3 (by assumption);generalize cz:H.alloc (.cells c.length c)=I at D q;have R:=D.wf U;have w:=Ext.alloc I (.cells d.length d);have r:(I.alloc (.cells d.length d)).ldn ⟨I.nx,0,none⟩ 2=some d:=a7 R 2 (by assumption);generalize kl:I.alloc (.cells d.length d)=j at w r;have iP:=w.wf R;replace q:=w.ldn q;have u:=Ext.alloc j (.cells 7 zR);have B:=cg j (.cells 7 zR)
 obtain ⟨H3,Lw⟩:∃H3,j.alloc (.cells 7 zR)=H3:=⟨_,rfl⟩
 rw [Lw]at u B;have T:=u.wf iP;have X:=(D.trans w).trans u;replace q:=u.ldn q;replace r:=u.ldn r;have x1:=D.nx;have x2:=w.nx;have ltR:=AH.aQ B;have l7:H3.n0=H.n0:=X.n0;have a:H3.n0≤j.nx:=by rw [l7];omega
 have k1:=Q9 (fuel:=fuel) T (Y.ext X) (V.ext X);simp (maxSteps:=9^7)-implicitDefEqProofs+contextual [-X.ev,Y2,cz,kl,Lw,q,r];apply ah
 ·(simp-implicitDefEqProofs [-X.ev];rfl)
 refine (k1).mono ?_;rintro x H4 y;by_cases l:fV p fuel t=0
 case neg=>
  rw [if_neg l]at y;obtain ⟨rfl,o⟩:=y;obtain ⟨H5,t5,M5,NY,xB,g5⟩:=bH (o.get B) (by rw [o.n0];exact a) (k:=0) (vs:=zR) (by simp);rw [gq _ _ rfl]at g5;have l5:H5.ldn ⟨j.nx,0,none⟩ 7=some zR:=by rw [bB g5 (by rw [xB,o.n0];exact a) (by simp)];rfl
  have tF:eD zR []=some (.agg zR.toArray):=rfl;simp (maxSteps:=9^7)-implicitDefEqProofs+contextual [-X.ev,l,tF,t5,l5];have XX:=(X.trans o).mod M5 (fun b A=>by omega);exact ⟨by rw [jD,if_neg l];exact kP.zero _ _,XX⟩
 rw [if_pos l]at y;obtain ⟨m,rfl,G,v,hM,o,BM,hG⟩:=y
 obtain ⟨fin,LJ⟩:∃f,sL p t.bM (fO p fuel t)=f:=⟨_,rfl⟩
 simp (maxSteps:=9^7)-implicitDefEqProofs+contextual [-X.ev];refine ch (fun k K H'=>K.get 8= .pointer (some ⟨m,0,none⟩)∧K.get 6= .pointer (some ⟨j.nx,0,none⟩)∧Ext H3 H'∧∃v P,sK G H' m p t.bM v P∧sL p t.bM P=fin∧(∀b,Mf m v b→H3.nx≤b)∧k=P.fuel.toNat) ?_ _ ⟨by simp,by simp,o,v,_,hM,LJ,BM,rfl⟩;rintro k K H5 ⟨L,M,X5,v5,N,s,Oh,Z,rfl⟩;simp (maxSteps:=9^7)-implicitDefEqProofs+contextual [-X.ev,L];apply ah
 ·(simp-implicitDefEqProofs [-X.ev];rfl)
 refine (LD s).mono ?_;rintro x H6 ⟨rfl,Q,i,M6,J,WS⟩;have C:Ext H3 H6:=X5.mod M6 Z
 have Rg:∀b,Mf m Q b→H3.nx≤b:=fun b A=>by
  rcases J b A with q|q
  ·exact Z b q
  ·have:=X5.nx;omega
 cases g:(!dC N&& !(dB p t.bM N).over)with
 |true=>
  obtain ⟨g1,g2,g3⟩:=Rf s.inv.fuel.1 g;simp (maxSteps:=9^7)-implicitDefEqProofs+contextual [-X.ev,g,L,M];exact ⟨_,by omega,C,Q,_,i,g1.trans Oh,Rg,rfl⟩
 |false=>
  have hs:dB p t.bM N=fin:=(Hs g).symm.trans Oh;rw [hs]at i;simp (maxSteps:=9^7)-implicitDefEqProofs+contextual [-X.ev,g,L,M];apply ah
  ·(simp-implicitDefEqProofs [-X.ev];rfl)
  refine (LH i).mono ?_;rintro x H7 ⟨cs,rfl,W,X7⟩;have n:=W.len;have S:=(C.trans X7).wf T;obtain ⟨H8,s8,X8,Tv,BD,g8⟩:=iq S (z:=7) (c:=zR) (vs:=cs) (by rw [n];rfl);have h:=(C.trans X7).trans X8;have l8:H8.ldn ⟨H7.nx,0,none⟩ 7=some cs:=by rw [bB g8 (by rw [BD];exact S) (by omega)];simp [aq1 (Nat.le_of_eq n)]
  obtain ⟨H9,t9,M9,V2,N5,g9⟩:=bH (h.get B) (by rw [h.n0];exact a) (k:=0) (vs:=cs) (by simp [n]);rw [gq _ _ (by rw [n];rfl)]at g9;have l9:H9.ldn ⟨j.nx,0,none⟩ 7=some cs:=by rw [bB g9 (by rw [N5,h.n0];exact a) (by omega)];simp [aq1 (Nat.le_of_eq n)]
  have x38:=C.nx;simp (maxSteps:=9^7)-implicitDefEqProofs+contextual [-X.ev,n,s8,l8,M,t9,l9];refine ⟨cs,⟨rfl,l.symm⟩,?_,(X.trans h).mod M9 (fun b A=>by omega)⟩;rw [jD,if_pos l,LJ];exact ((W.ext X8).mod M9 (fun b A=>by omega)).le (by omega)
end
end Go.Proofs.YtppcmpmnglaleaaGreatDoor.A
