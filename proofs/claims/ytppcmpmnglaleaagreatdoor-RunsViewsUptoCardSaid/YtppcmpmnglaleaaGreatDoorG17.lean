/- Texts that stand one behind the other: S40, S41, S42, S43, S44, S45, S46, S47, S48, S49, S50, S51, S52. -/
import Derived.Test.YtppcmpmnglaleaaGreatDoorG16
set_option linter.unusedVariables false
set_option linter.unusedSimpArgs false
set_option maxRecDepth 10000
namespace Go.Proofs.YtppcmpmnglaleaaGreatDoor.A
open Go
section
variable{G H H':AH} {m:Nat} {v:MV} {rows cD:List (List Value)} {store:List Int} {outs qO:List (Int×Int)} {trace qN:List Ev}
theorem MH.abf {vf:Value} (h:MH G H m v rows store outs trace) (M:Mod (fun b=>b=m∨aN v.vf b) H H') (g:H'.get m=some (.cells 14 ({v with vf:=vf}:MV).cells)) (o:eC H' 2 vf cD) (hf:∀b,aN vf b→aN v.vf b∨H.nx≤b):MH G H' m {v with vf:=vf} cD store outs trace where
 get:=g
 n0:=by rw [M.n0];exact h.n0
 sub:=h.sub.mod M fun b hb=>h.out b (by rcases hb with q|q;exact .inl q;exact .inr (.inl q))
 wf:=M.wf h.wf
 fr:=o
 st:=h.st.mod M fun b hb q=>by rcases q with rfl|q;exact h.d1.2.1 hb;exact (h.d2 b q).1 hb
 ou:=h.ou.mod M fun b hb q=>by rcases q with rfl|q;exact h.d1.2.2.1 hb;exact (h.d2 b q).2.1 hb
 tr:=h.tr.mod M fun b hb q=>by rcases q with rfl|q;exact h.d1.2.2.2 hb;exact (h.d2 b q).2.2 hb
 d1:=⟨fun q=>by rcases hf m q with q|q;exact h.d1.1 q;have:=h.lt (.inl rfl);omega,h.d1.2.1,h.d1.2.2.1,h.d1.2.2.2⟩
 d2:=fun b hb=>by
  rcases hf b hb with q|q
  ·exact h.d2 b q
  ·exact ⟨fun k=>by have:=h.lt (.inr (.inr (.inl k)));omega,fun k=>by have:=h.lt (.inr (.inr (.inr (.inl k))));omega,fun k=>by have:=h.lt (.inr (.inr (.inr (.inr k))));omega⟩
 d3:=h.d3
 d4:=h.d4
 out:=fun b hb=>by
  rcases hb with q|q|q
  ·exact h.out b (.inl q)
  ·rcases hf b q with q|q
   ·exact h.out b (.inr (.inl q))
   ·exact AH.pU (Nat.le_trans h.sub.nx q)
  ·exact h.out b (.inr (.inr q))
theorem MH.SA {vo:Value} (h:MH G H m v rows store outs trace) (M:Mod (fun b=>b=m∨aN v.vo b) H H') (g:H'.get m=some (.cells 14 ({v with vo:=vo}:MV).cells)) (o:c9 H' 2 vo (cz qO)) (hf:∀b,aN vo b→aN v.vo b∨H.nx≤b):MH G H' m {v with vo:=vo} rows store qO trace where
 get:=g
 n0:=by rw [M.n0];exact h.n0
 sub:=h.sub.mod M fun b hb=>h.out b (by rcases hb with q|q;exact .inl q;exact .inr (.inr (.inr (.inl q))))
 wf:=M.wf h.wf
 fr:=h.fr.mod M fun b hb q=>by rcases q with rfl|q;exact h.d1.1 hb;exact (h.d2 b hb).2.1 q
 st:=h.st.mod M fun b hb q=>by rcases q with rfl|q;exact h.d1.2.1 hb;exact (h.d3 b hb).1 q
 ou:=o
 tr:=h.tr.mod M fun b hb q=>by rcases q with rfl|q;exact h.d1.2.2.2 hb;exact h.d4 b q hb
 d1:=⟨h.d1.1,h.d1.2.1,fun q=>by rcases hf m q with q|q;exact h.d1.2.2.1 q;have:=h.lt (.inl rfl);omega,h.d1.2.2.2⟩
 d2:=fun b hb=>⟨(h.d2 b hb).1,fun q=>by rcases hf b q with q|q;exact (h.d2 b hb).2.1 q;have:=h.lt (.inr (.inl hb));omega,(h.d2 b hb).2.2⟩
 d3:=fun b hb=>⟨fun q=>by rcases hf b q with q|q;exact (h.d3 b hb).1 q;have:=h.lt (.inr (.inr (.inl hb)));omega,(h.d3 b hb).2⟩
 d4:=fun b hb q=>by rcases hf b hb with k|k;exact h.d4 b k q;have:=h.lt (.inr (.inr (.inr (.inr q))));omega
 out:=fun b hb=>by
  rcases hb with q|q|q|q|q
  ·exact h.out b (.inl q)
  ·exact h.out b (.inr (.inl q))
  ·exact h.out b (.inr (.inr (.inl q)))
  ·rcases hf b q with q|q
   ·exact h.out b (.inr (.inr (.inr (.inl q))))
   ·exact AH.pU (Nat.le_trans h.sub.nx q)
  ·exact h.out b (.inr (.inr (.inr (.inr q))))
theorem MH.Nw {v':MV} (h:MH G H m v rows store outs trace) (M:Mod (fun b=>b=m) H H') (g:H'.get m=some (.cells 14 v'.cells)) (e1:v'.vf=v.vf) (e2:v'.vs=v.vs) (e3:v'.vo=v.vo) (e4:v'.vt=v.vt):MH G H' m v' rows store outs trace where
 get:=g
 n0:=by rw [M.n0];exact h.n0
 sub:=h.sub.mod M fun b hb=>h.out b (.inl hb)
 wf:=M.wf h.wf
 fr:=by rw [e1];exact h.fr.mod M fun b hb q=>h.d1.1 (q▸hb)
 st:=by rw [e2];exact h.st.mod M fun b hb q=>h.d1.2.1 (q▸hb)
 ou:=by rw [e3];exact h.ou.mod M fun b hb q=>h.d1.2.2.1 (q▸hb)
 tr:=by rw [e4];exact h.tr.mod M fun b hb q=>h.d1.2.2.2 (q▸hb)
 d1:=by rw [e1,e2,e3,e4];exact h.d1
 d2:=by rw [e1,e2,e3,e4];exact h.d2
 d3:=by rw [e2,e3,e4];exact h.d3
 d4:=by rw [e3,e4];exact h.d4
 out:=fun b hb=>h.out b (by unfold Mf at hb⊢;rw [e1,e2,e3,e4]at hb;exact hb)
theorem lZ {x:Value}:∀{l:List Value} {k:Nat},k<l.length→aF l k [x]=l.set k x
 |y::l,0,_=>by simp [aF]
 |y::l,k+1,h=>by simp only [aF,List.set_cons_succ];rw [lZ (by simpa using h)]
theorem gv (l:List Int):(bz l).flatten=l.map (fun n=>.int .i64 n):=by
 induction l with
 |nil=>rfl
 |cons x l ih=>simp only [bz,List.map_cons,List.flatten_cons,List.singleton_append]at ih⊢;rw [ih]
theorem MH.abg {k:Nat} (a:Int) (h:MH G H m v rows store outs trace) (hk:k<store.length):∃b H',v.vs= .slice (some ⟨b,0,none⟩) store.length store.length∧H.st ⟨b,k,none⟩ [.int .i64 a]=some H'∧MH G H' m v rows (store.set k a) outs trace∧Mod (Mf m v) H H'∧H'.nx=H.nx∧H'.n0=H.n0:=by
 rcases h.st.is with⟨_,e⟩|⟨b,e,h0,g⟩
 · have:=congrArg List.length e;simp [bz]at this;subst this;simp at hk
 rw [gv]at g
 have el:(bz store).length=store.length:=by simp [bz]
 rw [el]at e
 have hb:aN v.vs b:=by rw [e];exact (aW _ _ _ _ _).2 rfl
 obtain ⟨H',st,M,nx,n0,g'⟩:=bw g h0 (k:=k) (vs:=[.int .i64 a]) (by simp;omega)
 rw [lZ (by simpa using hk),←List.map_set,←gv]at g'
 refine ⟨b,H',e,st, ?_,M.mono fun x _ hx=> .inr (.inr (.inl (hx▸hb))),nx,n0⟩
 exact
  {get:=M.get (fun q=>h.d1.2.1 (by rw [q];exact hb)) h.get
   n0:=by rw [n0];exact h.n0
   sub:=h.sub.mod M fun x hx=>h.out x (.inr (.inr (.inl (hx▸hb))))
   wf:=M.wf h.wf
   fr:=h.fr.mod M fun x hx q=>(h.d2 x hx).1 (q▸hb)
   st:=⟨.inr ⟨b,by rw [e];simp [bz],by rw [n0];exact h0,g'⟩,fun r hr=>by obtain ⟨a',_,rfl⟩:=List.mem_map.1 hr;rfl⟩
   ou:=h.ou.mod M fun x hx q=>(h.d3 x (q▸hb)).1 hx
   tr:=h.tr.mod M fun x hx q=>(h.d3 x (q▸hb)).2 hx
   d1:=h.d1,d2:=h.d2,d3:=h.d3,d4:=h.d4,out:=h.out}
end
section
variable{G H:AH} {m:Nat} {v:MV} {rows:List (List Value)} {store:List Int} {outs:List (Int×Int)} {trace:List Ev} {V:List Vr}
theorem zA {op n:Int} {va vt ve:Value} (h:MH G H m v rows store outs trace) (hv:dA G v.vv V) (hn:0≤n∧n<V.length) (hc:¬ 1<ak V n):
 Ca E O 141 [.pointer (some ⟨m,0,none⟩),.agg #[.int .i64 op,.int .i64 n,va,vt,ve]] H (fun x H'=>x= .int .i64 0∧Ext H H'):=by
 refine Ca.aR (F:=a141) rfl rfl rfl ?_
 have hw:=h.wf
 have X1:=Ext.alloc H (.cells 5 [.int .i64 op,.int .i64 n,va,vt,ve])
 have d0:(H.alloc (.cells 5 [.int .i64 op,.int .i64 n,va,vt,ve])).ld ⟨H.nx,0,none⟩=some (.int .i64 op):=ai hw rfl
 have d1:(H.alloc (.cells 5 [.int .i64 op,.int .i64 n,va,vt,ve])).ld ⟨H.nx,1,none⟩=some (.int .i64 n):=ai hw rfl
 have d2:(H.alloc (.cells 5 [.int .i64 op,.int .i64 n,va,vt,ve])).ld ⟨H.nx,2,none⟩=some va:=ai hw rfl
 have d3:(H.alloc (.cells 5 [.int .i64 op,.int .i64 n,va,vt,ve])).ld ⟨H.nx,3,none⟩=some vt:=ai hw rfl
 have d4:(H.alloc (.cells 5 [.int .i64 op,.int .i64 n,va,vt,ve])).ld ⟨H.nx,4,none⟩=some ve:=ai hw rfl
 have d:(H.alloc (.cells 5 [.int .i64 op,.int .i64 n,va,vt,ve])).ldn ⟨H.nx,0,none⟩ 5=some [.int .i64 op,.int .i64 n,va,vt,ve]:=ba hw 5 rfl
 generalize cV:H.alloc (.cells 5 [.int .i64 op,.int .i64 n,va,vt,ve])=H1 at X1 d0 d1 d2 d3 d4 d
 have bc:=X1.wf hw
 have h1:=h.ext X1
 obtain ⟨yv,Ep⟩:∃yv,V[n.toNat]?=some yv:=⟨_,alN (by omega)⟩
 have IV:ak V n=yv.cells:=by simp [ak,Ep]
 obtain ⟨b,o,c',nw,_,_,_,xW⟩:=(dA.sub h1.sub hv).at Ep
 have r2:=aE h1.get h1.n0 (k:=2) (v:=v.vv) rfl
 rw [nw]at r2
 rw [IV]at hc
 simp (maxSteps:=4000000)-implicitDefEqProofs+contextual [-X.ev,a141,cV,r2,d1,hn.1,hn.2,xW,hc,aY,aH,aI]
 exact X1
theorem zB {op n:Int} {va vt ve:Value} {ra:List (List Value)} {args:List cn} {y:cn} (h:MH G H m v rows store outs trace) (hV:aD v.w V=true) (hS:bX v.w V store=true) (hv:dA G v.vv V) (fD:Ej v.vv) (hn:0≤n∧n<V.length) (hc:1<ak V n)
 (hr:Rows G 4 va ra) (hl:eZ G ra args) (hy:args[0]?=some y) (hf:dP v.w V 1 y=true) (hb:(trace.length:Int)+ar y≤2^40) (LU:0≤v.cost∧v.cost+ar y≤2^60):
 Ca E O 141 [.pointer (some ⟨m,0,none⟩),.agg #[.int .i64 op,.int .i64 n,va,vt,ve]] H (fun x H'=>x= .int .i64 (bh v.w V [store] y)∧∃my,MH G H' m {v with vt:=my,cost:=v.cost+ar y} rows store outs (trace++nA v.w V [store] y)∧Mod (fun b=>b=m∨aN v.vt b) H H'∧∀b,aN my b→aN v.vt b∨H.nx≤b):=by
 refine Ca.aR (F:=a141) rfl rfl rfl ?_
 have hw:=h.wf
 have X1:=Ext.alloc H (.cells 5 [.int .i64 op,.int .i64 n,va,vt,ve])
 have d0:(H.alloc (.cells 5 [.int .i64 op,.int .i64 n,va,vt,ve])).ld ⟨H.nx,0,none⟩=some (.int .i64 op):=ai hw rfl
 have d1:(H.alloc (.cells 5 [.int .i64 op,.int .i64 n,va,vt,ve])).ld ⟨H.nx,1,none⟩=some (.int .i64 n):=ai hw rfl
 have d2:(H.alloc (.cells 5 [.int .i64 op,.int .i64 n,va,vt,ve])).ld ⟨H.nx,2,none⟩=some va:=ai hw rfl
 have d3:(H.alloc (.cells 5 [.int .i64 op,.int .i64 n,va,vt,ve])).ld ⟨H.nx,3,none⟩=some vt:=ai hw rfl
 have d4:(H.alloc (.cells 5 [.int .i64 op,.int .i64 n,va,vt,ve])).ld ⟨H.nx,4,none⟩=some ve:=ai hw rfl
 have d:(H.alloc (.cells 5 [.int .i64 op,.int .i64 n,va,vt,ve])).ldn ⟨H.nx,0,none⟩ 5=some [.int .i64 op,.int .i64 n,va,vt,ve]:=ba hw 5 rfl
 generalize cV:H.alloc (.cells 5 [.int .i64 op,.int .i64 n,va,vt,ve])=H1 at X1 d0 d1 d2 d3 d4 d
 have bc:=X1.wf hw
 have h1:=h.ext X1
 obtain ⟨yv,Ep⟩:∃yv,V[n.toNat]?=some yv:=⟨_,alN (by omega)⟩
 have IV:ak V n=yv.cells:=by simp [ak,Ep]
 obtain ⟨b,o,c',nw,_,_,_,xW⟩:=(dA.sub h1.sub hv).at Ep
 have r2:=aE h1.get h1.n0 (k:=2) (v:=v.vv) rfl
 rw [nw]at r2
 rw [IV]at hc
 obtain ⟨b4,o4,c4,vy,r,lG,bN,xY,pH⟩:=eZ.row hr hl hy
 have gY:=h1.sub.ldn bN
 simp only [Nat.zero_mul,Nat.add_zero]at gY
 have Nx:0<args.length:=by have:=(alT.1 hy).1;omega
 rw [←xY]at gY
 have Be:=d2
 rw [lG]at Be
 have x1:=X1.nx
 simp (maxSteps:=4000000)-implicitDefEqProofs+contextual [-X.ev,a141,cV,r2,d1,Be,hn.1,hn.2,xW,hc,Nx,gY,aY,aH,aI]
 apply ah
 ·(simp-implicitDefEqProofs [-X.ev];rfl)
 refine (jj h1 hV hS hv fD pH hf hb LU).mono ?_
 rintro x H2 ⟨rfl,my,h2,M2,k2⟩
 simp (maxSteps:=4000000)-implicitDefEqProofs+contextual [-X.ev]
 exact ⟨my,h2,(Mod.bE X1).trans M2,fun b hb=>(k2 b hb).imp id (fun q=>by omega)⟩
end
end Go.Proofs.YtppcmpmnglaleaaGreatDoor.A
namespace Go.Proofs.YtppcmpmnglaleaaGreatDoor.A
open Go
section
variable{G H:AH} {m:Nat} {v:MV} {rows:List (List Value)} {store:List Int} {outs:List (Int×Int)} {trace:List Ev} {V:List Vr}
theorem MH.tell (e:Ev) (h:MH G H m v rows store outs trace) (hb:trace.length≤2^41):
 ∃H1 a c H2 H3,ll 1 3 [.int .i64 0,.int .i64 0,.int .i64 0] H [(0,3,.agg #[.int .i64 e.kind,.int .i64 e.at_,.int .i64 e.val])]=some (.slice (some ⟨H.nx,0,none⟩) 1 1,H1)∧aX 3 24 H1 v.vt (.slice (some ⟨H.nx,0,none⟩) 1 1)=some (.slice a (trace.length+1) c,H2)∧H2.st ⟨m,9,none⟩ [.slice a (trace.length+1) c]=some H3∧
  MH G H3 m {v with vt:=.slice a (trace.length+1) c} rows store outs (trace++[e])∧Mod (fun b=>b=m∨aN v.vt b) H H3∧(∀b,aN (.slice a (trace.length+1) c) b→H.nx≤b)∧H1.n0=H.n0∧H.nx≤H1.nx∧H2.n0=H.n0∧H1.nx≤H2.nx∧H3.n0=H.n0∧H3.nx=H2.nx:=by
 obtain ⟨H1,a,c,H2,H3,jW,ha,hs,g3,o3,M3,k3,Bl,Ed,X1,nQ,vF,kS,pI,M2⟩:=A.tell e h.wf h.get h.n0 h.tr h.d1.2.2.2 hb
 exact ⟨H1,a,c,H2,H3,jW,ha,hs,h.tN M3 g3 o3 (fun b hb=>.inr (k3 b hb)),M3,k3,Bl,Ed,nQ,vF,kS,pI⟩
theorem kY {n i a:Int} (h:MH G H m v rows store outs trace) (hV:aD v.w V=true) (hS:bX v.w V store=true) (hv:dA G v.vv V) (fD:Ej v.vv) (hn:0≤n∧n<V.length) (hi:0≤i∧i≤2^40) (hb:trace.length≤2^41):
 Ca E O 144 [.pointer (some ⟨m,0,none⟩),.int .i64 n,.int .i64 i,.int .i64 a] H (fun x H'=>∃my,MH G H' m {v with vt:=my} rows (store.set (bL V n+i%ak V n).toNat a) outs (trace++if 1<ak V n then [⟨2,n,i%ak V n⟩]else [])∧Mod (Mf m v) H H'∧∀b,aN my b→aN v.vt b∨H.nx≤b):=by
 refine Ca.aR (F:=A7) rfl rfl rfl ?_
 have hw:=h.wf
 obtain ⟨nn,rfl⟩:∃k:Nat,n=k:=⟨n.toNat,by omega⟩
 obtain ⟨yv,Ep⟩:∃yv,V[nn]?=some yv:=⟨_,alN (by omega)⟩
 have IV:ak V nn=yv.cells:=by simp [ak,Ep]
 obtain ⟨b,o,c',nw,_,_,_,xW⟩:=(dA.sub h.sub hv).at Ep
 have sk:=tK hV hn i
 have rn:=tI (b:=yv.cells) hi.1
 rw [if_neg (by omega)]at rn
 have hVl:=(aO hV).2.2.2
 have eS:1≤v.w∧v.w≤8:=⟨(aO hV).1,(aO hV).2.1⟩
 obtain ⟨x0,hx0,_⟩:=kn eS hS (i:=bL V nn+i%ak V nn) (by omega)
 have dm:=(alT.1 hx0).1
 rw [IV]at sk dm⊢
 have r2:=aE h.get h.n0 (k:=2) (v:=v.vv) rfl
 rw [nw]at r2
 have hn2:nn<V.length:=by omega
 have KZ:H.ld ⟨b,o+nn*3+2,none⟩=some (.int .i64 yv.cells):=by simpa using xW
 have aiR:Mf m v m:=.inl rfl
 have SC:∀b,aN v.vt b→Mf m v b:=fun b hb=>.inr (.inr (.inr (.inr hb)))
 refine qz [.r,.r] (fun fr H1=>fr.get 0= .pointer (some ⟨m,0,none⟩)∧fr.get 1= .int .i64 nn∧fr.get 2= .int .i64 i∧fr.get 3= .int .i64 a∧fr.get 8= .int .i64 yv.cells∧∃my,MH G H1 m {v with vt:=my} rows store outs (trace++if 1<yv.cells then [⟨2,nn,i%yv.cells⟩]else [])∧Mod (Mf m v) H H1∧∀b,aN my b→aN v.vt b∨H.nx≤b) rfl ?_ ?_
 ·rintro fr H1 ⟨f0,f1,f2,f3,f8,my,h1,M1,k1⟩
  obtain ⟨a',c1,c1',GL,vK⟩:=Nq (n:=nn) (dA.sub h1.sub hv) fD hn
  rw [Int.toNat_natCast]at vK
  have s2:=aE h1.get h1.n0 (k:=2) (v:=v.vv) rfl
  rw [nw]at GL vK s2
  cases GL
  have pk:=h1.wf
  simp (maxSteps:=4000000)-implicitDefEqProofs+contextual [-X.ev,A7,f0,f1,f2,f3,f8,s2,vK]
  refine b9 (fun k fr H'=>Ext H1 H'∧∃j:Nat,j+k=nn∧fr.get 0= .pointer (some ⟨m,0,none⟩)∧fr.get 2= .int .i64 i∧fr.get 3= .int .i64 a∧fr.get 8= .int .i64 yv.cells∧fr.get 45= .slice (some ⟨b,o,none⟩) nn c1'∧fr.get 46= .int .i64 nn∧fr.get 47= .int .i64 j∧fr.get 9= .int .i64 (bL V (j:Int))) ?_ nn ⟨Ext.refl _,0,by simp,by simp [f0],by simp [f2],by simp [f3],by simp [f8],by simp,by simp,by simp,by simp [bL,cS]⟩
  clear f0 f1 f2 f3 f8 fr
  rintro k fr H2 ⟨X2,j,hj,f0,f2,f3,f8,f45,f46,f47,f9⟩
  have lq:=X2.wf pk
  have h2:=h1.ext X2
  by_cases q:j<nn
  ·obtain ⟨y,hy⟩:∃y,V[j]?=some y:=⟨_,alN (by omega)⟩
   obtain ⟨b',o',Gw,dy,bN,_,_,_⟩:=(dA.sub h2.sub hv).at hy
   rw [nw]at dy
   cases dy
   simp only [Vr.row]at bN
   obtain ⟨H3,Ce,X3,DM,DN,z,jX⟩:=dJ (H:=H2) lq (z:=3) (c:=[.string ⟨#[]⟩,.int .i64 0,.int .i64 0]) (vs:=[.string y.name,.int .i64 y.level,.int .i64 y.cells]) rfl
   have z0:H3.ld ⟨H2.nx,0,none⟩=some (.string y.name):=jX 0 _ rfl
   have z1:H3.ld ⟨H2.nx,1,none⟩=some (.int .i64 y.level):=jX 1 _ rfl
   have z2:H3.ld ⟨H2.nx,2,none⟩=some (.int .i64 y.cells):=jX 2 _ rfl
   clear jX
   replace z:H3.ldn ⟨H2.nx,0,none⟩ 3=some [.string y.name,.int .i64 y.level,.int .i64 y.cells]:=z
   have vq:=X3.wf lq
   simp (maxSteps:=4000000)-implicitDefEqProofs+contextual [-X.ev,f45,f46,f47,f9,q,bN,Ce,z2]
   rw [aj (n:=(j:Int)+1) ⟨by omega,by omega⟩]
   exact ⟨k- 1,by omega,X2.trans X3,j+1,by omega,f0,f2,f3,f8,by simp,by rw [qK hy]⟩
  ·have uv:j=nn:=by omega
   subst uv
   have ww:IntKind.i64.wrap (bL V j+i%yv.cells)=bL V j+i%yv.cells:=aj ⟨by omega,by omega⟩
   obtain ⟨bs,H3,uA,gE,h3,M3,pI,kS⟩:=h2.abg (k:=(bL V j+i%yv.cells).toNat) a dm
   have s7:=aE h2.get h2.n0 (k:=7) (v:=v.vs) rfl
   have abi:v.vs= .slice (some ⟨bs,0,none⟩) store.length store.length:=uA
   rw [abi]at s7
   have g0:0≤bL V j+i%yv.cells:=by omega
   have gl:bL V j+i%yv.cells<(store.length:Int):=by omega
   simp (maxSteps:=4000000)-implicitDefEqProofs+contextual [-X.ev,f0,f2,f3,f8,f45,f46,f47,f9,q,s7,rn,ww,g0,gl,gE,kS,pI,aY,aH,aI]
   refine ⟨my,h3,(M1.trans (Mod.bE X2)).then M3 (fun b hb q=>?_),k1⟩
   rcases q with q|q|q|q|q
   ·exact .inl q
   ·exact .inr (.inl q)
   ·exact .inr (.inr (.inl q))
   ·exact .inr (.inr (.inr (.inl q)))
   ·rcases k1 b q with k|k
    ·exact SC b k
    ·omega
 ·intro rest bD
  by_cases hc:1<yv.cells
  ·obtain ⟨H1,a',c1,H2,H3,lD,ha,hs,h3,M3,k3,Bl,Ed,nQ,vF,kS,pI⟩:=h.tell ⟨2,nn,i%yv.cells⟩ hb
   have s9:=aE h.get h.n0 (k:=9) (v:=v.vt) rfl
   have rO:dW [.int .i64 0,.int .i64 0,.int .i64 0] [(0,1,.int .i64 2),(1,1,.int .i64 nn),(2,1,.int .i64 (i%yv.cells))]=some (.agg #[.int .i64 2,.int .i64 nn,.int .i64 (i%yv.cells)]):=rfl
   rw [if_pos hc]at bD
   simp (maxSteps:=4000000)-implicitDefEqProofs+contextual [-X.ev,A7,r2,hn2,KZ,hc,s9,rn,rO,lD,ha,hs,Bl,Ed,nQ,vF,kS,pI,aY,aH,aI]
   refine bD _ _ ⟨by simp,by simp,by simp,by simp,by simp,_,h3,M3.mono (fun b _ hb=>?_),fun b hb=>.inr (k3 b hb)⟩
   rcases hb with q|q
   ·exact .inl q
   ·exact SC b q
  ·rw [if_neg hc,List.append_nil]at bD
   simp (maxSteps:=4000000)-implicitDefEqProofs+contextual [-X.ev,A7,r2,hn2,KZ,hc]
   exact bD _ _ ⟨by simp,by simp,by simp,by simp,by simp,_,h,Mod.refl _ _,fun b hb=>.inl hb⟩
end
end Go.Proofs.YtppcmpmnglaleaaGreatDoor.A
namespace Go.Proofs.YtppcmpmnglaleaaGreatDoor.A
open Go
structure eK where
 en:Int
 store:List Int
 outs:List (Int×Int)
 trace:List Ev
 cost:Int
 used:Nat
 wh:Int
 fuel:Int
 todo:List uC
 over:Bool
def ek (c:eK) (e n:Int):eK:={c with en:=e,wh:=n,todo:=[],over:=true}
def iu (V:List Vr) (c:eK) (n i a:Int):eK:={c with store:=c.store.set (bL V n+i%ak V n).toNat a,trace:=c.trace++if 1<ak V n then [⟨2,n,i%ak V n⟩]else []}
def bI.args:bI→List cn| .mk _ _ a _ _=>a
def kr (p:bH) (ps:List Int) (c:eK) (k:Int) (s:bI) (vals:List Int) (next:List uC):eK:=
 match s with
 | .mk op n args aB aC=>
  if op=0 then iu p.vars c n (if 1<ak p.vars n then e7 vals 0 else 0) (e7 vals (vals.length- 1))
  else if op=1 then{c with trace:=c.trace++[⟨0,k,if e7 vals 0=0 then 0 else 1⟩],todo:=(if e7 vals 0=0 then dK aC (k+1+aw aB)else dK aB (k+1))++next}
  else if op=2 then{c with trace:=c.trace++[⟨0,k,if e7 vals 0=0 then 0 else 1⟩],todo:=if e7 vals 0=0 then next else dK aB (k+1)++(k,.mk op n args aB aC)::next}
  else if op=3 then{c with outs:=c.outs++[(n,e7 vals 0)]}
  else if op=4 then(if ps.length≤c.used then ek c 4 k else iu p.vars {c with used:=c.used+1} n (if 1<ak p.vars n then e7 vals 0 else 0) (e7 ps c.used))
  else if op=5 then(if e7 vals 0=0 then ek c 1 k else c)
  else(if e7 vals 0=0 then ek c 2 k else c)
def l7 (p:bH) (c:eK) (s:bI) (next:List uC):eK:={c with todo:=next,fuel:=c.fuel- 1,cost:=c.cost+1+al s.args,trace:=c.trace++eE p.w p.vars [c.store] s.args}
def du (p:bH) (ps:List Int) (c:eK):eK:=
 if c.over=true then c else match c.todo with
 |[]=>c
 |(k,s)::next=>if c.fuel=0 then ek c 3 k else kr p ps (l7 p c s next) k s (cC p.w p.vars [c.store] s.args) next
structure fH (G H:AH) (m:Nat) (v:MV) (H':AH) (v':MV) (cD:List (List Value)) (tO:List Int) (qO:List (Int×Int)) (qN:List Ev):Prop where
 mh:MH G H' m v' cD tO qO qN
 mod:Mod (Mf m v) H H'
 new:∀b,Mf m v' b→Mf m v b∨H.nx≤b
section
variable{G H H1 H2:AH} {m:Nat} {v v1 v2:MV} {rows mS K0:List (List Value)} {store qP Eu:List Int} {outs qQ K1:List (Int×Int)} {trace ma Ew:List Ev} {V:List Vr}
theorem fH.refl (h:MH G H m v rows store outs trace):fH G H m v H v rows store outs trace:=⟨h,Mod.refl _ _,fun b hb=>.inl hb⟩
theorem fH.trans (a:fH G H m v H1 v1 mS qP qQ ma) (b:fH G H1 m v1 H2 v2 K0 Eu K1 Ew):fH G H m v H2 v2 K0 Eu K1 Ew where
 mh:=b.mh
 mod:=a.mod.then b.mod fun x hx q=>by rcases a.new x q with k|k;exact k;omega
 new:=fun x hx=>by
  have:=a.mod.nx
  rcases b.new x hx with q|q
  ·exact a.new x q
  ·right;omega
theorem fH.ext (a:fH G H m v H1 v1 mS qP qQ ma) (X:Ext H1 H2):fH G H m v H2 v1 mS qP qQ ma:=⟨a.mh.ext X,a.mod.trans (Mod.bE X),a.new⟩
theorem fH.ku (h:MH G H m v rows store outs trace) (X:Ext H H1):fH G H m v H1 v rows store outs trace:=(fH.refl h).ext X
theorem fH.tr {vt:Value} {cost:Int} (h:MH G H1 m {v with vt:=vt,cost:=cost} mS qP qQ ma) (M:Mod (fun b=>b=m∨aN v.vt b) H H1) (k:∀b,aN vt b→aN v.vt b∨H.nx≤b):fH G H m v H1 {v with vt:=vt,cost:=cost} mS qP qQ ma where
 mh:=h
 mod:=M.mono fun b _ q=>q.elim .inl fun q=>.inr (.inr (.inr (.inr q)))
 new:=fun b hb=>by
  rcases hb with q|q|q|q|q
  ·exact .inl (.inl q)
  ·exact .inl (.inr (.inl q))
  ·exact .inl (.inr (.inr (.inl q)))
  ·exact .inl (.inr (.inr (.inr (.inl q))))
  ·exact (k b q).imp (fun q=>.inr (.inr (.inr (.inr q)))) id
theorem fH.V8 {vt:Value} {tO:List Int} (h:MH G H1 m {v with vt:=vt} mS tO qQ ma) (M:Mod (Mf m v) H H1) (k:∀b,aN vt b→aN v.vt b∨H.nx≤b):fH G H m v H1 {v with vt:=vt} mS tO qQ ma where
 mh:=h
 mod:=M
 new:=fun b hb=>by
  rcases hb with q|q|q|q|q
  ·exact .inl (.inl q)
  ·exact .inl (.inr (.inl q))
  ·exact .inl (.inr (.inr (.inl q)))
  ·exact .inl (.inr (.inr (.inr (.inl q))))
  ·exact (k b q).imp (fun q=>.inr (.inr (.inr (.inr q)))) id
theorem fH.fr {vf:Value} (h:MH G H m v rows store outs trace) (M:Mod (fun b=>b=m∨aN v.vf b) H H1) (g:H1.get m=some (.cells 14 ({v with vf:=vf}:MV).cells)) (o:eC H1 2 vf mS) (hf:∀b,aN vf b→aN v.vf b∨H.nx≤b):fH G H m v H1 {v with vf:=vf} mS store outs trace where
 mh:=h.abf M g o hf
 mod:=M.mono fun b _ q=>q.elim .inl fun q=>.inr (.inl q)
 new:=fun b hb=>by
  rcases hb with q|q|q
  ·exact .inl (.inl q)
  ·exact (hf b q).imp (fun q=>.inr (.inl q)) id
  ·exact .inl (.inr (.inr q))
theorem MH.cell {v':MV} (k:Nat) (x:Value) (h:MH G H m v rows store outs trace) (hk:k<14) (e:v.cells.set k x=v'.cells) (e1:v'.vf=v.vf) (e2:v'.vs=v.vs) (e3:v'.vo=v.vo) (e4:v'.vt=v.vt):∃H',H.st ⟨m,k,none⟩ [x]=some H'∧fH G H m v H' v' rows store outs trace∧H'.nx=H.nx∧H'.n0=H.n0:=by
 obtain ⟨H',st,M,nx,n0,g⟩:=bw h.get h.n0 (k:=k) (vs:=[x]) (by simp;omega)
 rw [lZ (by simp;omega),e]at g
 refine ⟨H',st,⟨h.Nw M g e1 e2 e3 e4,M.mono fun b _ q=>.inl q,fun b hb=>.inl ?_⟩,nx,n0⟩
 unfold Mf at hb⊢
 rw [e1,e2,e3,e4]at hb
 exact hb
theorem qR {op n k:Int} {va vt ve:Value} {ra:List (List Value)} {args:List cn} {y:cn} (h:MH G H m v rows store outs trace) (hV:aD v.w V=true) (hS:bX v.w V store=true) (hv:dA G v.vv V) (fD:Ej v.vv)
 (hr:Rows G 4 va ra) (hl:eZ G ra args) (hy:args[0]?=some y) (hf:dP v.w V 1 y=true) (hb:(trace.length:Int)+ar y≤2^40) (LU:0≤v.cost∧v.cost+ar y≤2^60):
 Ca E O 145 [.pointer (some ⟨m,0,none⟩),.agg #[.int .i64 op,.int .i64 n,va,vt,ve],.int .i64 k] H (fun x H'=>x= .bool (!decide (bh v.w V [store] y=0))∧∃my,fH G H m v H' {v with vt:=my,cost:=v.cost+ar y} rows store outs (trace++nA v.w V [store] y++[⟨0,k,if bh v.w V [store] y=0 then 0 else 1⟩])):=by
 refine Ca.aR (F:=a145) rfl rfl rfl ?_
 have hw:=h.wf
 have X1:=Ext.alloc H (.cells 5 [.int .i64 op,.int .i64 n,va,vt,ve])
 have d0:(H.alloc (.cells 5 [.int .i64 op,.int .i64 n,va,vt,ve])).ld ⟨H.nx,0,none⟩=some (.int .i64 op):=ai hw rfl
 have d1:(H.alloc (.cells 5 [.int .i64 op,.int .i64 n,va,vt,ve])).ld ⟨H.nx,1,none⟩=some (.int .i64 n):=ai hw rfl
 have d2:(H.alloc (.cells 5 [.int .i64 op,.int .i64 n,va,vt,ve])).ld ⟨H.nx,2,none⟩=some va:=ai hw rfl
 have d3:(H.alloc (.cells 5 [.int .i64 op,.int .i64 n,va,vt,ve])).ld ⟨H.nx,3,none⟩=some vt:=ai hw rfl
 have d4:(H.alloc (.cells 5 [.int .i64 op,.int .i64 n,va,vt,ve])).ld ⟨H.nx,4,none⟩=some ve:=ai hw rfl
 have d:(H.alloc (.cells 5 [.int .i64 op,.int .i64 n,va,vt,ve])).ldn ⟨H.nx,0,none⟩ 5=some [.int .i64 op,.int .i64 n,va,vt,ve]:=ba hw 5 rfl
 generalize cV:H.alloc (.cells 5 [.int .i64 op,.int .i64 n,va,vt,ve])=H1 at X1 d0 d1 d2 d3 d4 d
 have bc:=X1.wf hw
 have h1:=h.ext X1
 obtain ⟨b4,o4,c4,vy,r,lG,bN,xY,pH⟩:=eZ.row hr hl hy
 have gY:=h1.sub.ldn bN
 simp only [Nat.zero_mul,Nat.add_zero]at gY
 have Nx:0<args.length:=by have:=(alT.1 hy).1;omega
 rw [←xY]at gY
 have Be:=d2
 rw [lG]at Be
 have x1:=X1.nx
 have u2:=eg (w:=v.w) (V:=V) (S:=[store]) y
 simp (maxSteps:=4000000)-implicitDefEqProofs+contextual [-X.ev,a145,cV,Be,Nx,gY]
 apply ah
 ·(simp-implicitDefEqProofs [-X.ev];rfl)
 refine (jj h1 hV hS hv fD pH hf hb LU).mono ?_
 rintro x H2 ⟨rfl,my,h2,M2,k2⟩
 obtain ⟨Ha,a',c1,Hb,H3,lD,ha,hs,h3,M3,k3,Bl,Ed,nQ,vF,kS,pI⟩:=h2.tell ⟨0,k,if bh v.w V [store] y=0 then 0 else 1⟩ (by rw [alW];omega)
 have s9:=aE h2.get h2.n0 (k:=9) (v:=my) rfl
 have A2:fH G H1 m v H2 {v with vt:=my,cost:=v.cost+ar y} rows store outs (trace++nA v.w V [store] y):=fH.tr h2 M2 k2
 have A3:=(fH.ku h X1).trans (A2.trans (fH.tr (v:={v with vt:=my,cost:=v.cost+ar y}) h3 M3 (fun b hb=>.inr (k3 b hb))))
 simp only [alW]at ha hs A3
 by_cases q:bh v.w V [store] y=0
 ·rw [if_pos q]at lD A3
  have rO:dW [.int .i64 0,.int .i64 0,.int .i64 0] [(0,1,.int .i64 0),(1,1,.int .i64 k),(2,1,.int .i64 0)]=some (.agg #[.int .i64 0,.int .i64 k,.int .i64 0]):=rfl
  simp (maxSteps:=4000000)-implicitDefEqProofs+contextual [-X.ev,q,s9,rO,lD,ha,hs]
  exact ⟨_,by simpa [q]using A3⟩
 ·rw [if_neg q]at lD A3
  have rO:dW [.int .i64 0,.int .i64 0,.int .i64 0] [(0,1,.int .i64 0),(1,1,.int .i64 k),(2,1,.int .i64 1)]=some (.agg #[.int .i64 0,.int .i64 k,.int .i64 1]):=rfl
  simp (maxSteps:=4000000)-implicitDefEqProofs+contextual [-X.ev,q,s9,rO,lD,ha,hs]
  exact ⟨_,by simpa [q]using A3⟩
end
end Go.Proofs.YtppcmpmnglaleaaGreatDoor.A
namespace Go.Proofs.YtppcmpmnglaleaaGreatDoor.A
open Go
def K2 (G:AH) (r:List Value) (f:List bI×Int):Prop:=∃vl rs,r=[vl,.int .i64 f.2]∧Rows G 5 vl rs∧dL G rs f.1∧Fit G vl∧f.1≠[]∧f.1.length≤2^30
def kv (fs:List (List bI×Int)):List uC:=fs.foldl (fun t f=>dK f.1 f.2++t) []
theorem gZ (fs:List (List bI×Int)) (f:List bI×Int):kv (fs++[f])=dK f.1 f.2++kv fs:=by simp [kv,List.foldl_append]
theorem eu.snoc {α β:Type} {C:α→β→Prop}:∀{l:List α} {k:List β} {a:α} {b:β},eu C l k→C a b→eu C (l++[a]) (k++[b])
 |_,_,_,_,.nil,h=>.cons h .nil
 |_,_,_,_,.cons x y,h=>.cons x (eu.snoc y h)
theorem jy (s:bI) (l:List bI) (k:Int):dK (s::l) k=(k,s)::dK l (k+aZ s):=by
 obtain ⟨op,n,args,aB,aC⟩:=s
 rw [dK,aZ]
 simp only [List.cons.injEq,true_and]
 congr 1
 omega
section
variable{G H:AH} {m:Nat} {v:MV} {rows cy:List (List Value)} {store:List Int} {outs:List (Int×Int)} {trace:List Ev} {V:List Vr}
theorem fI {vl:Value} {cs:List Value} {rs:List (List Value)} {s:bI} {l:List bI} {k:Int} {dB:List (List bI×Int)} (h:MH G H m v (cy++[[vl,.int .i64 k]]) store outs trace) (hr:Rows G 5 vl (cs::rs)) (hf:Fit G vl) (hs:wZ G cs s) (hl:dL G rs l) (h0:eu (K2 G) cy dB)
 (hb:cy.length≤2^40) (uD:a8 s≤2^30) (xC:l.length≤2^30) (hk:0≤k∧k≤2^40):
 Ca E O 143 [.pointer (some ⟨m,0,none⟩)] H (fun x H'=>∃lJ cD oP,fH G H m v H' {v with vf:=lJ} cD store outs trace∧eu (K2 G) cD oP∧kv oP=dK l (k+aZ s)++kv dB∧cD.length≤cy.length+1):=by
 have gF:aZ s≤a8 s:=by
  obtain ⟨op,n,args,aB,aC⟩:=s
  have:=(aV aB).2;have:=(aV aC).2;have:=bu args
  rw [aZ,a8];omega
 refine (IS h.wf h.get h.n0 h.fr h.d1.1 hb h.sub (fun b q=>h.out b (q.elim .inl fun q=>.inr (.inl q))) hr hf hs.toC (by omega) (by rw [hl.length];omega) hk (by omega)).mono ?_
 rintro x H' ⟨lJ,g,⟨Sj,Cb,V0,o⟩,M,kk⟩
 have A:=fH.fr h M g o (fun b hb=>.inl (kk b hb))
 by_cases hz:rs.length=0
 ·have BZ:l=[]:=List.eq_nil_of_length_eq_zero (by rw [←hl.length];exact hz)
  rw [vJ,if_pos hz]at A
  exact ⟨lJ,cy,dB,A,h0,by rw [BZ];rfl,by omega⟩
 ·rw [vJ,if_neg hz]at A
  exact ⟨lJ,_,dB++[(l,k+aZ s)],A,h0.snoc ⟨Sj,rs,rfl,Cb,hl,V0,fun q=>hz (by rw [hl.length];simp at q;rw [q];rfl),xC⟩,by rw [gZ],by simp⟩
theorem mT {vt:Value} {rt:List (List Value)} {aB:List bI} {k:Int} {fs:List (List bI×Int)} (h:MH G H m v rows store outs trace) (hr:Rows G 5 vt rt) (hl:dL G rt aB) (hf:Fit G vt) (h0:eu (K2 G) rows fs) (hb:rows.length≤2^40) (hlen:aB.length≤2^30):
 Ca E O 105 [.pointer (some ⟨m,0,none⟩),vt,.int .i64 k] H (fun x H'=>∃lJ cD oP,fH G H m v H' {v with vf:=lJ} cD store outs trace∧eu (K2 G) cD oP∧kv oP=dK aB k++kv fs∧cD.length≤rows.length+1):=by
 obtain ⟨a,c,wV⟩:=hr.len
 rw [hl.length]at wV
 subst wV
 refine (IN h.wf h.get h.n0 h.fr h.d1.1 hb).mono ?_
 rintro x H' ⟨lJ,g,o,M,kk⟩
 have A:=fH.fr h M g o kk
 by_cases hz:aB.length=0
 ·have BZ:aB=[]:=List.eq_nil_of_length_eq_zero hz
  rw [if_pos hz]at A
  exact ⟨lJ,rows,fs,A,h0,by rw [BZ];rfl,by omega⟩
 ·rw [if_neg hz]at A
  exact ⟨lJ,_,fs++[(aB,k)],A,h0.snoc ⟨_,rt,rfl,hr,hl,hf,fun q=>hz (by simp at q;rw [q];rfl),hlen⟩,by rw [gZ],by simp⟩
theorem pJ {how n:Int} (h:MH G H m v rows store outs trace):
 Ca E O 107 [.pointer (some ⟨m,0,none⟩),.int .i64 how,.int .i64 n] H (fun x H'=>x= .bool false∧fH G H m v H' {v with en:=how,wh:=n,ended:=true} rows store outs trace):=by
 refine Ca.aR (F:=a107) rfl rfl rfl ?_
 obtain ⟨H1,s1,A1,_,_⟩:=h.cell (v':={v with ended:=true}) 13 (.bool true) (by omega) rfl rfl rfl rfl rfl
 obtain ⟨H2,s2,A2,_,_⟩:=A1.mh.cell (v':={v with ended:=true,en:=how}) 6 (.int .i64 how) (by omega) rfl rfl rfl rfl rfl
 obtain ⟨H3,s3,A3,_,_⟩:=A2.mh.cell (v':={v with ended:=true,en:=how,wh:=n}) 12 (.int .i64 n) (by omega) rfl rfl rfl rfl rfl
 simp (maxSteps:=4000000)-implicitDefEqProofs+contextual [-X.ev,a107,s1,s2,s3]
 exact A1.trans (A2.trans A3)
end
def Mt (v:MV) (c:eK):Prop:=v.en=c.en∧v.cost=c.cost∧v.used=(c.used:Int)∧v.wh=c.wh∧v.fuel=c.fuel∧v.ended=c.over
def Sm (v v':MV):Prop:=v'.w=v.w∧v'.vv=v.vv∧v'.vp=v.vp∧v'.vb=v.vb
structure GM (G H:AH) (m:Nat) (p:bH) (ps:List Int) (v:MV) (c:eK) (cy:List (List Value)) (dB:List (List bI×Int)) (vl:Value) (cs:List Value) (rs:List (List Value)) (k:Int) (s:bI) (l:List bI):Prop where
 mh:MH G H m v (cy++[[vl,.int .i64 k]]) c.store c.outs c.trace
 hr:Rows G 5 vl (cs::rs)
 hf:Fit G vl
 hs:wZ G cs s
 hl:dL G rs l
 h0:eu (K2 G) cy dB
 w:v.w=p.w
 vars:dA G v.vv p.vars
 cap:Ej v.vv
 bR:eY G v.vp ps
 head:aD p.w p.vars=true
 store:bX p.w p.vars c.store=true
 mt:Mt v c
 ov:c.over=false
 row:fF p.w p.vars s=true
 b1:cy.length≤2^30
 b2:0≤k∧k≤2^30
 b3:a8 s≤2^20
 b4:l.length+1≤2^30
 b5:c.trace.length≤2^31
 b6:c.outs.length≤2^31
 b7:0≤c.cost∧c.cost≤2^50
 b8:c.used≤ps.length∧ps.length≤2^20
structure Did (G H:AH) (m:Nat) (p:bH) (ps:List Int) (v:MV) (H':AH) (n:Nat) (c':eK):Prop where
 is:∃v' cD,fH G H m v H' v' cD c'.store c'.outs c'.trace∧(c'.over=false→∃oP,eu (K2 G) cD oP∧c'.todo=kv oP)∧cD.length≤n+2∧Mt v' c'∧Sm v v'
def bg (p:bH) (c:eK) (s:bI) (next:List uC):eK:={c with todo:=next,cost:=c.cost+al s.args,trace:=c.trace++eE p.w p.vars [c.store] s.args}
abbrev bU (l:List bI) (k:Int) (s:bI) (dB:List (List bI×Int)):List uC:=dK l (k+aZ s)++kv dB
section
variable{G H:AH} {m:Nat} {p:bH} {ps:List Int} {v:MV} {c:eK} {cy rs:List (List Value)} {dB:List (List bI×Int)} {vl:Value} {cs:List Value} {k:Int} {s:bI} {l:List bI}
theorem gI {w:Int} {V:List Vr} {op n:Int} {args:List cn} {aB aC:List bI} (h:fF w V (.mk op n args aB aC)=true):
 (∀e∈args,dP w V 1 e=true∧ar e≤400)∧fX w V aB=true∧fX w V aC=true∧
   ((op=0∧(0≤n∧n<V.length)∧((¬ 1<ak V n∧∃a,args=[a])∨(1<ak V n∧∃a b,args=[a,b])))∨(op=1∧∃a,args=[a])∨(op=2∧∃a,args=[a])∨(op=3∧∃a,args=[a])∨
    (op=4∧(0≤n∧n<V.length)∧((¬ 1<ak V n∧args=[])∨(1<ak V n∧∃a,args=[a])))∨((op=5∨op=6)∧∃a,args=[a])):=by
 rw [fF,alQ,alQ,alQ,al3]at h
 obtain ⟨h1,h2,h3,h4⟩:=h
 refine ⟨fun e he=>?_,h2,h3,?_⟩
 · have:=h4 e he
   simp only [lF,alQ,alZ]at this
   exact ⟨this.2.2,this.1⟩
 unfold tz at h1
 by_cases o0:op=0
 · rw [if_pos o0]at h1
   simp only [rZ,alQ,alZ]at h1
   refine .inl ⟨o0,⟨h1.2.1,h1.2.2.1⟩,?_⟩
   by_cases hc:1<ak V n
   · have:=h1.2.2.2;rw [if_pos hc]at this
     exact .inr ⟨hc,D7 (by omega)⟩
   · have:=h1.2.2.2;rw [if_neg hc]at this
     exact .inl ⟨hc,List.length_eq_one_iff.1 (by omega)⟩
 rw [if_neg o0]at h1
 by_cases o1:op=1
 · rw [if_pos o1]at h1;simp only [alQ,alZ]at h1
   exact .inr (.inl ⟨o1,List.length_eq_one_iff.1 (by omega)⟩)
 rw [if_neg o1]at h1
 by_cases o2:op=2
 · rw [if_pos o2]at h1;simp only [alQ,alZ]at h1
   exact .inr (.inr (.inl ⟨o2,List.length_eq_one_iff.1 (by omega)⟩))
 rw [if_neg o2]at h1
 by_cases o3:op=3
 · rw [if_pos o3]at h1;simp only [alQ,alZ]at h1
   exact .inr (.inr (.inr (.inl ⟨o3,List.length_eq_one_iff.1 (by omega)⟩)))
 rw [if_neg o3]at h1
 by_cases o4:op=4
 · rw [if_pos o4]at h1
   simp only [rZ,alQ,alZ]at h1
   refine .inr (.inr (.inr (.inr (.inl ⟨o4,⟨h1.2.1,h1.2.2.1⟩,?_⟩))))
   by_cases hc:1<ak V n
   · have:=h1.2.2.2;rw [if_pos hc]at this
     exact .inr ⟨hc,List.length_eq_one_iff.1 (by omega)⟩
   · have:=h1.2.2.2;rw [if_neg hc]at this
     exact .inl ⟨hc,List.eq_nil_of_length_eq_zero (by omega)⟩
 rw [if_neg o4]at h1
 by_cases o5:op=5∨op=6
 · rw [if_pos o5]at h1;simp only [alQ,alZ]at h1
   exact .inr (.inr (.inr (.inr (.inr ⟨o5,List.length_eq_one_iff.1 (by omega)⟩))))
 rw [if_neg o5]at h1
 cases h1
def Ey (how:Int):AF:=⟨3,21,[.tmp 6],.seq (.bW [o 4 (.box (.t 1)),o 6 (.mv (.k (.bool false)))]) (.seq (.seq (.bW [o 7 (.mv (.t 0)),o 8 (.fa 2 (.t 4)),o 9 (.ld (.t 8)),o 10 (.ia 4 (.t 9) (.k (.int .i64 0))),o 11 (.ldn 4 (.t 10)),o 12 (.call 142 [.t 7,.t 11]),o 13 (.bin .eql (.t 12) (.k (.int .i64 0)))]) (.cond (.t 13) (.seq (.bW [o 14 (.mv (.t 0)),o 15 (.mv (.t 2)),o 16 (.call 107 [.t 14,.k (.int .i64 how),.t 15]),o 6 (.mv (.t 16))]) .ret) .skip)) (.seq (.bW [o 17 (.mv (.t 0)),o 18 (.aU (.t 17)),o 19 (.fa 0 (.t 18)),o 20 (.call 143 [.t 19])]) (.seq (.bW [o 6 (.mv (.k (.bool true)))]) .ret)))⟩
def jz (G H:AH) (f:Nat) (m:Nat) (p:bH) (ps:List Int) (v:MV) (c:eK) (n:Nat) (dB:List (List bI×Int)) (cs:List Value) (k:Int) (s:bI) (l:List bI):Prop:=
 ∀c',c'=kr p ps (bg p c s (bU l k s dB)) k s (cC p.w p.vars [c.store] s.args) (bU l k s dB)→
  Ca E O f [.pointer (some ⟨m,0,none⟩),.agg cs.toArray,.int .i64 k] H (fun x H'=>x= .bool (!c'.over)∧Did G H m p ps v H' n c')
theorem vM {f:Nat} {op n how:Int} {args:List cn} {aB aC:List bI} (ho:O f=none) (he:E f=some (Ey how)) (pr:(op=5∧how=1)∨(op=6∧how=2)) (h:GM G H m p ps v c cy dB vl cs rs k (.mk op n args aB aC) l):
 jz G H f m p ps v c cy.length dB cs k (.mk op n args aB aC) l:=by
 intro c' jQ
 obtain ⟨aT,_,_,Ez⟩:=gI h.row
 obtain ⟨y,rfl⟩:∃y,args=[y]:=by
  rcases Ez with⟨q,_⟩|⟨q,_⟩|⟨q,_⟩|⟨q,_⟩|⟨q,_⟩|⟨_,q⟩
  ·omega
  ·omega
  ·omega
  ·omega
  ·omega
  ·exact q
 obtain ⟨w7,PN⟩:=aT y (by simp)
 have e0:e7 (cC p.w p.vars [c.store] [y]) 0=bh p.w p.vars [c.store] y:=rfl
 have eI:c'=if bh p.w p.vars [c.store] y=0 then ek (bg p c (.mk op n [y] aB aC) (bU l k (.mk op n [y] aB aC) dB)) how k else bg p c (.mk op n [y] aB aC) (bU l k (.mk op n [y] aB aC) dB):=by
  rw [jQ,kr]
  rcases pr with⟨rfl,rfl⟩|⟨rfl,rfl⟩
  ·rw [if_neg (by omega),if_neg (by omega),if_neg (by omega),if_neg (by omega),if_neg (by omega),if_pos rfl];rfl
  ·rw [if_neg (by omega),if_neg (by omega),if_neg (by omega),if_neg (by omega),if_neg (by omega),if_neg (by omega)];rfl
 clear jQ
 obtain ⟨m1,m2,m3,m4,m5,m6⟩:=h.mt
 have gF:=h.hs
 cases gF with| @mk _ _ va vt ve ra rt re _ _ _ i1 i2 i3 i4 i5 g1 g2 g3 g4 g5 g6 g7 g8=>
 refine Ca.aR (F:=Ey how) ho he rfl ?_
 have hw:=h.mh.wf
 have X1:=Ext.alloc H (.cells 5 [.int .i64 op,.int .i64 n,va,vt,ve])
 have d0:(H.alloc (.cells 5 [.int .i64 op,.int .i64 n,va,vt,ve])).ld ⟨H.nx,0,none⟩=some (.int .i64 op):=ai hw rfl
 have d1:(H.alloc (.cells 5 [.int .i64 op,.int .i64 n,va,vt,ve])).ld ⟨H.nx,1,none⟩=some (.int .i64 n):=ai hw rfl
 have d2:(H.alloc (.cells 5 [.int .i64 op,.int .i64 n,va,vt,ve])).ld ⟨H.nx,2,none⟩=some va:=ai hw rfl
 have d3:(H.alloc (.cells 5 [.int .i64 op,.int .i64 n,va,vt,ve])).ld ⟨H.nx,3,none⟩=some vt:=ai hw rfl
 have d4:(H.alloc (.cells 5 [.int .i64 op,.int .i64 n,va,vt,ve])).ld ⟨H.nx,4,none⟩=some ve:=ai hw rfl
 have d:(H.alloc (.cells 5 [.int .i64 op,.int .i64 n,va,vt,ve])).ldn ⟨H.nx,0,none⟩ 5=some [.int .i64 op,.int .i64 n,va,vt,ve]:=ba hw 5 rfl
 generalize cV:H.alloc (.cells 5 [.int .i64 op,.int .i64 n,va,vt,ve])=H1 at X1 d0 d1 d2 d3 d4 d
 have bc:=X1.wf hw
 have h1:=h.mh.ext X1
 obtain ⟨b4,o4,c4,vy,r,lG,bN,xY,pH⟩:=eZ.row g1 g2 (i:=0) (y:=y) rfl
 have gY:=h1.sub.ldn bN
 simp only [Nat.zero_mul,Nat.add_zero]at gY
 rw [←xY]at gY
 have Be:=d2
 rw [lG]at Be
 have b7:=h.b7
 have b5:=h.b5
 have vN:=h.w
 have lS:=h.w.symm
 have key:=jj h1 (by rw [vN];exact h.head) (by rw [vN];exact h.store) h.vars h.cap pH (by rw [vN];exact w7) (by omega) (by rw [m2];omega)
 have A1:=fH.ku h.mh X1
 have ev:eE p.w p.vars [c.store] [y]=nA p.w p.vars [c.store] y:=by simp [eE]
 have nl:al [y]=ar y:=by simp [al]
 simp (maxSteps:=4000000)-implicitDefEqProofs+contextual [-X.ev,Ey,cV,Be,gY]
 apply ah
 ·(simp-implicitDefEqProofs [-X.ev];rfl)
 refine (key).mono ?_
 rintro x H2 ⟨rfl,my,h2,M2,k2⟩
 have A2:=A1.trans (fH.tr (v:=v) h2 M2 k2)
 rw [lS]at eI
 have cc:v.cost+ar y=(bg p c (.mk op n [y] aB aC) (bU l k (.mk op n [y] aB aC) dB)).cost:=by rw [m2,bg];show _=c.cost+al [y];rw [nl]
 have ct:c.trace++nA v.w p.vars [c.store] y=(bg p c (.mk op n [y] aB aC) (bU l k (.mk op n [y] aB aC) dB)).trace:=by rw [bg];show _=c.trace++eE p.w p.vars [c.store] [y];rw [ev,lS]
 by_cases q:bh v.w p.vars [c.store] y=0
 ·rw [if_pos q]at eI
  subst eI
  simp (maxSteps:=4000000)-implicitDefEqProofs+contextual [-X.ev,q]
  apply ah
  ·(simp-implicitDefEqProofs [-X.ev];rfl)
  refine (pJ (how:=how) (n:=k) A2.mh).mono ?_
  rintro x H3 ⟨rfl,A3⟩
  simp (maxSteps:=4000000)-implicitDefEqProofs+contextual [-X.ev,ek]
  have A:=A2.trans A3
  rw [cc,ct]at A
  exact ⟨_,_,A,fun q=>by simp at q,by simp,⟨rfl,rfl,m3,rfl,m5,rfl⟩,rfl,rfl,rfl,rfl⟩
 ·rw [if_neg q]at eI
  subst eI
  simp (maxSteps:=4000000)-implicitDefEqProofs+contextual [-X.ev,q]
  apply ah
  ·(simp-implicitDefEqProofs [-X.ev];rfl)
  refine (fI A2.mh h.hr h.hf h.hs h.hl h.h0 (by have:=h.b1;omega) (by have:=h.b3;omega) (by have:=h.b4;omega) (by have:=h.b2;omega)).mono ?_
  rintro x H3 ⟨lJ,cD,oP,A3,ha,iN,xR⟩
  have A:=A2.trans A3
  rw [cc,ct]at A
  simp (maxSteps:=4000000)-implicitDefEqProofs+contextual [-X.ev,bg,h.ov]
  exact ⟨_,_,A,fun _=>⟨oP,ha,iN.symm⟩,by omega,⟨m1,rfl,m3,m4,m5,m6.trans h.ov⟩,rfl,rfl,rfl,rfl⟩
end
end Go.Proofs.YtppcmpmnglaleaaGreatDoor.A
namespace Go.Proofs.YtppcmpmnglaleaaGreatDoor.A
open Go
section
variable{G H:AH} {m:Nat} {p:bH} {ps:List Int} {v:MV} {c:eK} {cy rs:List (List Value)} {dB:List (List bI×Int)} {vl:Value} {cs:List Value} {k:Int} {s:bI} {l:List bI}
theorem fH.ou {H':AH} {rows:List (List Value)} {store:List Int} {outs qO:List (Int×Int)} {trace:List Ev} {vo:Value} (h:MH G H m v rows store outs trace) (M:Mod (fun b=>b=m∨aN v.vo b) H H') (h':MH G H' m {v with vo:=vo} rows store qO trace) (hf:∀b,aN vo b→aN v.vo b∨H.nx≤b):fH G H m v H' {v with vo:=vo} rows store qO trace where
 mh:=h'
 mod:=M.mono fun b _ q=>q.elim .inl fun q=>.inr (.inr (.inr (.inl q)))
 new:=fun b hb=>by
  rcases hb with q|q|q|q|q
  ·exact .inl (.inl q)
  ·exact .inl (.inr (.inl q))
  ·exact .inl (.inr (.inr (.inl q)))
  ·exact (hf b q).imp (fun q=>.inr (.inr (.inr (.inl q)))) id
  ·exact .inl (.inr (.inr (.inr (.inr q))))
theorem EA {n:Int} {args:List cn} {aB aC:List bI} (h:GM G H m p ps v c cy dB vl cs rs k (.mk 5 n args aB aC) l):
 jz G H 113 m p ps v c cy.length dB cs k (.mk 5 n args aB aC) l:=vM (how:=1) rfl rfl (.inl ⟨rfl,rfl⟩) h
theorem EB {n:Int} {args:List cn} {aB aC:List bI} (h:GM G H m p ps v c cy dB vl cs rs k (.mk 6 n args aB aC) l):
 jz G H 114 m p ps v c cy.length dB cs k (.mk 6 n args aB aC) l:=vM (how:=2) rfl rfl (.inr ⟨rfl,rfl⟩) h
theorem Ny {w:Int} {V:List Vr} {op n:Int} {args:List cn} {aB aC:List bI} (h:fF w V (.mk op n args aB aC)=true) (ho:op=1∨op=2∨op=3):∃y,args=[y]∧dP w V 1 y=true∧ar y≤400:=by
 obtain ⟨aT,_,_,Ez⟩:=gI h
 obtain ⟨y,rfl⟩:∃y,args=[y]:=by
  rcases Ez with⟨q,_⟩|⟨_,q⟩|⟨_,q⟩|⟨_,q⟩|⟨q,_⟩|⟨q,_⟩
  ·omega
  ·exact q
  ·exact q
  ·exact q
  ·omega
  ·omega
 exact ⟨y,rfl,aT y (by simp)⟩
theorem Bs {n:Int} {args:List cn} {aB aC:List bI} (h:GM G H m p ps v c cy dB vl cs rs k (.mk 1 n args aB aC) l):
 jz G H 109 m p ps v c cy.length dB cs k (.mk 1 n args aB aC) l:=by
 intro c' jQ
 obtain ⟨y,rfl,w7,PN⟩:=Ny h.row (by omega)
 have eI:c'={bg p c (.mk 1 n [y] aB aC) (bU l k (.mk 1 n [y] aB aC) dB)with trace:=(bg p c (.mk 1 n [y] aB aC) (bU l k (.mk 1 n [y] aB aC) dB)).trace++[⟨0,k,if bh p.w p.vars [c.store] y=0 then 0 else 1⟩],todo:=(if bh p.w p.vars [c.store] y=0 then dK aC (k+1+aw aB)else dK aB (k+1))++bU l k (.mk 1 n [y] aB aC) dB}:=by
  rw [jQ,kr,if_neg (by omega),if_pos rfl];rfl
 clear jQ
 obtain ⟨m1,m2,m3,m4,m5,m6⟩:=h.mt
 have gF:=h.hs
 cases gF with| @mk _ _ va vt ve ra rt re _ _ _ i1 i2 i3 i4 i5 g1 g2 g3 g4 g5 g6 g7 g8=>
 refine Ca.aR (F:=a109) rfl rfl rfl ?_
 have hw:=h.mh.wf
 have X1:=Ext.alloc H (.cells 5 [.int .i64 1,.int .i64 n,va,vt,ve])
 have d0:(H.alloc (.cells 5 [.int .i64 1,.int .i64 n,va,vt,ve])).ld ⟨H.nx,0,none⟩=some (.int .i64 1):=ai hw rfl
 have d1:(H.alloc (.cells 5 [.int .i64 1,.int .i64 n,va,vt,ve])).ld ⟨H.nx,1,none⟩=some (.int .i64 n):=ai hw rfl
 have d2:(H.alloc (.cells 5 [.int .i64 1,.int .i64 n,va,vt,ve])).ld ⟨H.nx,2,none⟩=some va:=ai hw rfl
 have d3:(H.alloc (.cells 5 [.int .i64 1,.int .i64 n,va,vt,ve])).ld ⟨H.nx,3,none⟩=some vt:=ai hw rfl
 have d4:(H.alloc (.cells 5 [.int .i64 1,.int .i64 n,va,vt,ve])).ld ⟨H.nx,4,none⟩=some ve:=ai hw rfl
 have d:(H.alloc (.cells 5 [.int .i64 1,.int .i64 n,va,vt,ve])).ldn ⟨H.nx,0,none⟩ 5=some [.int .i64 1,.int .i64 n,va,vt,ve]:=ba hw 5 rfl
 generalize cV:H.alloc (.cells 5 [.int .i64 1,.int .i64 n,va,vt,ve])=H1 at X1 d0 d1 d2 d3 d4 d
 have bc:=X1.wf hw
 have h1:=h.mh.ext X1
 have b7:=h.b7
 have b5:=h.b5
 have b1:=h.b1
 have b2:=h.b2
 have b3:=h.b3
 rw [a8]at b3
 have b4:=h.b4
 have pa:=bu [y]
 have bt:=aV aB
 have lt1:=dY aB
 have nE:=dY aC
 have be:=aV aC
 have vN:=h.w
 have lS:=h.w.symm
 have key:=qR (op:=1) (n:=n) (vt:=vt) (ve:=ve) (k:=k) h1 (by rw [vN];exact h.head) (by rw [vN];exact h.store) h.vars h.cap g1 g2 (y:=y) rfl (by rw [vN];exact w7) (by omega) (by rw [m2];omega)
 have A1:=fH.ku h.mh X1
 have ev:eE p.w p.vars [c.store] [y]=nA p.w p.vars [c.store] y:=by simp [eE]
 have nl:al [y]=ar y:=by simp [al]
 rw [lS]at eI
 have cc:v.cost+ar y=(bg p c (.mk 1 n [y] aB aC) (bU l k (.mk 1 n [y] aB aC) dB)).cost:=by rw [m2,bg];show _=c.cost+al [y];rw [nl]
 have ct:c.trace++nA v.w p.vars [c.store] y=(bg p c (.mk 1 n [y] aB aC) (bU l k (.mk 1 n [y] aB aC) dB)).trace:=by rw [bg];show _=c.trace++eE p.w p.vars [c.store] [y];rw [ev,lS]
 rw [cc,ct]at key
 simp (maxSteps:=4000000)-implicitDefEqProofs+contextual [-X.ev,a109,cV,d]
 apply ah
 ·(simp-implicitDefEqProofs [-X.ev];rfl)
 refine (key).mono ?_
 rintro x H2 ⟨rfl,my,A2⟩
 have dd:=A2.mod.ldn (a:=⟨H.nx,0,none⟩) (fun q=>by have:=h.mh.lt q;simp at this) d
 simp (maxSteps:=4000000)-implicitDefEqProofs+contextual [-X.ev]
 apply ah
 ·(simp-implicitDefEqProofs [-X.ev];rfl)
 refine (fI A2.mh h.hr h.hf h.hs h.hl h.h0 (by omega) (by rw [a8];omega) (by omega) (by omega)).mono ?_
 rintro x H3 ⟨lJ,cD,oP,A3,ha,iN,xR⟩
 have SE:=A2.trans A3
 have dd3:=SE.mod.ldn (a:=⟨H.nx,0,none⟩) (fun q=>by have:=h.mh.lt q;simp at this) d
 have e3:=aG dd3 (j:=3) rfl
 have e4:=aG dd3 (j:=4) rfl
 by_cases q:bh v.w p.vars [c.store] y=0
 ·rw [if_pos q,if_pos q]at eI
  have w1:IntKind.i64.wrap (k+1)=k+1:=aj ⟨by omega,by omega⟩
  have e3n:=bm.1 e3
  have e4n:=bm.1 e4
  simp only [q,if_true]at A3 SE
  have h3:=A3.mh
  simp (maxSteps:=4000000)-implicitDefEqProofs+contextual [-X.ev,q,w1,e3,e4]
  apply ah
  ·(simp-implicitDefEqProofs [-X.ev];rfl)
  refine (Br h3.wf (g3.sub h3.sub) (gU.sub h3.sub g4.Sa) (by omega) (by omega)).mono ?_
  rintro x H4 ⟨rfl,X4⟩
  have SF:=X4.nx
  have SH:=X4.n0
  have abk:=X4.ldn e4n
  have sve:dD ve ve=true:=by obtain ⟨a,c,e⟩:=g6.len;rw [e];simp
  have w2:IntKind.i64.wrap (k+1+aw aB)=k+1+aw aB:=aj ⟨by omega,by omega⟩
  have A34:=A3.ext X4
  simp (maxSteps:=4000000)-implicitDefEqProofs+contextual [-X.ev,w2]
  apply ah
  ·(simp-implicitDefEqProofs [-X.ev];rfl)
  refine (mT (k:=k+1+aw aB) A34.mh g6 g7 g8 ha (by omega) (by omega)).mono ?_
  rintro x H5 ⟨SI,EC,ED,A5,SJ,EF,Nz⟩
  have A:=A1.trans ((SE.ext X4).trans A5)
  have KY:=A5.mod.nx
  have GK:=A5.mod.n0
  simp (maxSteps:=4000000)-implicitDefEqProofs+contextual [-X.ev,aY,aH,aI,SF,SH,KY,GK,e4n,abk,sve]
  subst eI
  refine ⟨?_,_,_,A,fun _=>⟨ED,SJ,?_⟩,by omega,⟨m1,rfl,m3,m4,m5,m6⟩,rfl,rfl,rfl,rfl⟩
  ·exact h.ov
  ·rw [EF,iN]
 ·rw [if_neg q,if_neg q]at eI
  have w1:IntKind.i64.wrap (k+1)=k+1:=aj ⟨by omega,by omega⟩
  simp only [q,if_false]at A3 SE
  simp (maxSteps:=4000000)-implicitDefEqProofs+contextual [-X.ev,q,w1,e3,e4]
  apply ah
  ·(simp-implicitDefEqProofs [-X.ev];rfl)
  refine (mT (k:=k+1) A3.mh g3 g4 g5 ha (by omega) (by omega)).mono ?_
  rintro x H4 ⟨SI,EC,ED,A4,SJ,EF,Nz⟩
  have A:=A1.trans (SE.trans A4)
  have SH:=A4.mod.n0
  have SF:=A4.mod.nx
  simp (maxSteps:=4000000)-implicitDefEqProofs+contextual [-X.ev,aY,aH,aI,SH,SF]
  subst eI
  refine ⟨?_,_,_,A,fun _=>⟨ED,SJ,?_⟩,by omega,⟨m1,rfl,m3,m4,m5,m6⟩,rfl,rfl,rfl,rfl⟩
  ·exact h.ov
  ·rw [EF,iN]
theorem IX {n:Int} {args:List cn} {aB aC:List bI} (h:GM G H m p ps v c cy dB vl cs rs k (.mk 2 n args aB aC) l):
 jz G H 110 m p ps v c cy.length dB cs k (.mk 2 n args aB aC) l:=by
 intro c' jQ
 obtain ⟨y,rfl,w7,PN⟩:=Ny h.row (by omega)
 have eI:c'={bg p c (.mk 2 n [y] aB aC) (bU l k (.mk 2 n [y] aB aC) dB)with trace:=(bg p c (.mk 2 n [y] aB aC) (bU l k (.mk 2 n [y] aB aC) dB)).trace++[⟨0,k,if bh p.w p.vars [c.store] y=0 then 0 else 1⟩],todo:=if bh p.w p.vars [c.store] y=0 then bU l k (.mk 2 n [y] aB aC) dB else dK aB (k+1)++(k,.mk 2 n [y] aB aC)::bU l k (.mk 2 n [y] aB aC) dB}:=by
  rw [jQ,kr,if_neg (by omega),if_neg (by omega),if_pos rfl];rfl
 clear jQ
 obtain ⟨m1,m2,m3,m4,m5,m6⟩:=h.mt
 have gF:=h.hs
 cases gF with| @mk _ _ va vt ve ra rt re _ _ _ i1 i2 i3 i4 i5 g1 g2 g3 g4 g5 g6 g7 g8=>
 refine Ca.aR (F:=HF) rfl rfl rfl ?_
 have hw:=h.mh.wf
 have X1:=Ext.alloc H (.cells 5 [.int .i64 2,.int .i64 n,va,vt,ve])
 have d0:(H.alloc (.cells 5 [.int .i64 2,.int .i64 n,va,vt,ve])).ld ⟨H.nx,0,none⟩=some (.int .i64 2):=ai hw rfl
 have d1:(H.alloc (.cells 5 [.int .i64 2,.int .i64 n,va,vt,ve])).ld ⟨H.nx,1,none⟩=some (.int .i64 n):=ai hw rfl
 have d2:(H.alloc (.cells 5 [.int .i64 2,.int .i64 n,va,vt,ve])).ld ⟨H.nx,2,none⟩=some va:=ai hw rfl
 have d3:(H.alloc (.cells 5 [.int .i64 2,.int .i64 n,va,vt,ve])).ld ⟨H.nx,3,none⟩=some vt:=ai hw rfl
 have d4:(H.alloc (.cells 5 [.int .i64 2,.int .i64 n,va,vt,ve])).ld ⟨H.nx,4,none⟩=some ve:=ai hw rfl
 have d:(H.alloc (.cells 5 [.int .i64 2,.int .i64 n,va,vt,ve])).ldn ⟨H.nx,0,none⟩ 5=some [.int .i64 2,.int .i64 n,va,vt,ve]:=ba hw 5 rfl
 generalize cV:H.alloc (.cells 5 [.int .i64 2,.int .i64 n,va,vt,ve])=H1 at X1 d0 d1 d2 d3 d4 d
 have bc:=X1.wf hw
 have h1:=h.mh.ext X1
 have b7:=h.b7
 have b5:=h.b5
 have b1:=h.b1
 have b2:=h.b2
 have b3:=h.b3
 rw [a8]at b3
 have b4:=h.b4
 have pa:=bu [y]
 have bt:=aV aB
 have lt1:=dY aB
 have nE:=dY aC
 have be:=aV aC
 have vN:=h.w
 have lS:=h.w.symm
 have key:=qR (op:=2) (n:=n) (vt:=vt) (ve:=ve) (k:=k) h1 (by rw [vN];exact h.head) (by rw [vN];exact h.store) h.vars h.cap g1 g2 (y:=y) rfl (by rw [vN];exact w7) (by omega) (by rw [m2];omega)
 have A1:=fH.ku h.mh X1
 have ev:eE p.w p.vars [c.store] [y]=nA p.w p.vars [c.store] y:=by simp [eE]
 have nl:al [y]=ar y:=by simp [al]
 rw [lS]at eI
 have cc:v.cost+ar y=(bg p c (.mk 2 n [y] aB aC) (bU l k (.mk 2 n [y] aB aC) dB)).cost:=by rw [m2,bg];show _=c.cost+al [y];rw [nl]
 have ct:c.trace++nA v.w p.vars [c.store] y=(bg p c (.mk 2 n [y] aB aC) (bU l k (.mk 2 n [y] aB aC) dB)).trace:=by rw [bg];show _=c.trace++eE p.w p.vars [c.store] [y];rw [ev,lS]
 rw [cc,ct]at key
 simp (maxSteps:=4000000)-implicitDefEqProofs+contextual [-X.ev,HF,cV,d]
 apply ah
 ·(simp-implicitDefEqProofs [-X.ev];rfl)
 refine (key).mono ?_
 rintro x H2 ⟨rfl,my,A2⟩
 have dd:=A2.mod.ldn (a:=⟨H.nx,0,none⟩) (fun q=>by have:=h.mh.lt q;simp at this) d
 have e3:=aG dd (j:=3) rfl
 by_cases q:bh v.w p.vars [c.store] y=0
 ·rw [if_pos q,if_pos q]at eI
  simp only [q,if_true]at A2
  simp (maxSteps:=4000000)-implicitDefEqProofs+contextual [-X.ev,q]
  apply ah
  ·(simp-implicitDefEqProofs [-X.ev];rfl)
  refine (fI A2.mh h.hr h.hf h.hs h.hl h.h0 (by omega) (by rw [a8];omega) (by omega) (by omega)).mono ?_
  rintro x H3 ⟨lJ,cD,oP,A3,ha,iN,xR⟩
  have A:=A1.trans (A2.trans A3)
  simp (maxSteps:=4000000)-implicitDefEqProofs+contextual [-X.ev]
  subst eI
  refine ⟨?_,_,_,A,fun _=>⟨oP,ha,?_⟩,by omega,⟨m1,rfl,m3,m4,m5,m6⟩,rfl,rfl,rfl,rfl⟩
  ·exact h.ov
  ·exact iN.symm
 ·rw [if_neg q,if_neg q]at eI
  have w1:IntKind.i64.wrap (k+1)=k+1:=aj ⟨by omega,by omega⟩
  simp only [q,if_false]at A2
  have xS:eu (K2 G) (cy++[[vl,.int .i64 k]]) (dB++[(.mk 2 n [y] aB aC::l,k)]):=h.h0.snoc ⟨vl,_,rfl,h.hr,.cons h.hs h.hl,h.hf,by simp,by simpa using b4⟩
  simp (maxSteps:=4000000)-implicitDefEqProofs+contextual [-X.ev,q,w1,e3]
  apply ah
  ·(simp-implicitDefEqProofs [-X.ev];rfl)
  refine (mT (k:=k+1) A2.mh g3 g4 g5 xS (by simp;omega) (by omega)).mono ?_
  rintro x H4 ⟨SI,EC,ED,A4,SJ,EF,Nz⟩
  have A:=A1.trans (A2.trans A4)
  have SH:=A4.mod.n0
  have SF:=A4.mod.nx
  simp (maxSteps:=4000000)-implicitDefEqProofs+contextual [-X.ev,aY,aH,aI,SH,SF]
  subst eI
  simp at Nz
  refine ⟨?_,_,_,A,fun _=>⟨ED,SJ,?_⟩,by omega,⟨m1,rfl,m3,m4,m5,m6⟩,rfl,rfl,rfl,rfl⟩
  ·exact h.ov
  ·rw [EF,gZ,jy];simp
theorem IY {n:Int} {args:List cn} {aB aC:List bI} (h:GM G H m p ps v c cy dB vl cs rs k (.mk 3 n args aB aC) l):
 jz G H 111 m p ps v c cy.length dB cs k (.mk 3 n args aB aC) l:=by
 intro c' jQ
 obtain ⟨y,rfl,w7,PN⟩:=Ny h.row (by omega)
 have eI:c'={bg p c (.mk 3 n [y] aB aC) (bU l k (.mk 3 n [y] aB aC) dB)with outs:=c.outs++[(n,bh p.w p.vars [c.store] y)]}:=by
  rw [jQ,kr,if_neg (by omega),if_neg (by omega),if_neg (by omega),if_pos rfl];rfl
 clear jQ
 obtain ⟨m1,m2,m3,m4,m5,m6⟩:=h.mt
 have gF:=h.hs
 cases gF with| @mk _ _ va vt ve ra rt re _ _ _ i1 i2 i3 i4 i5 g1 g2 g3 g4 g5 g6 g7 g8=>
 refine Ca.aR (F:=HG) rfl rfl rfl ?_
 have hw:=h.mh.wf
 have X1:=Ext.alloc H (.cells 5 [.int .i64 3,.int .i64 n,va,vt,ve])
 have d0:(H.alloc (.cells 5 [.int .i64 3,.int .i64 n,va,vt,ve])).ld ⟨H.nx,0,none⟩=some (.int .i64 3):=ai hw rfl
 have d1:(H.alloc (.cells 5 [.int .i64 3,.int .i64 n,va,vt,ve])).ld ⟨H.nx,1,none⟩=some (.int .i64 n):=ai hw rfl
 have d2:(H.alloc (.cells 5 [.int .i64 3,.int .i64 n,va,vt,ve])).ld ⟨H.nx,2,none⟩=some va:=ai hw rfl
 have d3:(H.alloc (.cells 5 [.int .i64 3,.int .i64 n,va,vt,ve])).ld ⟨H.nx,3,none⟩=some vt:=ai hw rfl
 have d4:(H.alloc (.cells 5 [.int .i64 3,.int .i64 n,va,vt,ve])).ld ⟨H.nx,4,none⟩=some ve:=ai hw rfl
 have d:(H.alloc (.cells 5 [.int .i64 3,.int .i64 n,va,vt,ve])).ldn ⟨H.nx,0,none⟩ 5=some [.int .i64 3,.int .i64 n,va,vt,ve]:=ba hw 5 rfl
 generalize cV:H.alloc (.cells 5 [.int .i64 3,.int .i64 n,va,vt,ve])=H1 at X1 d0 d1 d2 d3 d4 d
 have bc:=X1.wf hw
 have h1:=h.mh.ext X1
 have b7:=h.b7
 have b5:=h.b5
 have b6:=h.b6
 have b1:=h.b1
 have b2:=h.b2
 have b3:=h.b3
 have b4:=h.b4
 have vN:=h.w
 have lS:=h.w.symm
 obtain ⟨b4',o4,c4,vy,r,lG,bN,xY,pH⟩:=eZ.row g1 g2 (i:=0) (y:=y) rfl
 have gY:=h1.sub.ldn bN
 simp only [Nat.zero_mul,Nat.add_zero]at gY
 rw [←xY]at gY
 have Be:=d2
 rw [lG]at Be
 have key:=jj h1 (by rw [vN];exact h.head) (by rw [vN];exact h.store) h.vars h.cap pH (by rw [vN];exact w7) (by omega) (by rw [m2];omega)
 have A1:=fH.ku h.mh X1
 have ev:eE p.w p.vars [c.store] [y]=nA p.w p.vars [c.store] y:=by simp [eE]
 have nl:al [y]=ar y:=by simp [al]
 rw [lS]at eI
 have cc:v.cost+ar y=(bg p c (.mk 3 n [y] aB aC) (bU l k (.mk 3 n [y] aB aC) dB)).cost:=by rw [m2,bg];show _=c.cost+al [y];rw [nl]
 have ct:c.trace++nA v.w p.vars [c.store] y=(bg p c (.mk 3 n [y] aB aC) (bU l k (.mk 3 n [y] aB aC) dB)).trace:=by rw [bg];show _=c.trace++eE p.w p.vars [c.store] [y];rw [ev,lS]
 rw [cc,ct]at key
 have r8:=aE h1.get h1.n0 (k:=8) (v:=v.vo) rfl
 obtain ⟨oa,oc,AI⟩:=h.mh.ou.shape
 simp (maxSteps:=4000000)-implicitDefEqProofs+contextual [-X.ev,HG,cV,d1,Be,gY,r8]
 apply ah
 ·(simp-implicitDefEqProofs [-X.ev];rfl)
 refine (key).mono ?_
 rintro x H2 ⟨rfl,my,h2,M2,k2⟩
 have A2:=A1.trans (fH.tr (v:=v) h2 M2 k2)
 have x2x:=M2.nx
 have SK:=M2.n0
 have r82:=aE h2.get h2.n0 (k:=8) (v:=v.vo) rfl
 have r8n:=bm.1 r8
 have abl:=bm.1 r82
 have dd:=M2.ldn (a:=⟨H.nx,0,none⟩) (fun q=>by
  rcases q with q|q
  ·have:=h.mh.lt (.inl rfl);simp at q;omega
  ·have:=h.mh.tr.lt q;simp at this) d
 have e1n:=bm.1 d1
 have abm:=bm.1 (aG dd (j:=1) rfl)
 have kT:=vz (sz:=2) (z:=[.int .i64 0,.int .i64 0]) (H:=H2) (v:=.agg #[.int .i64 n,.int .i64 (bh v.w p.vars [c.store] y)]) rfl rfl rfl
 simp only [fh]at kT
 have X3:=Ext.alloc H2 (.cells 2 [.int .i64 n,.int .i64 (bh v.w p.vars [c.store] y)])
 obtain ⟨H3,IT⟩:∃H3,H2.alloc (.cells 2 [.int .i64 n,.int .i64 (bh v.w p.vars [c.store] y)])=H3:=⟨_,rfl⟩
 obtain ⟨s',H4,ha,o4',M4,k4,lV,wU,wf4,kS,pI,abn⟩:=jd (bytes:=16) h2.wf h2.ou (r:=[.int .i64 n,.int .i64 (bh v.w p.vars [c.store] y)]) rfl IT (by rw [gX];omega) (by rw [gX];omega)
 rw [IT]at kT X3
 obtain ⟨a,c1,hs⟩:=o4'.shape
 rw [alW,List.length_singleton,gX]at hs
 subst hs
 have g4':=M4.get h2.d1.2.2.1 h2.get
 obtain ⟨H5,s5,M5,KL,vw,g5'⟩:=bw g4' (by rw [lV];exact h2.n0) (k:=8) (vs:=[.slice a (c.outs.length+1) c1]) (by simp)
 have o5:c9 H5 2 (.slice a (c.outs.length+1) c1) (cz (c.outs++[(n,bh v.w p.vars [c.store] y)])):=by
  rw [qM]
  exact o4'.mod M5 fun b hb q=>by have:=k4 b hb;have:=h2.lt (.inl rfl);omega
 have KM:Mod (fun b=>b=m∨aN v.vo b) H2 H5:=(M4.mono fun x _ hx=>.inr hx).trans (M5.mono fun x _ hx=>.inl hx)
 have h5:=h2.SA (vo:=.slice a (c.outs.length+1) c1) KM g5' o5 (fun b hb=>.inr (k4 b hb))
 have A5:=fH.ou h2 KM h5 (fun b hb=>.inr (k4 b hb))
 have svo:dD v.vo v.vo=true:=by rw [AI];simp
 have rO:dW [.int .i64 0,.int .i64 0] [(0,1,.int .i64 n),(1,1,.int .i64 (bh v.w p.vars [c.store] y))]=some (.agg #[.int .i64 n,.int .i64 (bh v.w p.vars [c.store] y)]):=rfl
 simp (maxSteps:=4000000)-implicitDefEqProofs+contextual [-X.ev,rO,kT,ha,s5,x2x,SK,r8n,abl,e1n,abm,svo,kS,lV,vw,pI,abn,KL,aY,aH,aI]
 apply ah
 ·(simp-implicitDefEqProofs [-X.ev];rfl)
 refine (fI A5.mh h.hr h.hf h.hs h.hl h.h0 (by omega) (by omega) (by omega) (by omega)).mono ?_
 rintro x H6 ⟨lJ,cD,oP,A6,R9,iN,xR⟩
 have A:=A2.trans (A5.trans A6)
 simp (maxSteps:=4000000)-implicitDefEqProofs+contextual [-X.ev]
 subst eI
 refine ⟨?_,_,_,A,fun _=>⟨oP,R9,?_⟩,by omega,⟨m1,rfl,m3,m4,m5,m6⟩,rfl,rfl,rfl,rfl⟩
 ·exact h.ov
 ·exact iN.symm
end
end Go.Proofs.YtppcmpmnglaleaaGreatDoor.A
namespace Go.Proofs.YtppcmpmnglaleaaGreatDoor.A
open Go
section
variable{G H:AH} {m:Nat} {p:bH} {ps:List Int} {v:MV} {c:eK} {cy rs:List (List Value)} {dB:List (List bI×Int)} {vl:Value} {cs:List Value} {k:Int} {s:bI} {l:List bI}
theorem IZ {n:Int} {args:List cn} {aB aC:List bI} (h:GM G H m p ps v c cy dB vl cs rs k (.mk 0 n args aB aC) l):
 jz G H 108 m p ps v c cy.length dB cs k (.mk 0 n args aB aC) l:=by
 intro c' jQ
 rw [kr,if_pos rfl]at jQ
 obtain ⟨aT,_,_,Ez⟩:=gI h.row
 obtain ⟨m1,m2,m3,m4,m5,m6⟩:=h.mt
 have gF:=h.hs
 cases gF with| @mk _ _ va vt ve ra rt re _ _ _ i1 i2 i3 i4 i5 g1 g2 g3 g4 g5 g6 g7 g8=>
 refine Ca.aR (F:=Dq) rfl rfl rfl ?_
 have hw:=h.mh.wf
 have X1:=Ext.alloc H (.cells 5 [.int .i64 0,.int .i64 n,va,vt,ve])
 have d0:(H.alloc (.cells 5 [.int .i64 0,.int .i64 n,va,vt,ve])).ld ⟨H.nx,0,none⟩=some (.int .i64 0):=ai hw rfl
 have d1:(H.alloc (.cells 5 [.int .i64 0,.int .i64 n,va,vt,ve])).ld ⟨H.nx,1,none⟩=some (.int .i64 n):=ai hw rfl
 have d2:(H.alloc (.cells 5 [.int .i64 0,.int .i64 n,va,vt,ve])).ld ⟨H.nx,2,none⟩=some va:=ai hw rfl
 have d3:(H.alloc (.cells 5 [.int .i64 0,.int .i64 n,va,vt,ve])).ld ⟨H.nx,3,none⟩=some vt:=ai hw rfl
 have d4:(H.alloc (.cells 5 [.int .i64 0,.int .i64 n,va,vt,ve])).ld ⟨H.nx,4,none⟩=some ve:=ai hw rfl
 have d:(H.alloc (.cells 5 [.int .i64 0,.int .i64 n,va,vt,ve])).ldn ⟨H.nx,0,none⟩ 5=some [.int .i64 0,.int .i64 n,va,vt,ve]:=ba hw 5 rfl
 generalize cV:H.alloc (.cells 5 [.int .i64 0,.int .i64 n,va,vt,ve])=H1 at X1 d0 d1 d2 d3 d4 d
 have bc:=X1.wf hw
 have h1:=h.mh.ext X1
 have b7:=h.b7
 have b5:=h.b5
 have b6:=h.b6
 have b1:=h.b1
 have b2:=h.b2
 have b3:=h.b3
 have b4:=h.b4
 have b8:=h.b8
 have vN:=h.w
 have lS:=h.w.symm
 have hV:=h.head
 have hS:=h.store
 rw [lS]at hV hS
 have A1:=fH.ku h.mh X1
 have eS:1≤v.w∧v.w≤8:=⟨(aO hV).1,(aO hV).2.1⟩
 have hp:=jg eS
 have IW:KU v.w p.vars [c.store]:=fun t ht=>by simp at ht;subst ht;exact hS
 have out:∀b,(b=m∨aN v.vt b)→b≠H.nx:=fun b hb e=>by
  subst e
  rcases hb with q|q
  ·have:=h.mh.lt (.inl q);omega
  ·have:=h.mh.tr.lt q;omega
 rw [lS]at aT
 have nb:¬ Mf m v H.nx:=fun q=>by have:=h.mh.lt q;omega
 have w0:IntKind.i64.wrap 0=0:=rfl
 have SM:IntKind.i64.wrap 1=1:=rfl
 obtain ⟨hn,fW⟩:(0≤n∧n<p.vars.length)∧((¬ 1<ak p.vars n∧∃a,args=[a])∨(1<ak p.vars n∧∃a b,args=[a,b])):=by
  rcases Ez with⟨_,q⟩|⟨q,_⟩|⟨q,_⟩|⟨q,_⟩|⟨q,_⟩|⟨q,_⟩
  ·exact q
  ·omega
  ·omega
  ·omega
  ·omega
  ·omega
 rcases fW with⟨hc,y,rfl⟩|⟨hc,z,y,rfl⟩
 ·obtain ⟨w7,PN⟩:=aT y (by simp)
  have PM:=jh hV IW y w7
  obtain ⟨b4',o4,c4,vy,r,lG,bN,xY,pH⟩:=eZ.row g1 g2 (i:=0) (y:=y) rfl
  simp only [Nat.zero_mul,Nat.add_zero]at bN
  rw [←xY]at bN
  simp (maxSteps:=4000000)-implicitDefEqProofs+contextual [-X.ev,Dq,cV,d]
  apply ah
  ·(simp-implicitDefEqProofs [-X.ev];rfl)
  refine (zA (op:=0) (n:=n) (va:=va) (vt:=vt) (ve:=ve) h1 h.vars hn hc).mono ?_
  rintro x H2 ⟨rfl,X2⟩
  have h2:=h1.ext X2
  have EG:=h2.sub.ldn bN
  have e2:=aG (X2.ldn d) (j:=2) rfl
  rw [lG]at e2
  have B2:=fH.ku h1 X2
  have u2:=eg (w:=v.w) (V:=p.vars) (S:=[c.store]) y
  simp (maxSteps:=4000000)-implicitDefEqProofs+contextual [-X.ev,e2,EG,w0]
  apply ah
  ·(simp-implicitDefEqProofs [-X.ev];rfl)
  refine (jj h2 hV hS h.vars h.cap pH w7 (by omega) (by rw [m2];omega)).mono ?_
  rintro x H3 ⟨rfl,my,h3,M3,k3⟩
  have B3:=B2.trans (fH.tr (v:=v) h3 M3 k3)
  simp (maxSteps:=4000000)-implicitDefEqProofs+contextual [-X.ev]
  apply ah
  ·(simp-implicitDefEqProofs [-X.ev];rfl)
  refine (fI B3.mh h.hr h.hf h.hs h.hl h.h0 (by omega) (by omega) (by omega) (by omega)).mono ?_
  rintro x H4 ⟨lJ,cD,oP,A4,ha,iN,xR⟩
  have B4:=B3.trans A4
  have e1:=aG (B4.mod.ldn (a:=⟨H.nx,0,none⟩) nb d) (j:=1) rfl
  simp (maxSteps:=4000000)-implicitDefEqProofs+contextual [-X.ev,e1]
  apply ah
  ·(simp-implicitDefEqProofs [-X.ev];rfl)
  refine (kY (n:=n) (i:=0) (a:=bh v.w p.vars [c.store] y) A4.mh hV hS h.vars h.cap hn (by omega) (by simp only [alW];omega)).mono ?_
  rintro x H5 ⟨NA,h5,M5,k5⟩
  have B5:=B4.trans (fH.V8 h5 M5 k5)
  have A:=A1.trans B5
  simp (maxSteps:=4000000)-implicitDefEqProofs+contextual [-X.ev]
  have eI:c'=iu p.vars (bg p c (.mk 0 n [y] aB aC) (bU l k (.mk 0 n [y] aB aC) dB)) n 0 (bh v.w p.vars [c.store] y):=by
   rw [jQ,if_neg hc]
   show iu _ _ _ _ (bh p.w p.vars [c.store] y)=_
   rw [lS]
  subst eI
  have gE:(iu p.vars (bg p c (.mk 0 n [y] aB aC) (bU l k (.mk 0 n [y] aB aC) dB)) n 0 (bh v.w p.vars [c.store] y)).store=c.store.set (bL p.vars n+0%ak p.vars n).toNat (bh v.w p.vars [c.store] y):=rfl
  have Bt:(iu p.vars (bg p c (.mk 0 n [y] aB aC) (bU l k (.mk 0 n [y] aB aC) dB)) n 0 (bh v.w p.vars [c.store] y)).trace=c.trace++nA v.w p.vars [c.store] y++if 1<ak p.vars n then [⟨2,n,0%ak p.vars n⟩]else []:=by
   show c.trace++eE p.w p.vars [c.store] [y]++_=_
   rw [lS];simp [eE]
  rw [←gE,←Bt]at A
  refine ⟨?_,_,cD,A,fun _=>⟨oP,ha,iN.symm⟩,by omega,⟨m1,?_,m3,m4,m5,m6⟩,rfl,rfl,rfl,rfl⟩
  ·exact h.ov
  ·show v.cost+ar y=c.cost+al [y]
   rw [m2];simp [al]
 ·obtain ⟨w7,PN⟩:=aT y (by simp)
  obtain ⟨hfz,VQ⟩:=aT z (by simp)
  have PM:=jh hV IW y w7
  have hwz:=jh hV IW z hfz
  obtain ⟨b4',o4,c4,vy,r,lG,bN,xY,pH⟩:=eZ.row g1 g2 (i:=1) (y:=y) rfl
  simp only [Nat.one_mul]at bN
  rw [←xY]at bN
  simp (maxSteps:=4000000)-implicitDefEqProofs+contextual [-X.ev,Dq,cV,d]
  apply ah
  ·(simp-implicitDefEqProofs [-X.ev];rfl)
  refine (zB (op:=0) (n:=n) (va:=va) (vt:=vt) (ve:=ve) h1 hV hS h.vars h.cap hn hc g1 g2 (y:=z) rfl hfz (by omega) (by rw [m2];omega)).mono ?_
  rintro x H2 ⟨rfl,vt1,h2,M2,k2⟩
  have EG:=h2.sub.ldn bN
  have B2:=fH.tr (v:=v) h2 M2 k2
  have e2:=aG (B2.mod.ldn (a:=⟨H.nx,0,none⟩) nb d) (j:=2) rfl
  rw [lG]at e2
  have u1:=eg (w:=v.w) (V:=p.vars) (S:=[c.store]) z
  have u2:=eg (w:=v.w) (V:=p.vars) (S:=[c.store]) y
  have pz:=dV z
  simp (maxSteps:=4000000)-implicitDefEqProofs+contextual [-X.ev,e2,EG,SM]
  apply ah
  ·(simp-implicitDefEqProofs [-X.ev];rfl)
  refine (jj h2 hV hS h.vars h.cap pH w7 (by rw [alW];omega) (by show 0≤v.cost+ar z∧v.cost+ar z+ar y≤2^60;rw [m2];omega)).mono ?_
  rintro x H3 ⟨rfl,my,h3,M3,k3⟩
  have B3:=B2.trans (fH.tr (v:={v with vt:=vt1,cost:=v.cost+ar z}) h3 M3 k3)
  simp (maxSteps:=4000000)-implicitDefEqProofs+contextual [-X.ev]
  apply ah
  ·(simp-implicitDefEqProofs [-X.ev];rfl)
  refine (fI B3.mh h.hr h.hf h.hs h.hl h.h0 (by omega) (by omega) (by omega) (by omega)).mono ?_
  rintro x H4 ⟨lJ,cD,oP,A4,ha,iN,xR⟩
  have B4:=B3.trans A4
  have e1:=aG (B4.mod.ldn (a:=⟨H.nx,0,none⟩) nb d) (j:=1) rfl
  simp (maxSteps:=4000000)-implicitDefEqProofs+contextual [-X.ev,e1]
  apply ah
  ·(simp-implicitDefEqProofs [-X.ev];rfl)
  refine (kY (n:=n) (i:=(bh v.w p.vars [c.store] z)) (a:=bh v.w p.vars [c.store] y) A4.mh hV hS h.vars h.cap hn (by omega) (by simp only [alW];omega)).mono ?_
  rintro x H5 ⟨NA,h5,M5,k5⟩
  have B5:=B4.trans (fH.V8 h5 M5 k5)
  have A:=A1.trans B5
  simp (maxSteps:=4000000)-implicitDefEqProofs+contextual [-X.ev]
  have eI:c'=iu p.vars (bg p c (.mk 0 n [z,y] aB aC) (bU l k (.mk 0 n [z,y] aB aC) dB)) n (bh v.w p.vars [c.store] z) (bh v.w p.vars [c.store] y):=by
   rw [jQ,if_pos hc]
   show iu _ _ _ _ (bh p.w p.vars [c.store] y)=_
   rw [lS];rfl
  subst eI
  have gE:(iu p.vars (bg p c (.mk 0 n [z,y] aB aC) (bU l k (.mk 0 n [z,y] aB aC) dB)) n (bh v.w p.vars [c.store] z) (bh v.w p.vars [c.store] y)).store=c.store.set (bL p.vars n+(bh v.w p.vars [c.store] z)%ak p.vars n).toNat (bh v.w p.vars [c.store] y):=rfl
  have Bt:(iu p.vars (bg p c (.mk 0 n [z,y] aB aC) (bU l k (.mk 0 n [z,y] aB aC) dB)) n (bh v.w p.vars [c.store] z) (bh v.w p.vars [c.store] y)).trace=c.trace++nA v.w p.vars [c.store] z++nA v.w p.vars [c.store] y++if 1<ak p.vars n then [⟨2,n,(bh v.w p.vars [c.store] z)%ak p.vars n⟩]else []:=by
   show c.trace++eE p.w p.vars [c.store] [z,y]++_=_
   rw [lS];simp [eE]
  rw [←gE,←Bt]at A
  refine ⟨?_,_,cD,A,fun _=>⟨oP,ha,iN.symm⟩,by omega,⟨m1,?_,m3,m4,m5,m6⟩,rfl,rfl,rfl,rfl⟩
  ·exact h.ov
  ·show v.cost+ar z+ar y=c.cost+al [z,y]
   rw [m2];simp [al];omega
end
end Go.Proofs.YtppcmpmnglaleaaGreatDoor.A
namespace Go.Proofs.YtppcmpmnglaleaaGreatDoor.A
open Go
section
variable{G H:AH} {m:Nat} {p:bH} {ps:List Int} {v:MV} {c:eK} {cy rs:List (List Value)} {dB:List (List bI×Int)} {vl:Value} {cs:List Value} {k:Int} {s:bI} {l:List bI}
theorem EI {n:Int} {args:List cn} {aB aC:List bI} (h:GM G H m p ps v c cy dB vl cs rs k (.mk 4 n args aB aC) l):
 jz G H 112 m p ps v c cy.length dB cs k (.mk 4 n args aB aC) l:=by
 intro c' jQ
 rw [kr,if_neg (by omega),if_neg (by omega),if_neg (by omega),if_neg (by omega),if_pos rfl]at jQ
 rw [show(bg p c (.mk 4 n args aB aC) (bU l k (.mk 4 n args aB aC) dB)).used=c.used from rfl]at jQ
 obtain ⟨aT,_,_,Ez⟩:=gI h.row
 obtain ⟨m1,m2,m3,m4,m5,m6⟩:=h.mt
 have gF:=h.hs
 cases gF with| @mk _ _ va vt ve ra rt re _ _ _ i1 i2 i3 i4 i5 g1 g2 g3 g4 g5 g6 g7 g8=>
 refine Ca.aR (F:=Dr) rfl rfl rfl ?_
 have hw:=h.mh.wf
 have X1:=Ext.alloc H (.cells 5 [.int .i64 4,.int .i64 n,va,vt,ve])
 have d0:(H.alloc (.cells 5 [.int .i64 4,.int .i64 n,va,vt,ve])).ld ⟨H.nx,0,none⟩=some (.int .i64 4):=ai hw rfl
 have d1:(H.alloc (.cells 5 [.int .i64 4,.int .i64 n,va,vt,ve])).ld ⟨H.nx,1,none⟩=some (.int .i64 n):=ai hw rfl
 have d2:(H.alloc (.cells 5 [.int .i64 4,.int .i64 n,va,vt,ve])).ld ⟨H.nx,2,none⟩=some va:=ai hw rfl
 have d3:(H.alloc (.cells 5 [.int .i64 4,.int .i64 n,va,vt,ve])).ld ⟨H.nx,3,none⟩=some vt:=ai hw rfl
 have d4:(H.alloc (.cells 5 [.int .i64 4,.int .i64 n,va,vt,ve])).ld ⟨H.nx,4,none⟩=some ve:=ai hw rfl
 have d:(H.alloc (.cells 5 [.int .i64 4,.int .i64 n,va,vt,ve])).ldn ⟨H.nx,0,none⟩ 5=some [.int .i64 4,.int .i64 n,va,vt,ve]:=ba hw 5 rfl
 generalize cV:H.alloc (.cells 5 [.int .i64 4,.int .i64 n,va,vt,ve])=H1 at X1 d0 d1 d2 d3 d4 d
 have bc:=X1.wf hw
 have h1:=h.mh.ext X1
 have b7:=h.b7
 have b5:=h.b5
 have b6:=h.b6
 have b1:=h.b1
 have b2:=h.b2
 have b3:=h.b3
 have b4:=h.b4
 have b8:=h.b8
 have vN:=h.w
 have lS:=h.w.symm
 have hV:=h.head
 have hS:=h.store
 rw [lS]at hV hS
 have A1:=fH.ku h.mh X1
 have eS:1≤v.w∧v.w≤8:=⟨(aO hV).1,(aO hV).2.1⟩
 have hp:=jg eS
 have IW:KU v.w p.vars [c.store]:=fun t ht=>by simp at ht;subst ht;exact hS
 have out:∀b,(b=m∨aN v.vt b)→b≠H.nx:=fun b hb e=>by
  subst e
  rcases hb with q|q
  ·have:=h.mh.lt (.inl q);omega
  ·have:=h.mh.tr.lt q;omega
 rw [lS]at aT
 have nb:¬ Mf m v H.nx:=fun q=>by have:=h.mh.lt q;omega
 have w0:IntKind.i64.wrap 0=0:=rfl
 have SM:IntKind.i64.wrap 1=1:=rfl
 obtain ⟨hn,fW⟩:(0≤n∧n<p.vars.length)∧((¬ 1<ak p.vars n∧args=[])∨(1<ak p.vars n∧∃a,args=[a])):=by
  rcases Ez with⟨q,_⟩|⟨q,_⟩|⟨q,_⟩|⟨q,_⟩|⟨_,q⟩|⟨q,_⟩
  ·omega
  ·omega
  ·omega
  ·omega
  ·exact q
  ·omega
 obtain ⟨pa,pc,SN⟩:=h.bR.len
 rcases fW with⟨hc,rfl⟩|⟨hc,y,rfl⟩
 ·simp (maxSteps:=4000000)-implicitDefEqProofs+contextual [-X.ev,Dr,cV,d]
  apply ah
  ·(simp-implicitDefEqProofs [-X.ev];rfl)
  refine (zA (op:=4) (n:=n) (va:=va) (vt:=vt) (ve:=ve) h1 h.vars hn hc).mono ?_
  rintro x H2 ⟨rfl,X2⟩
  have h2:=h1.ext X2
  have B2:=fH.ku h1 X2
  have f5:=aE h2.get h2.n0 (k:=5) (v:=v.vp) rfl
  have f11:=aE h2.get h2.n0 (k:=11) (v:=.int .i64 v.used) rfl
  rw [SN]at f5
  rw [m3]at f11
  by_cases q:ps.length≤c.used
  ·have hq:(c.used:Int)=(ps.length:Int):=by omega
   rw [if_pos q]at jQ
   simp (maxSteps:=4000000)-implicitDefEqProofs+contextual [-X.ev,f5,f11,m3,hq,aY,aH,aI]
   apply ah
   ·(simp-implicitDefEqProofs [-X.ev];rfl)
   refine (pJ (how:=4) (n:=k) B2.mh).mono ?_
   rintro x H3 ⟨rfl,A3⟩
   have A:=(A1.trans B2).trans A3
   simp (maxSteps:=4000000)-implicitDefEqProofs+contextual [-X.ev]
   subst jQ
   have Bt:(ek (bg p c (.mk 4 n [] aB aC) (bU l k (.mk 4 n [] aB aC) dB)) 4 k).trace=c.trace:=by
    show c.trace++eE p.w p.vars [c.store] []=_
    rw [lS];simp [eE]
   rw [←Bt]at A
   refine ⟨?_,_,_,A,fun q=>by simp [ek]at q,by simp,⟨rfl,?_,m3,rfl,m5,rfl⟩,rfl,rfl,rfl,rfl⟩
   ·rfl
   ·show v.cost=c.cost+al []
    rw [m2];simp [al]
  ·have hq:¬ (c.used:Int)=(ps.length:Int):=by omega
   rw [if_neg q]at jQ
   simp (maxSteps:=4000000)-implicitDefEqProofs+contextual [-X.ev,f5,f11,m3,hq,aY,aH,aI]
   apply ah
   ·(simp-implicitDefEqProofs [-X.ev];rfl)
   refine (fI B2.mh h.hr h.hf h.hs h.hl h.h0 (by omega) (by omega) (by omega) (by omega)).mono ?_
   rintro x H3 ⟨lJ,cD,oP,A3,ha,iN,xR⟩
   have B3:=B2.trans A3
   have g11:=aE A3.mh.get A3.mh.n0 (k:=11) (v:=.int .i64 v.used) rfl
   obtain ⟨H4,s4,A4,wU,lV⟩:=A3.mh.cell (v':={v with vf:=lJ,used:=(c.used:Int)+1}) 11 (.int .i64 ((c.used:Int)+1)) (by omega) rfl rfl rfl rfl rfl
   have B4:=B3.trans A4
   have w2:IntKind.i64.wrap ((c.used:Int)+1)=(c.used:Int)+1:=aj ⟨by omega,by omega⟩
   have w3:IntKind.i64.wrap (c.used:Int)=(c.used:Int):=aj ⟨by omega,by omega⟩
   have e1:=aG (B4.mod.ldn (a:=⟨H.nx,0,none⟩) nb d) (j:=1) rfl
   have h4:=A4.mh
   obtain ⟨a,SO⟩:∃a,ps[c.used]?=some a:=⟨_,alN (by omega)⟩
   have lG:e7 ps c.used=a:=by simp [e7,SO]
   obtain ⟨bp,op_,cp_,KN,eW⟩:=(eY.sub h4.sub h.bR).at SO
   have SP:=aE h4.get h4.n0 (k:=5) (v:=v.vp) rfl
   have NB:=aE h4.get h4.n0 (k:=11) (v:=.int .i64 ((c.used:Int)+1)) rfl
   rw [KN]at SP
   have dm:(c.used:Int)<(ps.length:Int):=by omega
   rw [m3]at g11
   simp (maxSteps:=4000000)-implicitDefEqProofs+contextual [-X.ev,g11,w2,s4,e1,SP,NB,w3,dm,eW]
   apply ah
   ·(simp-implicitDefEqProofs [-X.ev];rfl)
   refine (kY (n:=n) (i:=0) (a:=a) h4 hV hS h.vars h.cap hn (by omega) (by omega)).mono ?_
   rintro x H5 ⟨NA,h5,M5,k5⟩
   have A45:=fH.V8 h5 M5 k5
   have A:=A1.trans (B4.trans A45)
   have KY:=M5.nx
   have GK:=M5.n0
   simp (maxSteps:=4000000)-implicitDefEqProofs+contextual [-X.ev,aY,aH,aI,KY,GK]
   have eI:c'=iu p.vars {bg p c (.mk 4 n [] aB aC) (bU l k (.mk 4 n [] aB aC) dB)with used:=c.used+1} n 0 a:=by
    rw [jQ,if_neg hc,lG]
   subst eI
   have gE:(iu p.vars {bg p c (.mk 4 n [] aB aC) (bU l k (.mk 4 n [] aB aC) dB)with used:=c.used+1} n 0 a).store=c.store.set (bL p.vars n+0%ak p.vars n).toNat a:=rfl
   have Bt:(iu p.vars {bg p c (.mk 4 n [] aB aC) (bU l k (.mk 4 n [] aB aC) dB)with used:=c.used+1} n 0 a).trace=c.trace++if 1<ak p.vars n then [⟨2,n,0%ak p.vars n⟩]else []:=by
    show c.trace++eE p.w p.vars [c.store] []++_=_
    rw [lS];simp [eE]
   rw [←gE,←Bt]at A
   refine ⟨?_,_,cD,A,fun _=>⟨oP,ha,iN.symm⟩,by omega,⟨m1,?_,by show(c.used:Int)+1=((c.used+1:Nat):Int);omega,m4,m5,m6⟩,rfl,rfl,rfl,rfl⟩
   ·exact h.ov
   ·show v.cost=c.cost+al []
    rw [m2];simp [al]
 ·obtain ⟨w7,PN⟩:=aT y (by simp)
  have PM:=jh hV IW y w7
  simp (maxSteps:=4000000)-implicitDefEqProofs+contextual [-X.ev,Dr,cV,d]
  apply ah
  ·(simp-implicitDefEqProofs [-X.ev];rfl)
  refine (zB (op:=4) (n:=n) (va:=va) (vt:=vt) (ve:=ve) h1 hV hS h.vars h.cap hn hc g1 g2 (y:=y) rfl w7 (by omega) (by rw [m2];omega)).mono ?_
  rintro x H2 ⟨rfl,vt1,h2,M2,k2⟩
  have B2:=fH.tr (v:=v) h2 M2 k2
  have u1:=eg (w:=v.w) (V:=p.vars) (S:=[c.store]) y
  have f5:=aE h2.get h2.n0 (k:=5) (v:=v.vp) rfl
  have f11:=aE h2.get h2.n0 (k:=11) (v:=.int .i64 v.used) rfl
  rw [SN]at f5
  rw [m3]at f11
  by_cases q:ps.length≤c.used
  ·have hq:(c.used:Int)=(ps.length:Int):=by omega
   rw [if_pos q]at jQ
   simp (maxSteps:=4000000)-implicitDefEqProofs+contextual [-X.ev,f5,f11,m3,hq,aY,aH,aI]
   apply ah
   ·(simp-implicitDefEqProofs [-X.ev];rfl)
   refine (pJ (how:=4) (n:=k) B2.mh).mono ?_
   rintro x H3 ⟨rfl,A3⟩
   have A:=(A1.trans B2).trans A3
   simp (maxSteps:=4000000)-implicitDefEqProofs+contextual [-X.ev]
   subst jQ
   have Bt:(ek (bg p c (.mk 4 n [y] aB aC) (bU l k (.mk 4 n [y] aB aC) dB)) 4 k).trace=c.trace++nA v.w p.vars [c.store] y:=by
    show c.trace++eE p.w p.vars [c.store] [y]=_
    rw [lS];simp [eE]
   rw [←Bt]at A
   refine ⟨?_,_,_,A,fun q=>by simp [ek]at q,by simp,⟨rfl,?_,m3,rfl,m5,rfl⟩,rfl,rfl,rfl,rfl⟩
   ·rfl
   ·show v.cost+ar y=c.cost+al [y]
    rw [m2];simp [al]
  ·have hq:¬ (c.used:Int)=(ps.length:Int):=by omega
   rw [if_neg q]at jQ
   simp (maxSteps:=4000000)-implicitDefEqProofs+contextual [-X.ev,f5,f11,m3,hq,aY,aH,aI]
   apply ah
   ·(simp-implicitDefEqProofs [-X.ev];rfl)
   refine (fI B2.mh h.hr h.hf h.hs h.hl h.h0 (by omega) (by omega) (by omega) (by omega)).mono ?_
   rintro x H3 ⟨lJ,cD,oP,A3,ha,iN,xR⟩
   have B3:=B2.trans A3
   have g11:=aE A3.mh.get A3.mh.n0 (k:=11) (v:=.int .i64 v.used) rfl
   obtain ⟨H4,s4,A4,wU,lV⟩:=A3.mh.cell (v':={v with vt:=vt1,cost:=v.cost+ar y,vf:=lJ,used:=(c.used:Int)+1}) 11 (.int .i64 ((c.used:Int)+1)) (by omega) rfl rfl rfl rfl rfl
   have B4:=B3.trans A4
   have w2:IntKind.i64.wrap ((c.used:Int)+1)=(c.used:Int)+1:=aj ⟨by omega,by omega⟩
   have w3:IntKind.i64.wrap (c.used:Int)=(c.used:Int):=aj ⟨by omega,by omega⟩
   have e1:=aG (B4.mod.ldn (a:=⟨H.nx,0,none⟩) nb d) (j:=1) rfl
   have h4:=A4.mh
   obtain ⟨a,SO⟩:∃a,ps[c.used]?=some a:=⟨_,alN (by omega)⟩
   have lG:e7 ps c.used=a:=by simp [e7,SO]
   obtain ⟨bp,op_,cp_,KN,eW⟩:=(eY.sub h4.sub h.bR).at SO
   have SP:=aE h4.get h4.n0 (k:=5) (v:=v.vp) rfl
   have NB:=aE h4.get h4.n0 (k:=11) (v:=.int .i64 ((c.used:Int)+1)) rfl
   rw [KN]at SP
   have dm:(c.used:Int)<(ps.length:Int):=by omega
   rw [m3]at g11
   simp (maxSteps:=4000000)-implicitDefEqProofs+contextual [-X.ev,g11,w2,s4,e1,SP,NB,w3,dm,eW]
   apply ah
   ·(simp-implicitDefEqProofs [-X.ev];rfl)
   refine (kY (n:=n) (i:=(bh v.w p.vars [c.store] y)) (a:=a) h4 hV hS h.vars h.cap hn (by omega) (by simp only [alW];omega)).mono ?_
   rintro x H5 ⟨NA,h5,M5,k5⟩
   have A45:=fH.V8 h5 M5 k5
   have A:=A1.trans (B4.trans A45)
   have KY:=M5.nx
   have GK:=M5.n0
   simp (maxSteps:=4000000)-implicitDefEqProofs+contextual [-X.ev,aY,aH,aI,KY,GK]
   have eI:c'=iu p.vars {bg p c (.mk 4 n [y] aB aC) (bU l k (.mk 4 n [y] aB aC) dB)with used:=c.used+1} n (bh v.w p.vars [c.store] y) a:=by
    rw [jQ,if_pos hc,lG]
    show iu _ _ _ (bh p.w p.vars [c.store] y) _=_
    rw [lS]
   subst eI
   have gE:(iu p.vars {bg p c (.mk 4 n [y] aB aC) (bU l k (.mk 4 n [y] aB aC) dB)with used:=c.used+1} n (bh v.w p.vars [c.store] y) a).store=c.store.set (bL p.vars n+(bh v.w p.vars [c.store] y)%ak p.vars n).toNat a:=rfl
   have Bt:(iu p.vars {bg p c (.mk 4 n [y] aB aC) (bU l k (.mk 4 n [y] aB aC) dB)with used:=c.used+1} n (bh v.w p.vars [c.store] y) a).trace=c.trace++nA v.w p.vars [c.store] y++if 1<ak p.vars n then [⟨2,n,(bh v.w p.vars [c.store] y)%ak p.vars n⟩]else []:=by
    show c.trace++eE p.w p.vars [c.store] [y]++_=_
    rw [lS];simp [eE]
   rw [←gE,←Bt]at A
   refine ⟨?_,_,cD,A,fun _=>⟨oP,ha,iN.symm⟩,by omega,⟨m1,?_,by show(c.used:Int)+1=((c.used+1:Nat):Int);omega,m4,m5,m6⟩,rfl,rfl,rfl,rfl⟩
   ·exact h.ov
   ·show v.cost+ar y=c.cost+al [y]
    rw [m2];simp [al]
end
end Go.Proofs.YtppcmpmnglaleaaGreatDoor.A
namespace Go.Proofs.YtppcmpmnglaleaaGreatDoor.A
open Go
structure Inv (p:bH) (ps:List Int) (c:eK):Prop where
 head:aD p.w p.vars=true
 store:bX p.w p.vars c.store=true
 words:∀a∈ps,0≤a∧a<2^p.w.toNat
 used:c.used≤ps.length∧ps.length≤16
 SQ:aw p.body≤400
 todo:∀it∈c.todo,0≤it.1∧it.1+aZ it.2≤aw p.body∧fF p.w p.vars it.2=true∧a8 it.2≤400
 fuel:0≤c.fuel∧c.fuel≤4096
 tr:(c.trace.length:Int)+500*c.fuel≤2^30
 ou:(c.outs.length:Int)+c.fuel≤2^30
 co:0≤c.cost∧c.cost+500*c.fuel≤2^40
theorem mU {w:Int} {V:List Vr} {C N:Int}:∀(l:List bI) (k:Int),0≤k→k+aw l≤C→fX w V l=true→av l≤N→∀it∈dK l k,0≤it.1∧it.1+aZ it.2≤C∧fF w V it.2=true∧a8 it.2≤N
 |[],k,_,_,_,_,it,h=>by simp [dK]at h
 |s::l,k,hk,hC,hr,hn,it,h=>by
  rw [jy]at h
  rw [aw]at hC
  rw [av]at hn
  rw [fX,alQ]at hr
  have h1:=aV l
  have h2:=ko s
  have h3:=kj s
  have h4:=cA l
  rcases List.mem_cons.1 h with rfl|h
  ·exact ⟨hk,by show k+aZ s≤C;omega,hr.1,by show a8 s≤N;omega⟩
  ·exact mU l _ (by omega) (by omega) hr.2 (by omega) it h
theorem vO {w:Int} {V:List Vr} {s:List Int} (eS:1≤w∧w≤8) (h:bX w V s=true) (k:Nat) {a:Int} (ha:0≤a∧a<2^w.toNat):bX w V (s.set k a)=true:=by
 simp only [bX,alQ,alZ,al3,List.length_set]at h⊢
 refine ⟨h.1,fun b hb=>?_⟩
 rcases List.mem_or_eq_of_mem_set hb with q|q
 ·exact h.2 b q
 ·rw [q];exact kW eS ha
theorem zC {p:bH} {ps:List Int} {c:eK} {n i a:Int} (h:Inv p ps c) (h':(c.trace.length:Int)+1+500*c.fuel≤2^30) (ha:0≤a∧a<2^p.w.toNat):Inv p ps (iu p.vars c n i a)where
 head:=h.head
 store:=vO ⟨(aO h.head).1,(aO h.head).2.1⟩ h.store _ ha
 words:=h.words
 used:=h.used
 SQ:=h.SQ
 todo:=h.todo
 fuel:=h.fuel
 tr:=by
  show((c.trace++_).length:Int)+500*c.fuel≤2^30
  rw [alW]
  split
  ·simp;omega
  ·simp;have:=h.tr;omega
 ou:=h.ou
 co:=h.co
theorem kz {p:bH} {ps:List Int} {c:eK} (h:Inv p ps c) (e n:Int):Inv p ps (ek c e n):={h with todo:=by simp [ek]}
theorem Bu {p:bH} {S:List (List Int)} (hV:aD p.w p.vars=true) (hS:KU p.w p.vars S):∀(l:List cn),(∀e∈l,dP p.w p.vars S.length e=true)→∀i,i<l.length→0≤e7 (cC p.w p.vars S l) i∧e7 (cC p.w p.vars S l) i<2^p.w.toNat:=by
 intro l hl i hi
 have:e7 (cC p.w p.vars S l) i=bh p.w p.vars S (l[i]):=by
  unfold e7
  rw [vG,alN hi];rfl
 rw [this]
 exact jh hV hS _ (hl _ (List.getElem_mem hi))
theorem oQ {w:Int} {V:List Vr} {S:List (List Int)}:∀l:List cn,(cC w V S l).length=l.length
 |[]=>rfl
 |e::l=>by simp [cC,oQ l]
theorem EJ {p:bH} {ps:List Int} {c:eK} (h:Inv p ps c):Inv p ps (du p ps c):=by
 unfold du
 by_cases ho:c.over=true
 ·rw [if_pos ho];exact h
 rw [if_neg ho]
 cases ht:c.todo with
 |nil=>exact h
 |cons it next=>
  obtain ⟨k,s⟩:=it
  show Inv p ps (if c.fuel=0 then _ else _)
  by_cases hf:c.fuel=0
  ·rw [if_pos hf];exact kz h _ _
  rw [if_neg hf]
  obtain ⟨op,n,args,aB,aC⟩:=s
  obtain ⟨K3,Si,nO,uD⟩:=h.todo (k,.mk op n args aB aC) (by rw [ht];simp)
  obtain ⟨aT,SR,xY,Ez⟩:=gI nO
  have ai4:aZ (.mk op n args aB aC)=1+aw aB+aw aC:=by rw [aZ]
  simp only at K3 Si uD
  rw [a8]at uD
  have pa:=bu args
  have pt:=cA aB
  have pe:=cA aC
  have bt:=aV aB
  have be:=aV aC
  have hp:=jg (w:=p.w) ⟨(aO h.head).1,(aO h.head).2.1⟩
  have IW:KU p.w p.vars [c.store]:=fun t ht=>by simp at ht;subst ht;exact h.store
  have NC:=Bu (S:=[c.store]) h.head IW args (fun e he=>(aT e he).1)
  have evb:=ji (w:=p.w) (V:=p.vars) (S:=[c.store]) (l:=args) (fun e _=>eg e)
  have hfu:=h.fuel
  have Bt:=h.tr
  have hou:=h.ou
  have LU:=h.co
  obtain ⟨b,hb⟩:∃b,l7 p c (.mk op n args aB aC) next=b:=⟨_,rfl⟩
  have e1:b.trace=c.trace++eE p.w p.vars [c.store] args:=by rw [←hb];rfl
  have e2:b.cost=c.cost+1+al args:=by rw [←hb];rfl
  have e3:b.fuel=c.fuel- 1:=by rw [←hb];rfl
  have e4:b.todo=next:=by rw [←hb];rfl
  have e5:b.outs=c.outs:=by rw [←hb];rfl
  have e6:b.used=c.used:=by rw [←hb];rfl
  have vP:∀it∈next,0≤it.1∧it.1+aZ it.2≤aw p.body∧fF p.w p.vars it.2=true∧a8 it.2≤400:=fun it ND=>h.todo it (by rw [ht];simp [ND])
  have Ph:(b.trace.length:Int)+99+500*b.fuel≤2^30:=by rw [e1,e3,alW];omega
  have ib:Inv p ps b:={head:=h.head,store:=by rw [←hb];exact h.store,words:=h.words,used:=by rw [e6];exact h.used,SQ:=h.SQ,todo:=by rw [e4];exact vP,fuel:=by rw [e3];omega,tr:=by omega,ou:=by rw [e5,e3];omega,co:=by rw [e2,e3];omega}
  rw [show(bI.mk op n args aB aC).args=args from rfl]
  have SS:=mU (w:=p.w) (V:=p.vars) (C:=aw p.body) (N:=400) aB (k+1) (by omega) (by omega) SR (by omega)
  have abr:=mU (w:=p.w) (V:=p.vars) (C:=aw p.body) (N:=400) aC (k+1+aw aB) (by omega) (by omega) xY (by omega)
  have both:∀(l:List uC),(∀it∈l,0≤it.1∧it.1+aZ it.2≤aw p.body∧fF p.w p.vars it.2=true∧a8 it.2≤400)→∀(e:Ev),Inv p ps {b with trace:=b.trace++[e],todo:=l}:=fun l hl e=>
   {ib with todo:=hl,tr:=by show((b.trace++[e]).length:Int)+500*b.fuel≤2^30;rw [alW];simp;omega}
  have app:∀(l m:List uC),(∀it∈l,0≤it.1∧it.1+aZ it.2≤aw p.body∧fF p.w p.vars it.2=true∧a8 it.2≤400)→(∀it∈m,0≤it.1∧it.1+aZ it.2≤aw p.body∧fF p.w p.vars it.2=true∧a8 it.2≤400)→∀it∈l++m,0≤it.1∧it.1+aZ it.2≤aw p.body∧fF p.w p.vars it.2=true∧a8 it.2≤400:=fun l m hl hm it ND=>(List.mem_append.1 ND).elim (hl it) (hm it)
  rw [hb]
  unfold kr
  by_cases o0:op=0
  ·simp only [if_pos o0]
   have hlen:0<args.length:=by
    rcases Ez with⟨_,_,⟨_,a,rfl⟩|⟨_,a,b,rfl⟩⟩|⟨q,_⟩|⟨q,_⟩|⟨q,_⟩|⟨q,_⟩|⟨q,_⟩
    ·simp
    ·simp
    all_goals omega
   exact zC ib (by omega) (NC _ (by rw [oQ];omega))
  simp only [if_neg o0]
  by_cases o1:op=1
  ·simp only [if_pos o1]
   by_cases q:e7 (cC p.w p.vars [c.store] args) 0=0
   ·simp only [if_pos q];exact both _ (app _ _ abr vP) _
   ·simp only [if_neg q];exact both _ (app _ _ SS vP) _
  simp only [if_neg o1]
  by_cases o2:op=2
  ·simp only [if_pos o2]
   by_cases q:e7 (cC p.w p.vars [c.store] args) 0=0
   ·simp only [if_pos q];exact both _ vP _
   ·simp only [if_neg q]
    exact both _ (app _ _ SS (fun it ND=>by
     rcases List.mem_cons.1 ND with rfl|ND
     ·exact ⟨K3,Si,nO,by show a8 (.mk op n args aB aC)≤400;rw [a8];omega⟩
     ·exact vP it ND)) _
  simp only [if_neg o2]
  by_cases o3:op=3
  ·simp only [if_pos o3]
   exact {ib with ou:=by show((b.outs++[_]).length:Int)+b.fuel≤2^30;rw [alW,e5,e3];simp;omega}
  simp only [if_neg o3]
  by_cases o4:op=4
  ·simp only [if_pos o4]
   by_cases q:ps.length≤b.used
   ·simp only [if_pos q];exact kz ib _ _
   ·simp only [if_neg q]
    have hu:=ib.used
    refine zC (c:={b with used:=b.used+1}) {ib with used:=by show b.used+1≤ps.length∧_;omega} (by show(b.trace.length:Int)+1+500*b.fuel≤2^30;omega) ?_
    have:e7 ps b.used=ps[b.used]'(by omega):=by simp [e7,alN (show b.used<ps.length by omega)]
    rw [this]
    exact h.words _ (List.getElem_mem _)
  simp only [if_neg o4]
  by_cases o5:op=5
  ·simp only [if_pos o5]
   by_cases q:e7 (cC p.w p.vars [c.store] args) 0=0
   ·simp only [if_pos q];exact kz ib _ _
   ·simp only [if_neg q];exact ib
  simp only [if_neg o5]
  by_cases q:e7 (cC p.w p.vars [c.store] args) 0=0
  ·simp only [if_pos q];exact kz ib _ _
  ·simp only [if_neg q];exact ib
open Go
structure qS (G H:AH) (m:Nat) (p:bH) (ps:List Int) (v:MV) (c:eK):Prop where
 is:∃rows,MH G H m v rows c.store c.outs c.trace∧(c.over=false→∃fs,eu (K2 G) rows fs∧c.todo=kv fs)∧(rows.length:Int)+2*c.fuel≤2^20
 w:v.w=p.w
 vars:dA G v.vv p.vars
 cap:Ej v.vv
 bR:eY G v.vp ps
 mt:Mt v c
 inv:Inv p ps c
 ov:c.over=true→c.todo=[]
def cZ (c:eK):Bool:=c.over||c.todo.isEmpty
theorem qS.mod {G H H':AH} {m:Nat} {p:bH} {ps:List Int} {v:MV} {c:eK} {T:Nat→Prop} (h:qS G H m p ps v c) (M:Mod T H H') (hT:∀b,T b→¬ Mf m v b) (hG:∀b,T b→G.get b=none):qS G H' m p ps v c:=by
 obtain ⟨rows,h1,h2,h3⟩:=h.is
 exact {h with is:=⟨rows,h1.mod M hT hG,h2,h3⟩}
theorem qS.ext {G H H':AH} {m:Nat} {p:bH} {ps:List Int} {v:MV} {c:eK} (h:qS G H m p ps v c) (X:Ext H H'):qS G H' m p ps v c:=h.mod (Mod.bE (S:=fun _=>False) X) (by simp) (by simp)
theorem vQ {α β:Type} {C:α→β→Prop} {l:List α} (h:eu C l []):l=[]:=by cases h;rfl
theorem nU {α β:Type} {C:α→β→Prop}:∀{l:List α} {k:List β} {b:β},eu C l (k++[b])→∃l0 a,l=l0++[a]∧eu C l0 k∧C a b
 |_,[],b,.cons h .nil=>⟨[],_,rfl,.nil,h⟩
 |_,x::k,b,.cons h t=>by
  obtain ⟨l0,a,rfl,h1,h2⟩:=nU t
  exact ⟨_::l0,a,rfl,.cons h h1,h2⟩
theorem vR (p:bH) (c:eK) (s:bI) (next:List uC):bg p {c with fuel:=c.fuel- 1,cost:=c.cost+1} s next=l7 p c s next:=rfl
theorem abt {G H:AH} {m:Nat} {p:bH} {ps:List Int} {v:MV} {c:eK} {cy rs:List (List Value)} {dB:List (List bI×Int)} {vl:Value} {cs:List Value} {k:Int} {l:List bI} {op n:Int} {args:List cn} {aB aC:List bI} (q:Value) (h:GM G H m p ps v c cy dB vl cs rs k (.mk op n args aB aC) l):
 0≤op∧op<7∧∃f,([.func (.func 108) #[q] #[],.func (.func 109) #[q] #[],.func (.func 110) #[q] #[],.func (.func 111) #[q] #[],.func (.func 112) #[q] #[],.func (.func 113) #[q] #[],.func (.func 114) #[q] #[]]:List Value)[op.toNat]?=some (.func (.func f) #[q] #[])∧
  jz G H f m p ps v c cy.length dB cs k (.mk op n args aB aC) l:=by
 obtain ⟨_,_,_,Ez⟩:=gI h.row
 rcases Ez with⟨rfl,_⟩|⟨rfl,_⟩|⟨rfl,_⟩|⟨rfl,_⟩|⟨rfl,_⟩|⟨rfl|rfl,_⟩
 ·exact ⟨by omega,by omega,_,rfl,IZ h⟩
 ·exact ⟨by omega,by omega,_,rfl,Bs h⟩
 ·exact ⟨by omega,by omega,_,rfl,IX h⟩
 ·exact ⟨by omega,by omega,_,rfl,IY h⟩
 ·exact ⟨by omega,by omega,_,rfl,EI h⟩
 ·exact ⟨by omega,by omega,_,rfl,EA h⟩
 ·exact ⟨by omega,by omega,_,rfl,EB h⟩
theorem Bv {p:bH} {ps:List Int} {c:eK} {k:Int} {s:bI} {vals:List Int} {next:List uC} (h:c.over=false):(kr p ps c k s vals next).over=true→(kr p ps c k s vals next).todo=[]:=by
 obtain ⟨op,n,args,aB,aC⟩:=s
 unfold kr
 intro q
 by_cases o0:op=0
 ·simp only [if_pos o0,iu]at q⊢;rw [h]at q;cases q
 simp only [if_neg o0]at q⊢
 by_cases o1:op=1
 ·simp only [if_pos o1]at q⊢;rw [h]at q;cases q
 simp only [if_neg o1]at q⊢
 by_cases o2:op=2
 ·simp only [if_pos o2]at q⊢;rw [h]at q;cases q
 simp only [if_neg o2]at q⊢
 by_cases o3:op=3
 ·simp only [if_pos o3]at q⊢;rw [h]at q;cases q
 simp only [if_neg o3]at q⊢
 by_cases o4:op=4
 ·simp only [if_pos o4]at q⊢
  by_cases u:ps.length≤c.used
  ·simp only [if_pos u];rfl
  ·simp only [if_neg u,iu]at q;rw [h]at q;cases q
 simp only [if_neg o4]at q⊢
 by_cases o5:op=5
 ·simp only [if_pos o5]at q⊢
  by_cases u:e7 vals 0=0
  ·simp only [if_pos u];rfl
  ·simp only [if_neg u]at q;rw [h]at q;cases q
 simp only [if_neg o5]at q⊢
 by_cases u:e7 vals 0=0
 ·simp only [if_pos u];rfl
 ·simp only [if_neg u]at q;rw [h]at q;cases q
theorem vT {p:bH} {ps:List Int} {c:eK} {k:Int} {s:bI} {vals:List Int} {next:List uC}:(kr p ps c k s vals next).fuel=c.fuel:=by
 obtain ⟨op,n,args,aB,aC⟩:=s
 unfold kr
 by_cases o0:op=0
 ·simp only [if_pos o0];rfl
 simp only [if_neg o0]
 by_cases o1:op=1
 ·simp only [if_pos o1]
 simp only [if_neg o1]
 by_cases o2:op=2
 ·simp only [if_pos o2]
 simp only [if_neg o2]
 by_cases o3:op=3
 ·simp only [if_pos o3]
 simp only [if_neg o3]
 by_cases o4:op=4
 ·simp only [if_pos o4];split<;>rfl
 simp only [if_neg o4]
 by_cases o5:op=5
 ·simp only [if_pos o5];split<;>rfl
 simp only [if_neg o5];split<;>rfl
structure abu (G H:AH) (m:Nat) (p:bH) (ps:List Int) (v:MV) (H':AH) (c':eK):Prop where
 is:∃v',qS G H' m p ps v' c'∧Mod (Mf m v) H H'∧(∀b,Mf m v' b→Mf m v b∨H.nx≤b)∧Sm v v'
theorem I0 {G H:AH} {m:Nat} {p:bH} {ps:List Int} {v:MV} {c:eK} (h:qS G H m p ps v c):
 Ca E O 78 [.pointer (some ⟨m,0,none⟩)] H (fun x H'=>x= .bool (!cZ c&& !(du p ps c).over)∧abu G H m p ps v H' (du p ps c)):=by
 refine Ca.aR (F:=Pj) rfl rfl rfl ?_
 obtain ⟨rows,hM,xS,xR⟩:=h.is
 obtain ⟨m1,m2,m3,m4,m5,m6⟩:=h.mt
 have Bw:=aE hM.get hM.n0 (k:=13) (v:=.bool v.ended) rfl
 cases ho:c.over with
 |true=>
  have hs:du p ps c=c:=by unfold du;rw [if_pos ho]
  rw [m6,ho]at Bw
  have he:cZ c=true:=by simp [cZ,ho]
  rw [hs,he]
  simp (maxSteps:=4000000)-implicitDefEqProofs+contextual [-X.ev,Pj,Bw]
  exact ⟨v,h,Mod.refl _ _,fun b hb=>.inl hb,rfl,rfl,rfl,rfl⟩
 |false=>
  rw [m6,ho]at Bw
  obtain ⟨fs,aT,I1⟩:=xS ho
  rcases List.eq_nil_or_concat fs with rfl|⟨dB,f,xS⟩
  ·have IQ:=vQ aT
   subst IQ
   have ht:c.todo=[]:=I1
   have hs:du p ps c=c:=by unfold du;rw [if_neg (by rw [ho];decide),ht]
   have he:cZ c=true:=by simp [cZ,ht]
   rw [hs,he]
   simp (maxSteps:=4000000)-implicitDefEqProofs+contextual [-X.ev,Pj,Bw]
   apply ah
   ·(simp-implicitDefEqProofs [-X.ev];rfl)
   refine (Ei hM.wf hM.get hM.n0 hM.fr).mono ?_
   rintro x H1 ⟨rfl,X1⟩
   obtain ⟨H2,s2,X2,vF,nQ,g2⟩:=gq (X1.wf hM.wf) (z:=5) (c:=zS) (vs:=zS) rfl
   simp (maxSteps:=4000000)-implicitDefEqProofs+contextual [-X.ev,s2]
   exact ⟨v,h.ext (X1.trans X2),Mod.bE (X1.trans X2),fun b hb=>.inl hb,rfl,rfl,rfl,rfl⟩
  ·rw [List.concat_eq_append]at xS
   subst xS
   obtain ⟨cy,r,rfl,h0,vl,rs,rfl,hr,hkl,GZ,fw,iN⟩:=nU aT
   obtain ⟨lst,k⟩:=f
   cases hkl with
   |nil=>exact absurd rfl fw
   | @cons cs s rs l hs hl=>
   rw [gZ,jy]at I1
   simp only [List.cons_append]at I1
   have gF:=hs.len
   have hinv:=h.inv
   obtain ⟨K3,Si,nO,uD⟩:=hinv.todo (k,s) (by rw [I1];simp)
   simp only at K3 Si uD iN hr
   have pc:=ko s
   have ai7:=hinv.SQ
   have hfu:=hinv.fuel
   have Bt:=hinv.tr
   have hou:=hinv.ou
   have LU:=hinv.co
   have hus:=hinv.used
   have he:cZ c=false:=by simp [cZ,ho,I1]
   have r4:=aE hM.get hM.n0 (k:=4) (v:=.int .i64 v.fuel) rfl
   rw [m5]at r4
   simp only [alW,List.length_singleton]at xR
   rw [he]
   simp (maxSteps:=4000000)-implicitDefEqProofs+contextual [-X.ev,Pj,Bw]
   apply ah
   ·(simp-implicitDefEqProofs [-X.ev];rfl)
   refine (IP hM.wf hM.get hM.n0 hM.fr (by omega) hM.sub hr).mono ?_
   rintro x H1 ⟨rfl,X1⟩
   have pk:=X1.wf hM.wf
   obtain ⟨H2,s2,X2,vF,nQ,g2⟩:=gq pk (z:=5) (c:=zS) (vs:=cs) gF
   have kg:=X1.trans X2
   have lq:=X2.wf pk
   have M2:=hM.ext kg
   have r42:=kg.ld r4
   by_cases hf:c.fuel=0
   ·have uy:du p ps c=ek c 3 k:=by unfold du;rw [if_neg (by rw [ho];decide),I1];show(if c.fuel=0 then _ else _)=_;rw [if_pos hf]
    rw [hf]at r42
    simp (maxSteps:=4000000)-implicitDefEqProofs+contextual [-X.ev,gF,s2,r42]
    apply ah
    ·(simp-implicitDefEqProofs [-X.ev];rfl)
    refine (pJ (how:=3) (n:=k) M2).mono ?_
    rintro x H3 ⟨rfl,A3⟩
    rw [uy]
    have SU:(ek c 3 k).over=true:=rfl
    simp (maxSteps:=4000000)-implicitDefEqProofs+contextual [-X.ev,SU]
    have A:=(fH.ku hM kg).trans A3
    exact ⟨_,{is:=⟨_,A.mh,fun q=>by rw [SU]at q;exact absurd q (by decide),by rw [alW,List.length_singleton];show _+2*c.fuel≤2^20;omega⟩,w:=h.w,vars:=h.vars,cap:=h.cap,bR:=h.bR,mt:=⟨rfl,m2,m3,rfl,m5,rfl⟩,inv:=kz hinv 3 k,ov:=fun _=>rfl},A.mod,A.new,rfl,rfl,rfl,rfl⟩
   ·have uy:du p ps c=kr p ps (l7 p c s (bU l k s dB)) k s (cC p.w p.vars [c.store] s.args) (bU l k s dB):=by unfold du;rw [if_neg (by rw [ho];decide),I1];show(if c.fuel=0 then _ else _)=_;rw [if_neg hf]
    have w1:IntKind.i64.wrap (c.fuel- 1)=c.fuel- 1:=aj ⟨by omega,by omega⟩
    have w2:IntKind.i64.wrap (c.cost+1)=c.cost+1:=aj ⟨by omega,by omega⟩
    obtain ⟨H3,s3,A3,pI,kS⟩:=M2.cell (v':={v with fuel:=c.fuel- 1}) 4 (.int .i64 (c.fuel- 1)) (by omega) rfl rfl rfl rfl rfl
    have r10:=aE A3.mh.get A3.mh.n0 (k:=10) (v:=.int .i64 v.cost) rfl
    rw [m2]at r10
    obtain ⟨H4,s4,A4,wU,lV⟩:=A3.mh.cell (v':={v with fuel:=c.fuel- 1,cost:=c.cost+1}) 10 (.int .i64 (c.cost+1)) (by omega) rfl rfl rfl rfl rfl
    have B4:=A3.trans A4
    have M4:=A4.mh
    obtain ⟨q,hq⟩:∃q:Value,.pointer (some ⟨m,0,none⟩)=q:=⟨_,rfl⟩
    obtain ⟨H5,s5,X5,KL,vw,g5⟩:=gq M4.wf (z:=7) (c:=[.nilFunc,.nilFunc,.nilFunc,.nilFunc,.nilFunc,.nilFunc,.nilFunc]) (vs:=[.func (.func 108) #[q] #[],.func (.func 109) #[q] #[],.func (.func 110) #[q] #[],.func (.func 111) #[q] #[],.func (.func 112) #[q] #[],.func (.func 113) #[q] #[],.func (.func 114) #[q] #[]]) rfl
    subst hq
    have M5:=M4.ext X5
    have oO:=M5.wf
    have nb:¬ Mf m v H1.nx:=fun q=>by have:=hM.lt q;have:=X1.nx;omega
    have gcs:=X5.get (B4.mod.get nb g2)
    have n5:H5.n0≤H1.nx:=by rw [vw,lV,kS,nQ];exact pk
    have lcs:H5.ldn ⟨H1.nx,0,none⟩ 5=some cs:=by rw [bk gcs n5 (by omega)];simp [alU (Nat.le_of_eq gF)]
    obtain ⟨op,n,args,aB,aC⟩:=s
    have abx:∃t,cs= .int .i64 op::t:=by cases hs;exact ⟨_,rfl⟩
    obtain ⟨t,rfl⟩:=abx
    have l0:=aE gcs n5 (k:=0) (v:=.int .i64 op) rfl
    have hAt:GM G H5 m p ps {v with fuel:=c.fuel- 1,cost:=c.cost+1} {c with fuel:=c.fuel- 1,cost:=c.cost+1} cy dB vl (.int .i64 op::t) rs k (.mk op n args aB aC) l:=
     {mh:=M5,hr:=hr,hf:=GZ,hs:=hs,hl:=hl,h0:=h0,w:=h.w,vars:=h.vars,cap:=h.cap,bR:=h.bR,head:=hinv.head,store:=hinv.store,mt:=⟨m1,rfl,m3,m4,rfl,m6⟩,ov:=ho,row:=nO,b1:=by omega,b2:=by omega,b3:=by omega,b4:=by simpa using iN,b5:=by show c.trace.length≤2^31;omega,b6:=by show c.outs.length≤2^31;omega,b7:=by show 0≤c.cost+1∧c.cost+1≤2^50;omega,b8:=by show c.used≤ps.length∧_;omega}
    obtain ⟨ho1,ho2,f,gh,eI⟩:=abt (.pointer (some ⟨m,0,none⟩)) hAt
    have lf:=aE g5 (by rw [vw];exact M4.wf) gh
    have rO:dW [.nilFunc,.nilFunc,.nilFunc,.nilFunc,.nilFunc,.nilFunc,.nilFunc] [(0,1,.func (.func 108) #[.pointer (some ⟨m,0,none⟩)] #[]),(1,1,.func (.func 109) #[.pointer (some ⟨m,0,none⟩)] #[]),(2,1,.func (.func 110) #[.pointer (some ⟨m,0,none⟩)] #[]),(3,1,.func (.func 111) #[.pointer (some ⟨m,0,none⟩)] #[]),(4,1,.func (.func 112) #[.pointer (some ⟨m,0,none⟩)] #[]),(5,1,.func (.func 113) #[.pointer (some ⟨m,0,none⟩)] #[]),(6,1,.func (.func 114) #[.pointer (some ⟨m,0,none⟩)] #[])]=some (.agg #[.func (.func 108) #[.pointer (some ⟨m,0,none⟩)] #[],.func (.func 109) #[.pointer (some ⟨m,0,none⟩)] #[],.func (.func 110) #[.pointer (some ⟨m,0,none⟩)] #[],.func (.func 111) #[.pointer (some ⟨m,0,none⟩)] #[],.func (.func 112) #[.pointer (some ⟨m,0,none⟩)] #[],.func (.func 113) #[.pointer (some ⟨m,0,none⟩)] #[],.func (.func 114) #[.pointer (some ⟨m,0,none⟩)] #[]]):=rfl
    have zD:=eI _ rfl
    rw [vR]at zD
    rw [uy]
    obtain ⟨c',jQ⟩:∃c',kr p ps (l7 p c (.mk op n args aB aC) (bU l k (.mk op n args aB aC) dB)) k (.mk op n args aB aC) (cC p.w p.vars [c.store] args) (bU l k (.mk op n args aB aC) dB)=c':=⟨_,rfl⟩
    have zE:=EJ hinv
    have SV:=Bv (p:=p) (ps:=ps) (c:=l7 p c (.mk op n args aB aC) (bU l k (.mk op n args aB aC) dB)) (k:=k) (s:=.mk op n args aB aC) (vals:=cC p.w p.vars [c.store] args) (next:=bU l k (.mk op n args aB aC) dB) ho
    have SW:=vT (p:=p) (ps:=ps) (c:=l7 p c (.mk op n args aB aC) (bU l k (.mk op n args aB aC) dB)) (k:=k) (s:=.mk op n args aB aC) (vals:=cC p.w p.vars [c.store] args) (next:=bU l k (.mk op n args aB aC) dB)
    rw [uy]at zE
    simp only [bI.args]at zD zE⊢
    rw [jQ]at zD zE SV SW⊢
    have aby:c'.fuel=c.fuel- 1:=SW
    have gl:H2.ldn ⟨H1.nx,0,none⟩ 5=some (.int .i64 op::t):=by rw [bk g2 (by rw [nQ];exact pk) (by omega)];simp [alU (Nat.le_of_eq gF)]
    have B5:=(fH.ku hM kg).trans (B4.ext X5)
    simp (maxSteps:=4000000)-implicitDefEqProofs+contextual [-X.ev,gF,s2,r42,hf,w1,s3,r10,w2,s4,rO,s5,l0,ho1,ho2,lf,lcs,aY,aH,aI]
    apply ja
    ·(simp-implicitDefEqProofs [-X.ev,-Value.func.injEq];rfl)
    ·(simp-implicitDefEqProofs [-X.ev];rfl)
    refine zD.mono ?_
    rintro x H6 ⟨rfl,v',cD,A6,abz,hr6,abA,SY⟩
    have A:=B5.trans A6
    have Sv:=A6.mod.n0
    have V6:=A6.mod.nx
    simp (maxSteps:=4000000)-implicitDefEqProofs+contextual [-X.ev,aY,aH,aI,Sv,V6]
    obtain ⟨q1,q2,q3,q4⟩:=SY
    exact ⟨v',{is:=⟨cD,A.mh,abz,by rw [aby];omega⟩,w:=q1.trans h.w,vars:=by rw [q2];exact h.vars,cap:=by rw [q2];exact h.cap,bR:=by rw [q3];exact h.bR,mt:=abA,inv:=zE,ov:=SV},A.mod,A.new,q1,q2,q3,q4⟩
end Go.Proofs.YtppcmpmnglaleaaGreatDoor.A
namespace Go.Proofs.YtppcmpmnglaleaaGreatDoor.A
open Go
theorem c9.NF {H:AH} {sz:Nat} {v:Value} {rows:List (List Value)} {r r':List Value} (h:c9 H sz v (rows++[r])) (hl:r'.length=sz):∃b,v= .slice (some ⟨b,0,none⟩) (rows.length+1) (rows.length+1)∧∃H',H.st ⟨b,rows.length*sz,none⟩ r'=some H'∧c9 H' sz v (rows++[r'])∧Mod (fun q=>q=b) H H'∧H'.nx=H.nx∧H'.n0=H.n0:=by
 rcases h.is with⟨_,e⟩|⟨b,e,h0,g⟩
 ·simp at e
 have GJ:∀q∈rows,q.length=sz:=fun q hq=>h.len q (by simp [hq])
 have hr:=h.len r (by simp)
 have iN:=bT GJ
 obtain ⟨H',st,M,nx,n0,g'⟩:=bw g h0 (k:=rows.length*sz) (vs:=r') (by rw [bT h.len];simp only [alW,List.length_singleton,Nat.succ_mul];omega)
 have e2:v= .slice (some ⟨b,0,none⟩) (rows.length+1) (rows.length+1):=by rw [e];simp
 refine ⟨b,e2,H',st,⟨.inr ⟨b,by rw [e2];simp,by rw [n0];exact h0,?_⟩,?_⟩,M,nx,n0⟩
 ·rw [g']
  have:=nT rows.flatten r r' [] (by omega)
  rw [iN]at this
  simp only [List.append_nil]at this
  simp only [List.flatten_append,List.flatten_cons,List.flatten_nil,List.append_nil]
  rw [this]
 ·intro q hq
  rcases List.mem_append.1 hq with hq|hq
  ·exact GJ q hq
  ·simp at hq;subst hq;exact hl
def jA (p:bH) (fuel:Int) (t:fy):eK:=⟨0,t.store,[],[],0,0,0,fuel,dK p.body 0,false⟩
theorem Bx {p:bH} {fuel:Int} {t:fy} (h:fS p fuel t=0):Inv p t.bR (jA p fuel t)∧bQ p=true∧0≤fuel∧fuel≤4096∧jM p t=true:=by
 unfold fS at h
 cases h1:bQ p with
 |false=>rw [if_pos h1]at h;omega
 |true=>
  rw [if_neg (by rw [h1];decide)]at h
  by_cases h2:fuel<0∨4096<fuel
  ·rw [if_pos h2]at h;omega
  rw [if_neg h2]at h
  cases h3:jM p t with
  |false=>rw [if_pos h3]at h;omega
  |true=>
   have hp:=h1
   have hs:=h3
   simp only [bQ,alQ,alZ]at hp
   simp only [jM,alQ,alZ,al3]at hs
   have eS:1≤p.w∧p.w≤8:=⟨(aO hp.1).1,(aO hp.1).2.1⟩
   have cb:=aV p.body
   refine ⟨⟨hp.1,hs.1,fun a ha=>?_,⟨by show 0≤_;omega,hs.2.1⟩,by omega,?_,by show 0≤fuel∧fuel≤4096;omega,by show(0:Int)+500*fuel≤2^30;omega,by show(0:Int)+fuel≤2^30;omega,by show 0≤(0:Int)∧0+500*fuel≤2^40;omega⟩,rfl,by omega,by omega,rfl⟩
   ·have:=hs.2.2 a ha
    rw [jf eS]at this
    simp at this
    exact this
   ·exact mU p.body 0 (by omega) (by omega) hp.2.2.2 (by omega)
structure Made (H:AH) (p:bH) (ps:List Int) (H':AH) (m:Nat) (c:eK):Prop where
 is:∃G v,qS G H' m p ps v c∧Ext H H'∧(∀b,Mf m v b→H.nx≤b)∧∀b x,G.get b=some x→H.nx≤b
abbrev mV (w fuel:Int) (vp vv vb vs vf:Value):MV:=⟨vf,w,vv,vb,fuel,vp,0,vs,.slice none 0 0,.slice none 0 0,0,0,0,false⟩
theorem tP:fV zS zS=true:=by simp [zS]
theorem NG {p:bH} {t:fy} {c d:List Value} {fuel:Int} {H:AH} (hw:H.n0≤H.nx) (hp:ph H c p) (ht:u9 H d t):
 Ca E O 77 [.agg c.toArray,.int .i64 fuel,.agg d.toArray] H (fun x H'=>if fS p fuel t=0 then∃m,x= .tuple #[.pointer (some ⟨m,0,none⟩),.int .i64 0]∧Made H p t.bR H' m (jA p fuel t)else x= .tuple #[.pointer none,.int .i64 (fS p fuel t)]∧Ext H H'):=by
 refine Ca.aR (F:=UY) rfl rfl rfl ?_
 have hc:=hp.len
 have hd:d.length=2:=by obtain ⟨vs,vp,e,_⟩:=ht.is;rw [e];rfl
 have X1:=Ext.alloc H (.cells c.length c)
 have q:(H.alloc (.cells c.length c)).ldn ⟨H.nx,0,none⟩ 3=some c:=ba hw 3 (by assumption)
 generalize cV:H.alloc (.cells c.length c)=H1 at X1 q
 have bc:=X1.wf hw
 have X2:=Ext.alloc H1 (.cells d.length d)
 have r:(H1.alloc (.cells d.length d)).ldn ⟨H1.nx,0,none⟩ 2=some d:=ba bc 2 (by assumption)
 generalize ju:H1.alloc (.cells d.length d)=H2 at X2 r
 have gV:=X2.wf bc
 replace q:=X2.ldn q
 have X:=X1.trans X2
 simp (maxSteps:=4000000)-implicitDefEqProofs+contextual [-X.ev,UY,cV,ju,q]
 apply ah
 ·(simp-implicitDefEqProofs [-X.ev];rfl)
 refine (nP gV (hp.ext X)).mono ?_
 rintro x H3 ⟨rfl,X3⟩
 replace q:=X3.ldn q
 replace r:=X3.ldn r
 have kU:=X.trans X3
 cases h1:bQ p with
 |false=>
  have hk:fS p fuel t=30:=by unfold fS;rw [if_pos h1]
  simp (maxSteps:=4000000)-implicitDefEqProofs+contextual [-X.ev,h1,hk,kU]
 |true=>
  by_cases h2:fuel<0
  ·have hk:fS p fuel t=1:=by unfold fS;rw [if_neg (by rw [h1];decide),if_pos (.inl h2)]
   simp (maxSteps:=4000000)-implicitDefEqProofs+contextual [-X.ev,h1,h2,hk,kU]
  by_cases h3:4096<fuel
  ·have hk:fS p fuel t=1:=by unfold fS;rw [if_neg (by rw [h1];decide),if_pos (.inr h3)]
   simp (maxSteps:=4000000)-implicitDefEqProofs+contextual [-X.ev,h1,h2,h3,hk,kU]
  simp (maxSteps:=4000000)-implicitDefEqProofs+contextual [-X.ev,h1,h2,h3,q,r]
  apply ah
  ·(simp-implicitDefEqProofs [-X.ev];rfl)
  refine (qG (X3.wf gV) (hp.ext kU) (ht.ext kU) h1).mono ?_
  rintro x H4 ⟨rfl,X4⟩
  replace q:=X4.ldn q
  replace r:=X4.ldn r
  have vB:=kU.trans X4
  have oN:=vB.wf hw
  cases h4:jM p t with
  |false=>
   have hk:fS p fuel t=50:=by unfold fS;rw [if_neg (by rw [h1];decide),if_neg (by omega),if_pos h4]
   simp (maxSteps:=4000000)-implicitDefEqProofs+contextual [-X.ev,h4,hk,vB]
  |true=>
   have hk:fS p fuel t=0:=by unfold fS;rw [if_neg (by rw [h1];decide),if_neg (by omega),if_neg (by rw [h4];decide)]
   obtain ⟨hinv,_,hf1,hf2,_⟩:=Bx hk
   have hp4:=hp.ext vB
   have ht4:=ht.ext vB
   obtain ⟨vv,vb,rb,rfl,hi,hv,AI,hr,hl,mL⟩:=hp4.is
   obtain ⟨vs,vp,rfl,ss,sp,l1,l2,_,_⟩:=ht4.is
   have q1:=aG q (j:=1) rfl
   have q2:=aG q (j:=2) rfl
   have r0:=aG r (j:=0) rfl
   have r1:=aG r (j:=1) rfl
   simp only [Nat.zero_add]at q1 q2 r0 r1
   have hpk:=hinv.used.2
   have vL:t.store.length≤48:=by
    have:=hinv.store
    simp only [bX,alQ,alZ]at this
    have h48:=(jx hinv.head).2.2
    have e:=this.1
    simp only [jA]at e
    omega
   have hVl:=(jx hinv.head).2.1
   simp (maxSteps:=4000000)-implicitDefEqProofs+contextual [-X.ev,h4,q,r1]
   apply ah
   ·(simp-implicitDefEqProofs [-X.ev];rfl)
   refine (je oN sp (by omega)).mono ?_
   rintro w8 H5 ⟨o5,X5,k5⟩
   obtain ⟨pa,pc,KN⟩:=o5.shape
   have oO:=X5.wf oN
   have rO:dW [.slice none 0 0,.int .i64 0,.slice none 0 0,.slice none 0 0,.int .i64 0,.slice none 0 0,.int .i64 0,.slice none 0 0,.slice none 0 0,.slice none 0 0,.int .i64 0,.int .i64 0,.int .i64 0,.bool false] [(1,3,.agg #[.int .i64 p.w,vv,vb]),(4,1,.int .i64 fuel),(5,1,w8)]=some (.agg (mV p.w fuel w8 vv vb (.slice none 0 0) (.slice none 0 0)).cells.toArray):=by
    rw [KN];rfl
   have gm:=bZ H5 (.cells 14 (mV p.w fuel w8 vv vb (.slice none 0 0) (.slice none 0 0)).cells)
   have X6:=Ext.alloc H5 (.cells 14 (mV p.w fuel w8 vv vb (.slice none 0 0) (.slice none 0 0)).cells)
   obtain ⟨H6,hH6⟩:∃H6,H5.alloc (.cells 14 (mV p.w fuel w8 vv vb (.slice none 0 0) (.slice none 0 0)).cells)=H6:=⟨_,rfl⟩
   rw [hH6]at gm X6
   obtain ⟨m,hm⟩:∃m,H5.nx=m:=⟨_,rfl⟩
   rw [hm]at gm
   have KY:=X5.nx
   have GK:=X5.n0
   have V6:=X6.nx
   have mlt:=AH.aL gm
   have X46:=X5.trans X6
   have abC:=X46.ld q1
   have Bi:=X6.wf oO
   have q5:=X5.ldn q
   have cc1:H4.nx≤m:=by omega
   have cc2:H6.n0=H4.n0:=X6.n0.trans GK
   have cc3:m≤H6.nx:=by omega
   obtain ⟨va0,vc0,abE⟩:=hv.len
   obtain ⟨ba0,bc0,SZ⟩:=hr.len
   have svv:dD vv vv=true:=by rw [abE];simp
   have svb:dD vb vb=true:=by rw [SZ];simp
   simp (maxSteps:=4000000)-implicitDefEqProofs+contextual [-X.ev,rO,hH6,q,q5,svv,svb,GK,cc1,cc2,cc3,aY,aH,aI,abC,hm]
   apply ah
   ·(simp-implicitDefEqProofs [-X.ev];rfl)
   refine (kV (f:=103) (sz:=3) (bytes:=32) rfl rfl Bi (hv.ext X46) (by simp;omega) (by simp;omega)).mono ?_
   rintro x H7 ⟨o7,X7,k7⟩
   have x7x:=X7.nx
   have m0:H.n0≤m:=by have:=vB.nx;omega
   obtain ⟨wa,wc,NC⟩:=o7.shape
   rw [List.length_map]at NC
   obtain ⟨H8,s8,M8,PA,zx,g8⟩:=bw (X7.get gm) (by rw [X7.n0,cc2,vB.n0];exact m0) (k:=2) (vs:=[x]) (by simp)
   have Nj:aF (mV p.w fuel w8 vv vb (.slice none 0 0) (.slice none 0 0)).cells 2 [x]=(mV p.w fuel w8 x vb (.slice none 0 0) (.slice none 0 0)).cells:=rfl
   rw [Nj]at g8
   obtain ⟨H9,s9,M9,R8,KS,g9⟩:=bw g8 (by rw [zx,X7.n0,cc2,vB.n0];exact m0) (k:=3) (vs:=[.slice none 0 0]) (by simp)
   have Nk:aF (mV p.w fuel w8 x vb (.slice none 0 0) (.slice none 0 0)).cells 3 [.slice none 0 0]=(mV p.w fuel w8 x (.slice none 0 0) (.slice none 0 0) (.slice none 0 0)).cells:=rfl
   rw [Nk]at g9
   have S3:Ext H4 H9:=((X46.trans X7).mod M8 (fun b hb=>by omega)).mod M9 (fun b hb=>by omega)
   have n9:H9.n0=H.n0:=S3.n0.trans vB.n0
   have S4:=S3.ld q2
   have aji:=S3.ld r0
   have hw9:=S3.wf oN
   have I3:=SZ
   rw [hl.length]at I3
   rw [I3]at S4
   rw [NC]at s8
   simp (maxSteps:=4000000)-implicitDefEqProofs+contextual [-X.ev,NC,s8,s9,S4]
   rw [←NC]at s8
   refine b9 (fun k fr H'=>Mod (fun b=>b=m) H9 H'∧∃(i:Nat) (z:Value) (rs:List (List Value)),H'.get m=some (.cells 14 (mV p.w fuel w8 x z (.slice none 0 0) (.slice none 0 0)).cells)∧i+k=p.body.length∧fr.get 8= .pointer (some ⟨m,0,none⟩)∧fr.get 5= .pointer (some ⟨H1.nx,0,none⟩)∧fr.get 43=vb∧fr.get 44= .int .i64 p.body.length∧fr.get 45= .int .i64 i∧c9 H' 5 z rs∧rs.length=i∧dL (part H' H9.nx (aN z)) rs (p.body.take i)∧(∀b,aN z b→H9.nx≤b)) ?_ p.body.length ⟨Mod.refl _ _,0,.slice none 0 0,[],by simpa [NC]using g9,by simp,by simp [hm],by simp,by simp [I3],by simp,by simp,c9.nil _ _,rfl,by simpa using dL.nil,fun b hb=>absurd hb (dh _ _ _)⟩
   rintro k fr wW ⟨GI,i,z,rs,g10,hi,f8,f5,f43,f44,f45,ow,xC,aT,iX⟩
   have NJ:=GI.wf hw9
   have ajj:=GI.nx
   have EK:Ext H4 wW:=S3.mod GI (fun b hb=>by omega)
   have ajk:av p.body≤400:=by
    simp only [bQ,alQ,alZ]at h1
    exact h1.2.1
   have afm:=dY p.body
   by_cases dm:i<p.body.length
   ·obtain ⟨y,hy⟩:∃y,p.body[i]?=some y:=⟨_,alN dm⟩
    have t1:=dX hy
    have t2:=bf p.body (i+1)
    have t3:=bf p.body i
    obtain ⟨jP,yn,iA,mN,mO⟩:=y
    obtain ⟨b,o,c',mP,mQ,mR,Sb,Sc,Sd,dy,bN,_,_,_,_,_,j1,j2,j3,j4,j5,e1,e2,e3,e4,e5,e6⟩:=gU.row (hr.ext EK) (gU.ext EK hl) hy
    have Ch:lU wW [.int .i64 jP,.int .i64 yn,mP,mQ,mR] (.mk jP yn iA mN mO):=.mk j1 j2 j3 j4 j5 e1 e2 e3 e4 e5 e6
    have EL:=f43
    rw [dy]at EL
    obtain ⟨Ha,sHa,Xa,ajm,ajn,u,PQ⟩:=dJ (H:=wW) NJ (z:=5) (c:=[.int .i64 0,.int .i64 0,.slice none 0 0,.slice none 0 0,.slice none 0 0]) (vs:=[.int .i64 jP,.int .i64 yn,mP,mQ,mR]) rfl
    have u0:Ha.ld ⟨wW.nx,0,none⟩=some (.int .i64 jP):=PQ 0 _ rfl
    have u1:Ha.ld ⟨wW.nx,1,none⟩=some (.int .i64 yn):=PQ 1 _ rfl
    have u2:Ha.ld ⟨wW.nx,2,none⟩=some mP:=PQ 2 _ rfl
    have u3:Ha.ld ⟨wW.nx,3,none⟩=some mQ:=PQ 3 _ rfl
    have u4:Ha.ld ⟨wW.nx,4,none⟩=some mR:=PQ 4 _ rfl
    clear PQ
    replace u:Ha.ldn ⟨wW.nx,0,none⟩ 5=some [.int .i64 jP,.int .i64 yn,mP,mQ,mR]:=u
    have S5:=Xa.wf NJ
    have ga:=Xa.get g10
    have PR:Ha.n0=H.n0:=Xa.n0.trans (GI.n0.trans n9)
    have ld3:=aE ga (by rw [PR];exact m0) (k:=3) (v:=z) rfl
    obtain ⟨za,zc,hz⟩:=ow.shape
    rw [xC]at hz
    have hbz:=vz (sz:=5) (z:=zS) (H:=Ha) (v:=.agg #[.int .i64 0,.int .i64 0,.slice none 0 0,.slice none 0 0,.slice none 0 0]) rfl rfl rfl
    simp only [fh]at hbz
    have Xb:=Ext.alloc Ha (.cells 5 zS)
    have gz:=bZ Ha (.cells 5 zS)
    obtain ⟨Hb,hHb⟩:∃Hb,Ha.alloc (.cells 5 zS)=Hb:=⟨_,rfl⟩
    rw [hHb]at hbz Xb gz
    have hwb:=Xb.wf S5
    have oz:c9 Hb 5 (.slice (some ⟨Ha.nx,0,none⟩) 1 1) [zS]:=⟨.inr ⟨Ha.nx,rfl,by rw [Xb.n0];exact S5,by simpa using gz⟩,by simp⟩
    have xax:=Xa.nx
    have xbx:=Xb.nx
    rw [hz]at ld3
    simp (maxSteps:=4000000)-implicitDefEqProofs+contextual [-X.ev,EL,f44,f45,f8,dm,bN,sHa,u,ld3,hbz]
    apply ah
    ·(simp-implicitDefEqProofs [-X.ev];rfl)
    refine (Bp _ _ _ Hb (al2 _) hwb (lU.ext (Xa.trans Xb) Ch) (by omega)).mono ?_
    rintro xx Hc ⟨cs,rfl,V9,Xc⟩
    have hwc:=Xc.wf hwb
    have xcx:=Xc.nx
    obtain ⟨s',Hd,rF,od,Md,kd,S6⟩:=qC (bytes:=88) hwc ((ow.ext (Xa.trans Xb)).ext Xc) (oz.ext Xc).rows (by simp;omega) (by simp;omega)
    have S7:=V9.len
    obtain ⟨bd,hsd,He,sd,oe,Me,nxe,n0e⟩:=od.NF S7
    have Nh:∀b,aN z b→b<wW.nx:=fun b hb=>ow.lt hb
    have ajt:m<H9.nx:=AH.aL g9
    have gd:=Md.get (fun q=>by have:=iX m q;omega) (Xc.get (Xb.get ga))
    have GF:aN s' bd:=by rw [hsd];exact (aW _ _ _ _ _).2 rfl
    have aju:=S6 (by simp) bd GF
    have ge:=Me.get (fun q=>by omega) gd
    obtain ⟨Hf,sf,Wa,nxf,n0f,gf⟩:=bw ge (by rw [n0e,Md.n0,Xc.n0,Xb.n0,PR];exact m0) (k:=3) (vs:=[s']) (by simp)
    have abJ:aF (mV p.w fuel w8 x z (.slice none 0 0) (.slice none 0 0)).cells 3 [s']=(mV p.w fuel w8 x s' (.slice none 0 0) (.slice none 0 0)).cells:=rfl
    rw [abJ]at gf
    have NK:=bm.1 ld3
    have S8:=Xc.ldn (Xb.ldn NK)
    have S9:=Xb.ldn NK
    have gzc:=Xc.get gz
    have mdx:=Md.nx
    rw [xC]at sd hsd
    have PL:Nat.beq bd m=false:=Bool.eq_false_iff.2 fun h=>by have:=Nat.eq_of_beq_eq_true h;omega
    have n0d:=Md.n0
    have n0c:=Xc.n0
    have n0b:=Xb.n0
    rw [hz]at rF
    rw [hsd]at rF sf
    have abK:(i:Int)<(i:Int)+1:=by omega
    simp (maxSteps:=4000000)-implicitDefEqProofs+contextual [-X.ev,f45,rF,sd,sf,S7,abK,aY,aH,aI,zi,cw,NK,S8,S9,gz,gzc,ly,tP,PL,n0d,n0c,n0b,n0e,n0f,xbx,xcx,mdx,nxe,nxf]
    rw [aj (n:=(i:Int)+1) ⟨by omega,by omega⟩]
    have MM:=(((GI.trans (Mod.bE ((Xa.trans Xb).trans Xc))).then Md (fun b hb q=>by have:=iX b q;omega)).then Me (fun b hb q=>by omega)).then Wa (fun b _ q=>q)
    have nn:Hf.n0=Hc.n0:=n0f.trans (n0e.trans n0d)
    refine ⟨k- 1,by omega,MM,i+1,s',gf,by omega,f8,f5,f43,f44,by simp,_,oe.mod Wa (fun b hb q=>by have:=S6 (by simp) b hb;omega),by simp [xC],?_,fun b hb=>by have:=S6 (by simp) b hb;omega⟩
    rw [kX hy]
    refine dL.snoc (aT.sub (dH (nn.trans (n0c.trans (n0b.trans Xa.n0))) (by omega) fun b y hb hn hz=>?_)) (V9.sub (dH nn (by omega) fun b y hb hn hz=>?_))
    ·have j6:=AH.aL hb
     exact ⟨Wa.get (fun q=>by omega) (Me.get (fun q=>by omega) (Md.get hz (Xc.get (Xb.get (Xa.get hb))))),hn,fun q=>by have:=S6 (by simp) b q;omega⟩
    ·have j6:=AH.aL hb
     exact ⟨Wa.get (fun q=>by omega) (Me.get (fun q=>by omega) (Md.get (fun q=>by have:=Nh b q;omega) hb)),by omega,fun q=>by have:=S6 (by simp) b q;omega⟩
   rw [alU (by omega)]at aT
   have Ta:=EK.ld r0
   have EL:=f43
   rw [I3]at EL
   simp (maxSteps:=4000000)-implicitDefEqProofs+contextual [-X.ev,EL,f44,f45,f8,f5,dm,Ta]
   apply ah
   ·(simp-implicitDefEqProofs [-X.ev];rfl)
   refine (je NJ (ss.ext EK) (by omega)).mono ?_
   rintro PT VM ⟨GH,PU,NM⟩
   have PR:wW.n0=H.n0:=GI.n0.trans n9
   have ajy:=PU.nx
   obtain ⟨Bn,VU,PD,IL,n12,g12⟩:=bw (PU.get g10) (by rw [PU.n0,PR];exact m0) (k:=7) (vs:=[PT]) (by simp)
   have Tb:aF (mV p.w fuel w8 x z (.slice none 0 0) (.slice none 0 0)).cells 7 [PT]=(mV p.w fuel w8 x z PT (.slice none 0 0)).cells:=rfl
   rw [Tb]at g12
   have ajz:m<H9.nx:=AH.aL g9
   have NN:Mod (fun b=>b=m) wW Bn:=(Mod.bE PU).trans PD
   have MM7:Mod (fun b=>b=m) H7 Bn:=((M8.trans M9).trans GI).trans NN
   have MM5:Mod (fun b=>b=m) H5 Bn:=(Mod.bE (X6.trans X7)).trans MM7
   have Ee:Bn.n0=H.n0:=n12.trans (PU.n0.trans PR)
   have abL:Bn.n0≤Bn.nx:=by rw [Ee,IL];omega
   obtain ⟨v12,xZ⟩:∃v12,mV p.w fuel w8 x z PT (.slice none 0 0)=v12:=⟨_,rfl⟩
   have Tc:∀b,Mf m v12 b↔b=m∨aN PT b:=by
    intro b
    rw [←xZ]
    unfold Mf
    simp only [dh,false_or,or_false]
   obtain ⟨G,hG⟩:∃G,part Bn H.nx (Mf m v12)=G:=⟨_,rfl⟩
   have x04:=vB.nx
   have o12:=(GH.mod PD (fun b hb q=>by have:=NM b hb;omega))
   have vm:¬ aN PT m:=fun q=>by have:=NM m q;omega
   have h12:MH G Bn m v12 [] t.store [] []:=by
    subst hG xZ
    exact {get:=g12,n0:=by rw [Ee];exact m0,sub:=zy _ _ _,wf:=abL,fr:=(c9.nil _ 2).Nl,st:=o12,ou:=c9.nil _ 2,tr:=c9.nil _ 3,d1:=⟨dh _ _ _,vm,dh _ _ _,dh _ _ _⟩,d2:=fun b hb=>absurd hb (dh _ _ _),d3:=fun b hb=>⟨dh _ _ _,dh _ _ _⟩,d4:=fun b hb=>absurd hb (dh _ _ _),out:=fun b hb=>sn hb}
   have Td:c9 G 5 z rs:=by
    rw [←hG]
    exact (ow.mod NN (fun b hb q=>by have:=iX b hb;omega)).part fun b hb=>⟨by have:=iX b hb;omega,fun q=>by
     rw [Tc]at q
     rcases q with q|q
     ·have:=iX b hb;omega
     ·have:=NM b q;have:=ow.lt hb;omega⟩
   have abM:dL G rs p.body:=by
    rw [←hG]
    refine aT.sub (dH (Ee.trans PR.symm) (by omega) fun b y hb hn hz=>?_)
    have j6:=AH.aL hb
    refine ⟨NN.get (fun q=>by omega) hb,by omega,fun q=>?_⟩
    rw [Tc]at q
    rcases q with q|q
    ·omega
    ·have:=NM b q;omega
   have Te:c9 G 3 x (p.vars.map Vr.row):=by
    rw [←hG]
    refine (o7.mod MM7 (fun b hb q=>by have:=k7 b hb;omega)).part fun b hb=>⟨by have:=k7 b hb;omega,fun q=>?_⟩
    rw [Tc]at q
    rcases q with q|q
    ·have:=k7 b hb;omega
    ·have:=NM b q;have:=o7.lt hb;have:=PA;have:=R8;omega
   have abN:c9 G 1 w8 (bz t.bR):=by
    rw [←hG]
    refine (o5.mod MM5 (fun b hb q=>by have:=o5.lt hb;omega)).part fun b hb=>⟨by have:=k5 b hb;omega,fun q=>?_⟩
    rw [Tc]at q
    rcases q with q|q
    ·have:=o5.lt hb;omega
    ·have:=NM b q;have:=o5.lt hb;omega
   have l3:=aE g12 (by rw [Ee];exact m0) (k:=3) (v:=z) rfl
   obtain ⟨za,zc,hz⟩:=ow.shape
   obtain ⟨sa,sc,Qi⟩:=GH.shape
   have abO:p.body.length≤2^30:=by omega
   have key:=mT (k:=0) h12 Td.rows abM Td.fit (fs:=[]) .nil (by simp) abO
   rw [hz]at l3 key
   rw [Qi]at VU
   simp (maxSteps:=4000000)-implicitDefEqProofs+contextual [-X.ev,f8,Qi,VU,l3,aY,aH,aI]
   apply ah
   ·(simp-implicitDefEqProofs [-X.ev];rfl)
   refine (key).mono ?_
   rintro xx H13 ⟨lJ,cD,oP,Tf,abP,Tg,Th⟩
   have abQ:=Tf.mod.n0
   have abR:=Tf.mod.nx
   simp (maxSteps:=4000000)-implicitDefEqProofs+contextual [-X.ev,f8,aY,aH,aI,abQ,abR,hk]
   have XX:Ext H Bn:=(((vB.trans EK)).trans PU).mod PD (fun b hb=>by omega)
   have zF:∀b,Mf m v12 b→H.nx≤b:=fun b hb=>by
    rw [Tc]at hb
    rcases hb with q|q
    ·omega
    ·have:=NM b q;omega
   have eV:∀b x,G.get b=some x→H.nx≤b:=fun b x hb=>by rw [←hG]at hb;exact (gW.1 hb).2.1
   refine ⟨G,_,{is:=⟨cD,Tf.mh,fun _=>⟨oP,abP,by rw [Tg];simp [kv,jA]⟩,by simp at Th;show _+2*fuel≤2^20;omega⟩,w:=by rw [←xZ],vars:=by rw [←xZ];exact Te.rows,cap:=by rw [←xZ];exact Te.cap,bR:=by rw [←xZ];exact abN.ints,mt:=by rw [←xZ];exact ⟨rfl,rfl,rfl,rfl,rfl,rfl⟩,inv:=hinv,ov:=fun q=>by cases q},XX.mod Tf.mod zF,fun b hb=>?_,eV⟩
   rcases Tf.new b hb with q|q
   ·exact zF b q
   ·have:=XX.nx;omega
open Go
structure eJ where
 en:Int
 store:List Int
 outs:List (Int×Int)
 trace:List Ev
 cost:Int
 used:Int
 wh:Int
def eK.run (c:eK):eJ:=⟨c.en,c.store,c.outs,c.trace,c.cost,c.used,c.wh⟩
def zG:eJ:=⟨0,[],[],[],0,0,0⟩
def Small (r:eJ):Prop:=r.store.length≤2^40∧r.outs.length≤2^40∧r.trace.length≤2^40
structure jR (H:AH) (n:Nat) (cs:List Value) (r:eJ):Prop where
 is:∃vs vo vt,cs=[.int .i64 r.en,vs,vo,vt,.int .i64 r.cost,.int .i64 r.used,.int .i64 r.wh]∧c9 H 1 vs (bz r.store)∧c9 H 2 vo (cz r.outs)∧c9 H 3 vt (cK r.trace)∧(∀b,aN vs b∨aN vo b∨aN vt b→n≤b)
theorem jR.ext {H H':AH} {n:Nat} {cs:List Value} {r:eJ} (X:Ext H H') (h:jR H n cs r):jR H' n cs r:=by
 obtain ⟨vs,vo,vt,e,a,b,c,d⟩:=h.is
 exact ⟨vs,vo,vt,e,a.ext X,b.ext X,c.ext X,d⟩
theorem jR.zero (H:AH) (n:Nat):jR H n [.int .i64 0,.slice none 0 0,.slice none 0 0,.slice none 0 0,.int .i64 0,.int .i64 0,.int .i64 0] zG:=
 ⟨_,_,_,rfl,c9.nil _ _,c9.nil _ _,c9.nil _ _,fun b hb=>by rcases hb with q|q|q<;>exact absurd q (dh _ _ _)⟩
theorem By {H:AH} {r:eJ} {vs vo vt:Value} (hw:H.n0≤H.nx) (hs:Rows H 1 vs (bz r.store)) (ho:Rows H 2 vo (cz r.outs)) (ht:Rows H 3 vt (cK r.trace)) (hb:Small r):
 Ca E O 115 [.agg #[.int .i64 r.en,vs,vo,vt,.int .i64 r.cost,.int .i64 r.used,.int .i64 r.wh]] H (fun x H'=>∃cs,x= .agg cs.toArray∧jR H' H.nx cs r∧Ext H H'):=by
 refine Ca.aR (F:=HI) rfl rfl rfl ?_
 obtain ⟨b1,b2,b3⟩:=hb
 have gB:=bZ H (.cells 7 [.int .i64 r.en,vs,vo,vt,.int .i64 r.cost,.int .i64 r.used,.int .i64 r.wh])
 have X1:=Ext.alloc H (.cells 7 [.int .i64 r.en,vs,vo,vt,.int .i64 r.cost,.int .i64 r.used,.int .i64 r.wh])
 have d0:(H.alloc (.cells 7 [.int .i64 r.en,vs,vo,vt,.int .i64 r.cost,.int .i64 r.used,.int .i64 r.wh])).ld ⟨H.nx,0,none⟩=some (.int .i64 r.en):=ai hw rfl
 have d1:(H.alloc (.cells 7 [.int .i64 r.en,vs,vo,vt,.int .i64 r.cost,.int .i64 r.used,.int .i64 r.wh])).ld ⟨H.nx,1,none⟩=some vs:=ai hw rfl
 have d2:(H.alloc (.cells 7 [.int .i64 r.en,vs,vo,vt,.int .i64 r.cost,.int .i64 r.used,.int .i64 r.wh])).ld ⟨H.nx,2,none⟩=some vo:=ai hw rfl
 have d3:(H.alloc (.cells 7 [.int .i64 r.en,vs,vo,vt,.int .i64 r.cost,.int .i64 r.used,.int .i64 r.wh])).ld ⟨H.nx,3,none⟩=some vt:=ai hw rfl
 have d4:(H.alloc (.cells 7 [.int .i64 r.en,vs,vo,vt,.int .i64 r.cost,.int .i64 r.used,.int .i64 r.wh])).ld ⟨H.nx,4,none⟩=some (.int .i64 r.cost):=ai hw rfl
 have d5:(H.alloc (.cells 7 [.int .i64 r.en,vs,vo,vt,.int .i64 r.cost,.int .i64 r.used,.int .i64 r.wh])).ld ⟨H.nx,5,none⟩=some (.int .i64 r.used):=ai hw rfl
 have d6:(H.alloc (.cells 7 [.int .i64 r.en,vs,vo,vt,.int .i64 r.cost,.int .i64 r.used,.int .i64 r.wh])).ld ⟨H.nx,6,none⟩=some (.int .i64 r.wh):=ai hw rfl
 have d:(H.alloc (.cells 7 [.int .i64 r.en,vs,vo,vt,.int .i64 r.cost,.int .i64 r.used,.int .i64 r.wh])).ldn ⟨H.nx,0,none⟩ 7=some [.int .i64 r.en,vs,vo,vt,.int .i64 r.cost,.int .i64 r.used,.int .i64 r.wh]:=ba hw 7 rfl
 generalize cV:H.alloc (.cells 7 [.int .i64 r.en,vs,vo,vt,.int .i64 r.cost,.int .i64 r.used,.int .i64 r.wh])=H1 at X1 d0 d1 d2 d3 d4 d5 d6 d
 have bc:=X1.wf hw
 rw [cV]at gB
 have X2:=Ext.alloc H1 (.cells 7 [.int .i64 0,.slice none 0 0,.slice none 0 0,.slice none 0 0,.int .i64 0,.int .i64 0,.int .i64 0])
 have gR:=bZ H1 (.cells 7 [.int .i64 0,.slice none 0 0,.slice none 0 0,.slice none 0 0,.int .i64 0,.int .i64 0,.int .i64 0])
 obtain ⟨H2,ju⟩:∃H2,H1.alloc (.cells 7 [.int .i64 0,.slice none 0 0,.slice none 0 0,.slice none 0 0,.int .i64 0,.int .i64 0,.int .i64 0])=H2:=⟨_,rfl⟩
 rw [ju]at X2 gR
 have lq:=X2.wf bc
 have kg:=X1.trans X2
 have ltB:=AH.aL gB
 have ltR:=AH.aL gR
 have x1:=X1.nx
 have x2:=X2.nx
 replace d1:=X2.ld d1
 replace d2:=X2.ld d2
 replace d3:=X2.ld d3
 have l1n:=bm.1 d1
 have l2n:=bm.1 d2
 have l3n:=bm.1 d3
 obtain ⟨a1,c1,e1⟩:=hs.len
 obtain ⟨a2,c2,e2⟩:=ho.len
 obtain ⟨a3,c3,e3⟩:=ht.len
 have s1:dD vs vs=true:=by rw [e1];simp
 have s2:dD vo vo=true:=by rw [e2];simp
 have s3:dD vt vt=true:=by rw [e3];simp
 simp (maxSteps:=4000000)-implicitDefEqProofs+contextual [-X.ev,HI,cV,ju,d1,d2,d3]
 apply ah
 ·(simp-implicitDefEqProofs [-X.ev];rfl)
 refine (je (l:=r.store) lq (hs.ext kg) b1).mono ?_
 rintro xs H3 ⟨o3,X3,k3⟩
 have nz:=X3.wf lq
 simp (maxSteps:=4000000)-implicitDefEqProofs+contextual [-X.ev]
 apply ah
 ·(simp-implicitDefEqProofs [-X.ev];rfl)
 refine (kV (f:=147) (sz:=2) (bytes:=16) rfl rfl nz (ho.ext (kg.trans X3)) (by simp [cz];omega) (by simp [cz];omega)).mono ?_
 rintro xo H4 ⟨o4,X4,k4⟩
 have oN:=X4.wf nz
 simp (maxSteps:=4000000)-implicitDefEqProofs+contextual [-X.ev]
 apply ah
 ·(simp-implicitDefEqProofs [-X.ev];rfl)
 refine (kV (f:=148) (sz:=3) (bytes:=24) rfl rfl oN (ht.ext ((kg.trans X3).trans X4)) (by simp [cK];omega) (by simp [cK];omega)).mono ?_
 rintro xt H5 ⟨o5,X5,k5⟩
 have x3:=X3.nx
 have x4:=X4.nx
 have x5:=X5.nx
 obtain ⟨f1,g1,h1⟩:=o3.shape
 obtain ⟨f2,g2,h2⟩:=o4.shape
 obtain ⟨f3,g3,h3⟩:=o5.shape
 have Wb:=X3.trans (X4.trans X5)
 have PW:H5.n0=H.n0:=Wb.n0.trans kg.n0
 obtain ⟨H6,t6,M6,nx6,IK,VY⟩:=bw (Wb.get (X2.get gB)) (by rw [PW];exact hw) (k:=1) (vs:=[xs]) (by simp)
 rw [show aF [Value.int .i64 r.en,vs,vo,vt,.int .i64 r.cost,.int .i64 r.used,.int .i64 r.wh] 1 [xs]=[.int .i64 r.en,xs,vo,vt,.int .i64 r.cost,.int .i64 r.used,.int .i64 r.wh] from rfl]at VY
 obtain ⟨H7,t7,M7,VT,Bm,Se⟩:=bw VY (by rw [IK,PW];exact hw) (k:=2) (vs:=[xo]) (by simp)
 rw [show aF [Value.int .i64 r.en,xs,vo,vt,.int .i64 r.cost,.int .i64 r.used,.int .i64 r.wh] 2 [xo]=[.int .i64 r.en,xs,xo,vt,.int .i64 r.cost,.int .i64 r.used,.int .i64 r.wh] from rfl]at Se
 obtain ⟨H8,t8,M8,PA,zx,Sf⟩:=bw Se (by rw [Bm,IK,PW];exact hw) (k:=3) (vs:=[xt]) (by simp)
 rw [show aF [Value.int .i64 r.en,xs,xo,vt,.int .i64 r.cost,.int .i64 r.used,.int .i64 r.wh] 3 [xt]=[.int .i64 r.en,xs,xo,xt,.int .i64 r.cost,.int .i64 r.used,.int .i64 r.wh] from rfl]at Sf
 have l8:H8.ldn ⟨H.nx,0,none⟩ 7=some [.int .i64 r.en,xs,xo,xt,.int .i64 r.cost,.int .i64 r.used,.int .i64 r.wh]:=by rw [bk Sf (by rw [zx,Bm,IK,PW];exact hw) (by simp)];rfl
 have gR8:=M8.get (fun q=>by omega) (M7.get (fun q=>by omega) (M6.get (fun q=>by omega) (Wb.get gR)))
 obtain ⟨H9,t9,M9,R8,KS,Sg⟩:=bw gR8 (by rw [zx,Bm,IK,PW];omega) (k:=0) (vs:=[.int .i64 r.en,xs,xo,xt,.int .i64 r.cost,.int .i64 r.used,.int .i64 r.wh]) (by simp)
 rw [show aF [Value.int .i64 0,.slice none 0 0,.slice none 0 0,.slice none 0 0,.int .i64 0,.int .i64 0,.int .i64 0] 0 [.int .i64 r.en,xs,xo,xt,.int .i64 r.cost,.int .i64 r.used,.int .i64 r.wh]=[.int .i64 r.en,xs,xo,xt,.int .i64 r.cost,.int .i64 r.used,.int .i64 r.wh] from rfl]at Sg
 have l9:H9.ldn ⟨H1.nx,0,none⟩ 7=some [.int .i64 r.en,xs,xo,xt,.int .i64 r.cost,.int .i64 r.used,.int .i64 r.wh]:=by rw [bk Sg (by rw [KS,zx,Bm,IK,PW];omega) (by simp)];rfl
 have abS:=X3.ldn l1n
 have Ti:=X3.ldn l2n
 have Tj:=X3.ldn l3n
 have abT:=X4.ldn Ti
 have Tk:=X4.ldn Tj
 have abU:=X5.ldn Tk
 have i1:cv xs=false:=by rw [h1];rfl
 have i2:cv xo=false:=by rw [h2];rfl
 have i3:cv xt=false:=by rw [h3];rfl
 have v1:aP xs=[xs]:=by rw [h1];rfl
 have v2:aP xo=[xo]:=by rw [h2];rfl
 have v3:aP xt=[xt]:=by rw [h3];rfl
 simp (maxSteps:=4000000)-implicitDefEqProofs+contextual [-X.ev,i1,i2,i3,v1,v2,v3,t6,t7,t8,l8,t9,l9,s1,s2,s3,l1n,l2n,l3n,abS,Ti,Tj,abT,Tk,abU,X3.n0,X4.n0,X5.n0,x3,x4,x5,IK,Bm,zx,nx6,VT,PA,aY,aH,aI]
 have hM:Mod (fun b=>b=H.nx∨b=H1.nx) H5 H9:=(((M6.mono fun b _ q=>.inl q).trans (M7.mono fun b _ q=>.inl q)).trans (M8.mono fun b _ q=>.inl q)).trans (M9.mono fun b _ q=>.inr q)
 refine ⟨⟨xs,xo,xt,rfl,(o3.ext (X4.trans X5)).mod hM (fun b hb q=>by have:=k3 b hb;omega),(o4.ext X5).mod hM (fun b hb q=>by have:=k4 b hb;omega),o5.mod hM (fun b hb q=>by have:=k5 b hb;omega),fun b hb=>?_⟩,(kg.trans Wb).mod hM (fun b hb=>by omega)⟩
 rcases hb with q|q|q
 ·have:=k3 b q;omega
 ·have:=k4 b q;omega
 ·have:=k5 b q;omega
end Go.Proofs.YtppcmpmnglaleaaGreatDoor.A
namespace Go.Proofs.YtppcmpmnglaleaaGreatDoor.A
open Go
def iterM (p:bH) (ps:List Int):Nat→eK→eK
 |0,c=>c
 |n+1,c=>iterM p ps n (du p ps c)
def vU (p:bH) (ps:List Int) (c:eK):eK:=iterM p ps (c.fuel.toNat+1) c
theorem qT {p:bH} {ps:List Int} {c:eK} (h:cZ c=true):du p ps c=c:=by
 unfold cZ at h
 unfold du
 by_cases ho:c.over=true
 ·rw [if_pos ho]
 ·rw [if_neg ho]
  simp only [Bool.or_eq_true,List.isEmpty_iff]at h
  rw [h.resolve_left ho]
theorem mb {p:bH} {ps:List Int} {c:eK} (h:cZ c=true):∀n,iterM p ps n c=c
 |0=>rfl
 |n+1=>by rw [iterM,qT h];exact mb h n
theorem Bz {p:bH} {ps:List Int} {c:eK} (h:cZ c=false) (h2:(du p ps c).over=false):c.fuel≠0∧(du p ps c).fuel=c.fuel- 1:=by
 unfold cZ at h
 simp only [Bool.or_eq_false_iff]at h
 unfold du at h2⊢
 rw [if_neg (by rw [h.1];decide)]at h2⊢
 cases ht:c.todo with
 |nil=>rw [ht]at h;simp at h
 |cons it next=>
  obtain ⟨k,s⟩:=it
  rw [ht]at h2
  by_cases hf:c.fuel=0
  ·simp only [if_pos hf]at h2
   cases h2
  ·refine ⟨hf,?_⟩
   simp only [if_neg hf]
   rw [vT];rfl
theorem EM {p:bH} {ps:List Int} {c:eK} (h:(!cZ c&& !(du p ps c).over)=false):vU p ps c=du p ps c:=by
 unfold vU
 cases he:cZ c with
 |true=>rw [mb he,qT he]
 |false=>
  rw [he]at h
  simp at h
  rw [iterM]
  exact mb (by simp [cZ,h]) _
theorem NO {p:bH} {ps:List Int} {c:eK} (hf:0≤c.fuel) (h:(!cZ c&& !(du p ps c).over)=true):vU p ps (du p ps c)=vU p ps c∧(du p ps c).fuel=c.fuel- 1∧0<c.fuel:=by
 simp only [alQ,Bool.not_eq_true']at h
 obtain ⟨h1,h2⟩:=Bz h.1 h.2
 refine ⟨?_,h2,by omega⟩
 unfold vU
 rw [h2]
 obtain ⟨n,hn⟩:∃n:Nat,c.fuel=n+1:=⟨c.fuel.toNat- 1,by omega⟩
 rw [hn]
 simp only [Int.add_sub_cancel,Int.toNat_natCast]
 rw [show((n:Int)+1).toNat=n+1 by omega]
 conv=>rhs;rw [iterM]
theorem BA {p:bH} {ps:List Int} {c:eK} (h:Inv p ps c):Small c.run:=by
 have h1:=h.tr
 have h2:=h.ou
 have h3:=h.fuel
 have hs:=h.store
 simp only [bX,alQ,alZ]at hs
 have h48:=(jx h.head).2.2
 refine ⟨?_,?_,?_⟩
 ·show c.store.length≤_;omega
 ·show c.outs.length≤_;omega
 ·show c.trace.length≤_;omega
theorem I4 {G H:AH} {m:Nat} {p:bH} {ps:List Int} {v:MV} {c:eK} (h:qS G H m p ps v c):
 Ca E O 79 [.pointer (some ⟨m,0,none⟩)] H (fun x H'=>∃cs,x= .tuple #[.agg cs.toArray,.bool (cZ c)]∧jR H' H.nx cs c.run∧Ext H H'):=by
 refine Ca.aR (F:=Q5) rfl rfl rfl ?_
 obtain ⟨rows,hM,xS,xR⟩:=h.is
 obtain ⟨m1,m2,m3,m4,m5,m6⟩:=h.mt
 have hw:=hM.wf
 have X1:=Ext.alloc H (.cells 7 [.int .i64 0,.slice none 0 0,.slice none 0 0,.slice none 0 0,.int .i64 0,.int .i64 0,.int .i64 0])
 have gR:=bZ H (.cells 7 [.int .i64 0,.slice none 0 0,.slice none 0 0,.slice none 0 0,.int .i64 0,.int .i64 0,.int .i64 0])
 obtain ⟨H1,cV⟩:∃H1,H.alloc (.cells 7 [.int .i64 0,.slice none 0 0,.slice none 0 0,.slice none 0 0,.int .i64 0,.int .i64 0,.int .i64 0])=H1:=⟨_,rfl⟩
 rw [cV]at X1 gR
 have M1:=hM.ext X1
 have x1:=X1.nx
 have Bw:=aE M1.get M1.n0 (k:=13) (v:=.bool v.ended) rfl
 have r0:=aE M1.get M1.n0 (k:=0) (v:=v.vf) rfl
 have l6:H1.ldn ⟨m,6,none⟩ 7=some [.int .i64 c.run.en,v.vs,v.vo,v.vt,.int .i64 c.run.cost,.int .i64 c.run.used,.int .i64 c.run.wh]:=by
  rw [bk M1.get M1.n0 (by simp)]
  show some [Value.int .i64 v.en,v.vs,v.vo,v.vt,.int .i64 v.cost,.int .i64 v.used,.int .i64 v.wh]=_
  rw [m1,m2,m3,m4];rfl
 have ltm:=hM.lt (.inl rfl)
 obtain ⟨fa,fc,hvf⟩:=hM.fr.shape
 have key:=By (r:=c.run) M1.wf M1.st.rows M1.ou.rows M1.tr.rows (BA h.inv)
 obtain ⟨a1,c1,e1⟩:=hM.st.shape
 obtain ⟨a2,c2,e2⟩:=hM.ou.shape
 obtain ⟨a3,c3,e3⟩:=hM.tr.shape
 have s1:dD v.vs v.vs=true:=by rw [e1];simp
 have s2:dD v.vo v.vo=true:=by rw [e2];simp
 have s3:dD v.vt v.vt=true:=by rw [e3];simp
 have PL:Nat.beq m H.nx=false:=Bool.eq_false_iff.2 fun h=>by have:=Nat.eq_of_beq_eq_true h;omega
 have BB:cZ c=(c.over||decide (rows.length=0)):=by
  unfold cZ
  cases ho:c.over with
  |true=>rfl
  |false=>
   obtain ⟨fs,aT,I1⟩:=xS ho
   rw [Bool.false_or,Bool.false_or,Bool.eq_iff_iff,List.isEmpty_iff,alZ,I1]
   constructor
   ·intro q
    rcases List.eq_nil_or_concat fs with rfl|⟨dB,f,Tl⟩
    ·rw [vQ aT];rfl
    ·rw [List.concat_eq_append]at Tl
     subst Tl
     obtain ⟨_,_,rfl,_,_,_,_,_,_,_,fw,_⟩:=nU aT
     rw [gZ]at q
     simp at q
     obtain ⟨l,k⟩:=f
     cases l with
     |nil=>exact absurd rfl fw
     |cons s l=>rw [jy]at q;simp at q
   ·intro q
    have:rows=[]:=List.eq_nil_of_length_eq_zero q
    subst this
    cases aT
    rfl
 rw [m6]at Bw
 rw [hvf]at r0
 have qU:((rows.length:Int)=0)↔rows=[]:=by rw [←List.length_eq_zero_iff];omega
 cases ho:c.over with
 |true=>
  rw [ho]at Bw BB
  simp (maxSteps:=4000000)-implicitDefEqProofs+contextual [-X.ev,Q5,cV,l6,Bw]
  apply ah
  ·(simp-implicitDefEqProofs [-X.ev];rfl)
  refine (key).mono ?_
  rintro xx H2 ⟨cs,rfl,hc,X2⟩
  have x2:=X2.nx
  have gF:cs.length=7:=by obtain ⟨_,_,_,e,_⟩:=hc.is;rw [e];rfl
  obtain ⟨H3,t3,M3,pI,kS,g3⟩:=bw (X2.get gR) (by rw [X2.n0,X1.n0];exact hw) (k:=0) (vs:=cs) (by simp [gF])
  have fM:=fk [Value.int .i64 0,.slice none 0 0,.slice none 0 0,.slice none 0 0,.int .i64 0,.int .i64 0,.int .i64 0] cs (by rw [gF];rfl)
  rw [fM]at g3
  have l3:H3.ldn ⟨H.nx,0,none⟩ 7=some cs:=by rw [bk g3 (by rw [kS,X2.n0,X1.n0];exact hw) (by omega)];simp [alU (Nat.le_of_eq gF)]
  have l62:=X2.ldn l6
  have EN:=bm.1 Bw
  have EO:=X2.ldn EN
  have SK:=X2.n0
  simp (maxSteps:=4000000)-implicitDefEqProofs+contextual [-X.ev,gF,t3,l3,BB,l6,l62,EN,EO,s1,s2,s3,x2,SK,pI,kS,aY,aH,aI,zi,cw,PL]
  refine ⟨?_,X1.trans X2|>.mod M3 (fun b hb=>by omega)⟩
  obtain ⟨us,uo,ut,e,a,b,cc,dd⟩:=hc.is
  exact ⟨us,uo,ut,e,a.mod M3 (fun q hq e=>by have:=dd q (.inl hq);have:=AH.aL gR;omega),b.mod M3 (fun q hq e=>by have:=dd q (.inr (.inl hq));have:=AH.aL gR;omega),cc.mod M3 (fun q hq e=>by have:=dd q (.inr (.inr hq));have:=AH.aL gR;omega),fun q hq=>by have:=dd q hq;omega⟩
 |false=>
  rw [ho]at Bw BB
  obtain ⟨F,hF⟩:∃F,cZ c=F:=⟨_,rfl⟩
  rw [hF]at BB⊢
  have hd:decide (rows=[])=F:=by rw [BB,Bool.false_or,Bool.eq_iff_iff,alZ,alZ,List.length_eq_zero_iff]
  have yW:decide (rows.length=0)=F:=by rw [BB,Bool.false_or]
  have hd3:decide ((rows.length:Int)=0)=F:=by rw [←yW,Bool.eq_iff_iff,alZ,alZ];omega
  have r0n:=r0
  simp (maxSteps:=4000000)-implicitDefEqProofs+contextual [-X.ev,Q5,cV,l6,Bw]
  apply ah
  ·(simp-implicitDefEqProofs [-X.ev];rfl)
  refine (key).mono ?_
  rintro xx H2 ⟨cs,rfl,hc,X2⟩
  have x2:=X2.nx
  have gF:cs.length=7:=by obtain ⟨_,_,_,e,_⟩:=hc.is;rw [e];rfl
  obtain ⟨H3,t3,M3,pI,kS,g3⟩:=bw (X2.get gR) (by rw [X2.n0,X1.n0];exact hw) (k:=0) (vs:=cs) (by simp [gF])
  have fM:=fk [Value.int .i64 0,.slice none 0 0,.slice none 0 0,.slice none 0 0,.int .i64 0,.int .i64 0,.int .i64 0] cs (by rw [gF];rfl)
  rw [fM]at g3
  have l3:H3.ldn ⟨H.nx,0,none⟩ 7=some cs:=by rw [bk g3 (by rw [kS,X2.n0,X1.n0];exact hw) (by omega)];simp [alU (Nat.le_of_eq gF)]
  have l62:=X2.ldn l6
  have EN:=bm.1 Bw
  have EO:=X2.ldn EN
  have r02:=X2.ld r0
  have SK:=X2.n0
  simp (maxSteps:=4000000)-implicitDefEqProofs+contextual [-X.ev,gF,t3,l3,hd,r02,l6,l62,EN,EO,s1,s2,s3,x2,SK,pI,kS,aY,aH,aI,zi,cw,PL]
  refine ⟨?_,X1.trans X2|>.mod M3 (fun b hb=>by omega)⟩
  obtain ⟨us,uo,ut,e,a,b,cc,dd⟩:=hc.is
  exact ⟨us,uo,ut,e,a.mod M3 (fun q hq e=>by have:=dd q (.inl hq);have:=AH.aL gR;omega),b.mod M3 (fun q hq e=>by have:=dd q (.inr (.inl hq));have:=AH.aL gR;omega),cc.mod M3 (fun q hq e=>by have:=dd q (.inr (.inr hq));have:=AH.aL gR;omega),fun q hq=>by have:=dd q hq;omega⟩
open Go
abbrev zR:List Value:=[.int .i64 0,.slice none 0 0,.slice none 0 0,.slice none 0 0,.int .i64 0,.int .i64 0,.int .i64 0]
def lr (p:bH) (fuel:Int) (t:fy):eJ:=if fS p fuel t=0 then(vU p t.bR (jA p fuel t)).run else zG
theorem jR.len {H:AH} {n:Nat} {cs:List Value} {r:eJ} (h:jR H n cs r):cs.length=7:=by obtain ⟨_,_,_,e,_⟩:=h.is;rw [e];rfl
theorem jR.mod {H H':AH} {n:Nat} {S:Nat→Prop} {cs:List Value} {r:eJ} (h:jR H n cs r) (M:Mod S H H') (hS:∀b,S b→b<n):jR H' n cs r:=by
 obtain ⟨us,uo,ut,e,a,b,c,d⟩:=h.is
 exact ⟨us,uo,ut,e,a.mod M (fun q hq e=>by have:=d q (.inl hq);have:=hS q e;omega),b.mod M (fun q hq e=>by have:=d q (.inr (.inl hq));have:=hS q e;omega),c.mod M (fun q hq e=>by have:=d q (.inr (.inr hq));have:=hS q e;omega),d⟩
theorem jR.le {H:AH} {n k:Nat} {cs:List Value} {r:eJ} (h:jR H n cs r) (hk:k≤n):jR H k cs r:=by
 obtain ⟨us,uo,ut,e,a,b,c,d⟩:=h.is
 exact ⟨us,uo,ut,e,a,b,c,fun q hq=>Nat.le_trans hk (d q hq)⟩
theorem I5 {p:bH} {t:fy} {c d:List Value} {fuel:Int} {H:AH} (hw:H.n0≤H.nx) (hp:ph H c p) (ht:u9 H d t):
 Ca E O 47 [.agg c.toArray,.int .i64 fuel,.agg d.toArray] H (fun x H'=>∃cs,x= .tuple #[.agg cs.toArray,.int .i64 (fS p fuel t)]∧jR H' H.nx cs (lr p fuel t)∧Ext H H'):=by
 refine Ca.aR (F:=UO) rfl rfl rfl ?_
 have hc:=hp.len
 have hd:d.length=2:=by obtain ⟨vs,vp,e,_⟩:=ht.is;rw [e];rfl
 have X1:=Ext.alloc H (.cells c.length c)
 have q:(H.alloc (.cells c.length c)).ldn ⟨H.nx,0,none⟩ 3=some c:=ba hw 3 (by assumption)
 generalize cV:H.alloc (.cells c.length c)=H1 at X1 q
 have bc:=X1.wf hw
 have X2:=Ext.alloc H1 (.cells d.length d)
 have r:(H1.alloc (.cells d.length d)).ldn ⟨H1.nx,0,none⟩ 2=some d:=ba bc 2 (by assumption)
 generalize ju:H1.alloc (.cells d.length d)=H2 at X2 r
 have gV:=X2.wf bc
 replace q:=X2.ldn q
 have X3:=Ext.alloc H2 (.cells 7 zR)
 have gR:=bZ H2 (.cells 7 zR)
 obtain ⟨H3,IT⟩:∃H3,H2.alloc (.cells 7 zR)=H3:=⟨_,rfl⟩
 rw [IT]at X3 gR
 have nz:=X3.wf gV
 have X:=(X1.trans X2).trans X3
 replace q:=X3.ldn q
 replace r:=X3.ldn r
 have x1:=X1.nx
 have x2:=X2.nx
 have ltR:=AH.aL gR
 have kS:H3.n0=H.n0:=X.n0
 have Wc:H3.n0≤H2.nx:=by rw [kS];omega
 have k1:=NG (fuel:=fuel) nz (hp.ext X) (ht.ext X)
 simp (maxSteps:=4000000)-implicitDefEqProofs+contextual [-X.ev,UO,cV,ju,IT,q,r]
 apply ah
 ·(simp-implicitDefEqProofs [-X.ev];rfl)
 refine (k1).mono ?_
 rintro x H4 hx
 by_cases hk:fS p fuel t=0
 case neg=>
  rw [if_neg hk]at hx
  obtain ⟨rfl,X4⟩:=hx
  obtain ⟨H5,t5,M5,KL,vw,g5⟩:=bw (X4.get gR) (by rw [X4.n0];exact Wc) (k:=0) (vs:=zR) (by simp)
  rw [fk _ _ rfl]at g5
  have l5:H5.ldn ⟨H2.nx,0,none⟩ 7=some zR:=by rw [bk g5 (by rw [vw,X4.n0];exact Wc) (by simp)];rfl
  have rO:dW zR []=some (.agg zR.toArray):=rfl
  simp (maxSteps:=4000000)-implicitDefEqProofs+contextual [-X.ev,hk,rO,t5,l5]
  have XX:=(X.trans X4).mod M5 (fun b hb=>by omega)
  exact ⟨by rw [lr,if_neg hk];exact jR.zero _ _,XX⟩
 rw [if_pos hk]at hx
 obtain ⟨m,rfl,G,v,hM,X4,zF,hG⟩:=hx
 obtain ⟨fin,Tm⟩:∃f,vU p t.bR (jA p fuel t)=f:=⟨_,rfl⟩
 simp (maxSteps:=4000000)-implicitDefEqProofs+contextual [-X.ev]
 refine b9 (fun k fr H'=>fr.get 8= .pointer (some ⟨m,0,none⟩)∧fr.get 6= .pointer (some ⟨H2.nx,0,none⟩)∧Ext H3 H'∧∃v c',qS G H' m p t.bR v c'∧vU p t.bR c'=fin∧(∀b,Mf m v b→H3.nx≤b)∧k=c'.fuel.toNat) ?_ _ ⟨by simp,by simp,X4,v,_,hM,Tm,zF,rfl⟩
 rintro k fr H5 ⟨f8,f6,X5,v5,c5,hM5,K4,EP,rfl⟩
 simp (maxSteps:=4000000)-implicitDefEqProofs+contextual [-X.ev,f8]
 apply ah
 ·(simp-implicitDefEqProofs [-X.ev];rfl)
 refine (I0 hM5).mono ?_
 rintro x H6 ⟨rfl,v6,hM6,M6,hn6,SY⟩
 have X6:Ext H3 H6:=X5.mod M6 EP
 have NP:∀b,Mf m v6 b→H3.nx≤b:=fun b hb=>by
  rcases hn6 b hb with q|q
  ·exact EP b q
  ·have:=X5.nx;omega
 cases We:(!cZ c5&& !(du p t.bR c5).over)with
 |true=>
  obtain ⟨g1,g2,g3⟩:=NO hM5.inv.fuel.1 We
  simp (maxSteps:=4000000)-implicitDefEqProofs+contextual [-X.ev,We,f8,f6]
  exact ⟨_,by omega,X6,v6,_,hM6,g1.trans K4,NP,rfl⟩
 |false=>
  have hs:du p t.bR c5=fin:=(EM We).symm.trans K4
  rw [hs]at hM6
  simp (maxSteps:=4000000)-implicitDefEqProofs+contextual [-X.ev,We,f8,f6]
  apply ah
  ·(simp-implicitDefEqProofs [-X.ev];rfl)
  refine (I4 hM6).mono ?_
  rintro x H7 ⟨cs,rfl,hr,X7⟩
  have gF:=hr.len
  have Pv:=(X6.trans X7).wf nz
  obtain ⟨H8,s8,X8,PA,zx,g8⟩:=gq Pv (z:=7) (c:=zR) (vs:=cs) (by rw [gF];rfl)
  have Wf:=(X6.trans X7).trans X8
  have l8:H8.ldn ⟨H7.nx,0,none⟩ 7=some cs:=by rw [bk g8 (by rw [zx];exact Pv) (by omega)];simp [alU (Nat.le_of_eq gF)]
  obtain ⟨H9,t9,M9,R8,KS,g9⟩:=bw (Wf.get gR) (by rw [Wf.n0];exact Wc) (k:=0) (vs:=cs) (by simp [gF])
  rw [fk _ _ (by rw [gF];rfl)]at g9
  have l9:H9.ldn ⟨H2.nx,0,none⟩ 7=some cs:=by rw [bk g9 (by rw [KS,Wf.n0];exact Wc) (by omega)];simp [alU (Nat.le_of_eq gF)]
  have x38:=X6.nx
  simp (maxSteps:=4000000)-implicitDefEqProofs+contextual [-X.ev,gF,s8,l8,f6,t9,l9]
  refine ⟨cs,⟨rfl,hk.symm⟩,?_,(X.trans Wf).mod M9 (fun b hb=>by omega)⟩
  rw [lr,if_pos hk,Tm]
  exact ((hr.ext X8).mod M9 (fun b hb=>by omega)).le (by omega)
end Go.Proofs.YtppcmpmnglaleaaGreatDoor.A
