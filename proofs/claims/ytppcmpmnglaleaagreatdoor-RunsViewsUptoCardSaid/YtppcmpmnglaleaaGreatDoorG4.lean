/- Texts that stand one behind the other: Abs3, Abs4. -/
import Derived.Test.YtppcmpmnglaleaaGreatDoorG3
import Derived.Deep.AppendSrc
import Derived.Laws.MakeOwn
set_option linter.unusedVariables false
set_option linter.unusedSimpArgs false
namespace Go.Proofs.YtppcmpmnglaleaaGreatDoor.A
open Go Go.RowKit
theorem add_lit (c o j:Nat):(⟨c,o,none⟩:Addr).add j=⟨c,o+j,none⟩:=by unfold Addr.add;split<;>simp_all
theorem yO {φ:bl} (R:∀b,b<φ.n0→φ.m b=some ⟨b,0,0,1⟩) {v x:Value} (h:aK φ.n0 v=some x):one x=true∧V φ x v:=by
 cases v with
 |pointer a=>
  cases a with
  |none=>simp [aK,flat]at h;subst h;exact ⟨rfl,.same rfl⟩
  |some a=>
   obtain ⟨b,o,s⟩:=a
   simp only [aK]at h
   cases hb:(decide (b<φ.n0)&&s.isNone)with
   |false=>simp [hb]at h
   |true=>
    simp [hb]at h
    subst h
    simp at hb
    obtain ⟨hb,rfl⟩:=hb
    have hm:=R b hb
    exact ⟨rfl,.ptr (l:=⟨b,0,0,1⟩) hm⟩
 |slice a n c=>
  cases a with
  |none=>simp [aK,flat]at h;subst h;exact ⟨rfl,.same rfl⟩
  |some a=>
   obtain ⟨b,o,s⟩:=a
   simp only [aK]at h
   cases hb:(decide (b<φ.n0)&&s.isNone)with
   |false=>
    simp [hb,nb,Bool.cond_decide]at h
    obtain ⟨rfl,rfl⟩:=h
    exact ⟨rfl,.dead⟩
   |true=>
    simp [hb]at h
    subst h
    simp at hb
    obtain ⟨hb,rfl⟩:=hb
    have hm:=R b hb
    exact ⟨rfl,.sl (l:=⟨b,0,0,1⟩) hm (alR _) id (.inl rfl)⟩
 |map r=>cases r<;>simp [aK,flat]at h;subst h;exact ⟨rfl,.same rfl⟩
 |chan r=>cases r<;>simp [aK,flat]at h;subst h;exact ⟨rfl,.same rfl⟩
 |bool b=>simp [aK,flat]at h;subst h;exact ⟨rfl,.same rfl⟩
 |int k n=>simp [aK,flat]at h;subst h;exact ⟨rfl,.same rfl⟩
 |float k n=>simp [aK,flat]at h;subst h;exact ⟨rfl,.same rfl⟩
 |complex k n m=>simp [aK,flat]at h;subst h;exact ⟨rfl,.same rfl⟩
 |string s=>simp [aK,flat]at h;subst h;exact ⟨rfl,.same rfl⟩
 |nilFunc=>simp [aK,flat]at h;subst h;exact ⟨rfl,.same rfl⟩
 |nilIface=>simp [aK,flat]at h;subst h;exact ⟨rfl,.same rfl⟩
 |func f a b=>simp [aK,flat]at h
 |iface t v=>simp [aK,flat]at h
 |agg c=>simp [aK,flat]at h
 |tuple c=>simp [aK,flat]at h
theorem pY {φ:bl} (R:∀b,b<φ.n0→φ.m b=some ⟨b,0,0,1⟩):∀{l m:List Value},aJ φ.n0 l=some m→m.all one=true∧VL φ m l
 |[],m,h=>by simp [aJ]at h;subst h;exact ⟨rfl,.nil⟩
 |v::l,m,h=>by
  simp only [aJ]at h
  cases hv:aK φ.n0 v with
  |none=>simp [hv]at h
  |some x=>
   cases hl:aJ φ.n0 l with
   |none=>simp [hv,hl]at h
   |some k=>
    simp [hv,hl]at h
    subst h
    obtain ⟨a,b⟩:=yO R hv
    obtain ⟨c,d⟩:=pY R hl
    exact ⟨by simp [a,c],.cons b d⟩
theorem Rel.ld {w0 w:World} {φ:bl} {H:AH} (R:Rel w0 φ H w) {a:Addr} {v:Value} {l:Loc} (h:H.ld a=some v) (hl:φ.m a.block=some l):
 a.spot=none∧one v=true∧∃v',w.cell? ⟨l.c,a.off+l.s,none⟩=some v'∧V φ v v':=by
 obtain ⟨b,o,s⟩:=a
 unfold AH.ld at h
 cases s with
 |some s=>simp at h
 |none=>
  refine ⟨rfl,?_⟩
  dsimp only at h hl⊢
  cases hb:H.get b with
  |none=>simp [hb]at h
  |some aN=>
   cases aN with
   |map es=>simp [hb]at h
   |cells z c=>
    simp only [hb]at h
    cases hv:c[o]? with
    |none=>simp [hv]at h
    |some u=>
     simp only [hv,R.n0]at h
     by_cases dm:b<φ.n0
     ·simp [dm]at h
      obtain ⟨h1,h2⟩:=yO R.gg h
      refine ⟨h1,u,?_,h2⟩
      have hm:=R.gg b dm
      rw [hm]at hl
      cases hl
      obtain ⟨e,fz,hw⟩:=R.iU b z c dm (AH.fO hb)
      simp [World.cell?,hw,hv]
     ·simp [dm]at h
      subst h
      obtain ⟨h1,h2,h3,arr,e,h4,h5,h6,_⟩:=R.cells b l z c (by omega) hl (AH.fO hb)
      obtain ⟨h7,v',h8,h9⟩:=h6 o u hv
      refine ⟨h7,v',?_,h9⟩
      rw [Nat.add_comm]at h8
      simp [World.cell?,h4,h8]
theorem Rel.ldn {w0 w:World} {φ:bl} {H:AH} (R:Rel w0 φ H w) {a:Addr} {n:Nat} {vs:List Value} {l:Loc} (h:H.ldn a n=some vs) (hl:φ.m a.block=some l):
 a.spot=none∧vs.all one=true∧vs.length=n∧∃iV,iV.length=n∧VL φ vs iV∧∀j v',iV[j]?=some v'→w.cell? ((⟨l.c,a.off+l.s,none⟩:Addr).add j)=some v':=by
 obtain ⟨b,o,s⟩:=a
 unfold AH.ldn at h
 cases s with
 |some s=>simp at h
 |none=>
  refine ⟨rfl,?_⟩
  dsimp only at h hl⊢
  cases hb:H.get b with
  |none=>simp [hb]at h
  |some aN=>
   cases aN with
   |map es=>simp [hb]at h
   |cells z c=>
    simp only [hb,Bool.cond_decide,R.n0]at h
    split at h
    case isFalse=>cases h
    rename_i hn
    by_cases dm:b<φ.n0
    ·rw [if_pos dm]at h
     obtain ⟨h1,h2⟩:=pY R.gg h
     have hlen:((c.drop o).take n).length=n:=by simp;omega
     refine ⟨h1,by rw [h2.length,hlen],_,hlen,h2,?_⟩
     intro j v' hj
     have hm:=R.gg b dm
     rw [hm]at hl
     cases hl
     obtain ⟨e,fz,hw⟩:=R.iU b z c dm (AH.fO hb)
     have uv:j<n:=by
      have:=(alT.1 hj).1
      omega
     rw [add_lit]
     simp [World.cell?,hw]
     simpa [List.getElem?_take,uv,List.getElem?_drop]using hj
    ·rw [if_neg dm]at h
     cases h
     obtain ⟨h1,h2,h3,arr,e,h4,h5,h6,_⟩:=R.cells b l z c (by omega) hl (AH.fO hb)
     have hlen:((c.drop o).take n).length=n:=by simp;omega
     have gh:∀j v,((c.drop o).take n)[j]?=some v→one v=true∧∃v',arr[l.s+(o+j)]?=some v'∧V φ v v':=by
      intro j v hj
      have uv:j<n:=by
       have:=(alT.1 hj).1
       omega
      exact h6 (o+j) v (by simpa [List.getElem?_take,uv,List.getElem?_drop]using hj)
     refine ⟨?_,hlen,(arr.toList.drop (l.s+o)).take n,?_,?_,?_⟩
     ·rw [al3]
      intro x hx
      obtain ⟨j,hj⟩:=List.getElem?_of_mem hx
      exact (gh j x hj).1
     ·simp;omega
     ·refine VL.Cs (by simp;omega) ?_
      intro j v hj
      obtain ⟨_,v',e1,e2⟩:=gh j v hj
      refine ⟨v',?_,e2⟩
      have uv:j<n:=by
       have:=(alT.1 hj).1
       omega
      simpa [List.getElem?_take,uv,List.getElem?_drop,Nat.add_assoc]using e1
     ·intro j v' hj
      have uv:j<n:=by
       have:=(alT.1 hj).1
       simp at this
       omega
      rw [add_lit]
      simp [World.cell?,h4]
      have:arr[l.s+o+j]?=some v':=by simpa [List.getElem?_take,uv,List.getElem?_drop]using hj
      rw [←this]
      congr 1
      omega
theorem Rel.drew {w0 w w':World} {φ:bl} {H:AH} (R:Rel w0 φ H w) (hh:w'.heap=w.heap) (ho:w'.os=w.os) (ht:w'.tape=w.tape) (hp:w'.output=w.output):Rel w0 φ H w' where
 n0:=R.n0
 nE:=R.nE
 oD:=R.oD
 c0:=R.c0
 below:=⟨ho.trans R.below.os,ht.trans R.below.tape,hp.trans R.below.output,by rw [hh];exact R.below.size,fun k hk=>by rw [hh];exact R.below.block k hk⟩
 gg:=R.gg
 iU:=by rw [hh];exact R.iU
 cells:=by rw [hh];exact R.cells
 maps:=by rw [hh];exact R.maps
 inj:=R.inj
 sV:=R.sV
 mr:=fun b s e=>by
  obtain ⟨h1,h2,l,h3,h4,h5⟩:=R.mr b s e
  exact ⟨h1,h2,l,h3,h4,h5.pX rfl (fun k _ _=>by rw [hh]) fun b l a1 a2 a3=>.inl ⟨a1,a2,a3⟩⟩
theorem Grow.of_heap {φ:bl} {H:AH} {w w':World} (hh:w'.heap=w.heap):Grow φ H w φ H w':=
 ⟨bl.le_refl _,rfl,rfl,alR _,fun _ _ h k=>(by rw [h]at k;cases k),by rw [hh];exact alR _⟩
theorem Rel.new {w0 w w':World} {φ:bl} {H:AH} (R:Rel w0 φ H w) (h0:φ.m H.nx=none) {z:Nat} {cs:List Value} {arr:Array Value} {e:TypeId} (hh:w'.heap=w.heap.push (.cells arr e (0,0))) (ho:w'.os=w.os) (ht:w'.tape=w.tape) (hp:w'.output=w.output)
 (hn:cs.length≤arr.size) (hc:CR φ 0 cs arr) (he:e≠BY):
 Rel w0 (φ.add H.nx ⟨w.heap.size,0,arr.size,z⟩) (H.alloc (.cells z cs)) w'∧Grow φ H w (φ.add H.nx ⟨w.heap.size,0,arr.size,z⟩) (H.alloc (.cells z cs)) w':=by
 have hle:φ.le (φ.add H.nx ⟨w.heap.size,0,arr.size,z⟩):=bl.sU h0
 have gA:w0.heap.size≤w.heap.size:=R.below.size
 have gh:∀k,k<w.heap.size→w'.heap[k]?=w.heap[k]?:=fun k hk=>by rw [hh,Array.getElem?_push,if_neg (by omega)]
 have old:∀b l,φ.n0≤b→φ.m b=some l→(H.raw b).isSome=true→l.c<w.heap.size:=by
  intro b l hb hl hs
  cases hg:H.raw b with
  |none=>simp [hg]at hs
  |some aN=>
   cases aN with
   |cells z' c=>
    obtain ⟨_,_,_,a,e',h4,_⟩:=R.cells b l z' c hb hl hg
    exact (al1.1 h4).1
   |map es=>
    obtain ⟨_,a,e',h4,_⟩:=R.maps b l es hb hl hg
    exact (al1.1 h4).1
 refine ⟨?_,?_⟩
 ·refine ⟨R.n0,R.nE,by rw [AH.dj];have:=R.oD;exact Nat.le_succ_of_le this,R.c0,?_,?_,?_,?_,?_,?_,?_,R.sV⟩
  ·refine ⟨ho.trans R.below.os,ht.trans R.below.tape,hp.trans R.below.output,?_,fun k hk=>?_⟩
   ·rw [hh,Array.size_push];omega
   ·rw [gh k (by omega)];exact R.below.block k hk
  ·intro b hb
   exact hle _ _ (R.gg b hb)
  ·intro b z' c hb hg
   have jW:b<φ.n0:=hb
   rw [AH.cj,if_neg (by have:=R.oD;omega)]at hg
   obtain ⟨e',fz,hw⟩:=R.iU b z' c hb hg
   exact ⟨e',fz,by rw [gh b (by have:=R.nE;have:=R.c0;omega)];exact hw⟩
  ·intro b l z' c hb hl hg
   rw [AH.cj]at hg
   simp only [bl.add]at hl
   by_cases xi:b=H.nx
   ·rw [if_pos xi]at hg hl
    cases hg
    cases hl
    refine ⟨by show φ.c0≤w.heap.size;rw [R.c0];exact gA,rfl,by simpa using hn,arr,e,?_,rfl,hc.mono hle,he⟩
    rw [hh]
    simp
   ·rw [if_neg xi]at hg hl
    obtain ⟨h1,h2,h3,a,e',h4,h5,h6,h7⟩:=R.cells b l z' c hb hl hg
    exact ⟨h1,h2,h3,a,e',by rw [gh _ (al1.1 h4).1];exact h4,h5,h6.mono hle,h7⟩
  ·intro b l es hb hl hg
   rw [AH.cj]at hg
   simp only [bl.add]at hl
   by_cases xi:b=H.nx
   ·rw [if_pos xi]at hg
    cases hg
   ·rw [if_neg xi]at hg hl
    obtain ⟨h1,a,e',h4,h5⟩:=R.maps b l es hb hl hg
    exact ⟨h1,a,e',by rw [gh _ (al1.1 h4).1];exact h4,h5.mono hle⟩
  ·intro b1 b2 l1 l2 j6 gC h1 h2 g1 g2 j7
   rw [AH.cj]at g1 g2
   simp only [bl.add]at h1 h2
   by_cases e1:b1=H.nx<;>by_cases e2:b2=H.nx
   ·rw [e1,e2]
   ·rw [if_pos e1]at h1
    rw [if_neg e2]at h2 g2
    cases h1
    have:=old b2 l2 gC h2 g2
    simp at j7
    omega
   ·rw [if_neg e1]at h1 g1
    rw [if_pos e2]at h2
    cases h2
    have:=old b1 l1 j6 h1 g1
    simp at j7
    omega
   ·rw [if_neg e1]at h1 g1
    rw [if_neg e2]at h2 g2
    exact R.inj b1 b2 l1 l2 j6 gC h1 h2 g1 g2 j7
  ·intro b s eb
   obtain ⟨h1,h2,l,h3,h4,h5⟩:=R.mr b s eb
   have fw:b≠H.nx:=by rintro rfl;rw [h0]at h3;cases h3
   refine ⟨h1,by rw [AH.cj,if_neg fw];exact h2,l,hle _ _ h3,h4,h5.pX rfl (fun k hk _=>gh k hk) fun b' l' a1 a2 a3=>?_⟩
   rw [AH.cj]at a3
   simp only [bl.add]at a2
   by_cases jW:b'=H.nx
   ·rw [if_pos jW]at a2
    cases a2
    exact .inr (.inl (alR _))
   ·rw [if_neg jW]at a2 a3
    exact .inl ⟨a1,a2,a3⟩
 ·refine ⟨hle,rfl,rfl,by rw [AH.dj];exact Nat.le_succ _,?_,by rw [hh,Array.size_push];exact Nat.le_succ _⟩
  ·intro b l h k
   simp only [bl.add]at k
   split at k
   ·rename_i hb;subst hb;exact ⟨alR _,by rw [AH.dj];exact al2 _⟩
   ·rw [h]at k;cases k
theorem Rel.write {w0 w w':World} {φ:bl} {H:AH} (R:Rel w0 φ H w) {b z:Nat} {c c':List Value} {l:Loc} {arr':Array Value} {e:TypeId} (hb:φ.n0≤b) (hl:φ.m b=some l) (hg:H.get b=some (.cells z c))
 (hw:w'.heap[l.c]?=some (.cells arr' e (0,0))) (hk:∀k,k≠l.c→w'.heap[k]?=w.heap[k]?) (hs:w'.heap.size=w.heap.size) (ho:w'.os=w.os) (ht:w'.tape=w.tape) (hp:w'.output=w.output)
 (ha:arr'.size=l.n) (hn:l.s+c'.length≤l.n) (hc:CR φ l.s c' arr') (he:e≠BY):
 Rel w0 φ (H.put b (some (.cells z c'))) w'∧Grow φ H w φ (H.put b (some (.cells z c'))) w':=by
 have hg:=AH.fO hg
 obtain ⟨g1,g2,g3,arr,e0,g4,g5,g6,g7⟩:=R.cells b l z c hb hl hg
 refine ⟨⟨R.n0,R.nE,R.oD,R.c0,?_,R.gg,?_,?_,?_,?_,?_,R.sV⟩,?_⟩
 ·refine ⟨ho.trans R.below.os,ht.trans R.below.tape,hp.trans R.below.output,by rw [hs];exact R.below.size,fun k h=>?_⟩
  rw [hk k (by have:=R.c0;omega)]
  exact R.below.block k h
 ·intro x z' d hx eV
  rw [AH.cu,if_neg (by omega)]at eV
  obtain ⟨e',fz,hh⟩:=R.iU x z' d hx eV
  refine ⟨e',fz,?_⟩
  rw [hk x (by have:=R.nE;omega)]
  exact hh
 ·intro x lx z' d hx gj eV
  rw [AH.cu]at eV
  by_cases iM:x=b
  ·subst iM
   rw [if_pos rfl]at eV
   cases eV
   rw [hl]at gj
   cases gj
   exact ⟨g1,g2,hn,arr',e,hw,ha,hc,he⟩
  ·rw [if_neg iM]at eV
   obtain ⟨h1,h2,h3,a,e',h4,h5,h6,h7⟩:=R.cells x lx z' d hx gj eV
   refine ⟨h1,h2,h3,a,e',?_,h5,h6,h7⟩
   rw [hk]
   ·exact h4
   ·intro hc
    exact iM (R.inj x b lx l hx hb gj hl (by simp [eV]) (by simp [hg]) hc)
 ·intro x lx es hx gj eV
  rw [AH.cu]at eV
  by_cases iM:x=b
  ·rw [if_pos iM]at eV;cases eV
  ·rw [if_neg iM]at eV
   obtain ⟨h1,a,e',h4,h5⟩:=R.maps x lx es hx gj eV
   refine ⟨h1,a,e',?_,h5⟩
   rw [hk]
   ·exact h4
   ·intro hc
    exact iM (R.inj x b lx l hx hb gj hl (by simp [eV]) (by simp [hg]) hc)
 ·intro b1 b2 l1 l2 j6 gC h1 h2 s1 s2 j7
  have live:∀x,((H.put b (some (.cells z c'))).raw x).isSome=true→(H.raw x).isSome=true:=by
   intro x hx
   rw [AH.cu]at hx
   by_cases iM:x=b
   ·subst iM;simp [hg]
   ·rw [if_neg iM]at hx;exact hx
  exact R.inj b1 b2 l1 l2 j6 gC h1 h2 (live _ s1) (live _ s2) j7
 ·intro x s eb
  obtain ⟨h1,h2,lx,h3,h4,h5⟩:=R.mr x s eb
  have fw:x≠b:=by rintro rfl;rw [hg]at h2;cases h2
  obtain ⟨k1,k2⟩:=h5.apart b l hb hl (by simp [hg])
  refine ⟨h1,by rw [AH.cu,if_neg fw];exact h2,lx,h3,h4,h5.pX rfl (fun k _ Lz=>hk k ?_) fun b' l' a1 a2 a3=>.inl ⟨a1,a2,?_⟩⟩
  ·rcases Lz with rfl|⟨v,hv,AI⟩
   ·exact fun e=>k1 e.symm
   ·exact fun e=>k2 v hv (e▸AI)
  ·rw [AH.cu]at a3
   by_cases iM:b'=b
   ·subst iM;simp [hg]
   ·rw [if_neg iM]at a3;exact a3
 ·exact ⟨bl.le_refl _,rfl,rfl,alR _,fun _ _ h k=>(by rw [h]at k;cases k),by rw [hs];exact alR _⟩
theorem Rel.move {w0 w w':World} {φ:bl} {H:AH} (R:Rel w0 φ H w) (h0:φ.m H.nx=none) {b z s2 z2:Nat} {c c2:List Value} {l:Loc} {arr':Array Value} {e:TypeId} (hb:φ.n0≤b) (hl:φ.m b=some l) (hg:H.get b=some (.cells z c))
 (hw:w'.heap[l.c]?=some (.cells arr' e (0,0))) (hk:∀k,k≠l.c→w'.heap[k]?=w.heap[k]?) (hs:w'.heap.size=w.heap.size) (ho:w'.os=w.os) (ht:w'.tape=w.tape) (hp:w'.output=w.output)
 (ha:arr'.size=l.n) (hn:s2+c2.length≤l.n) (hc:CR φ s2 c2 arr') (he:e≠BY):
 Rel w0 (φ.add H.nx ⟨l.c,s2,l.n,z2⟩) ((H.put b none).alloc (.cells z2 c2)) w'∧Grow φ H w (φ.add H.nx ⟨l.c,s2,l.n,z2⟩) ((H.put b none).alloc (.cells z2 c2)) w':=by
 have xi:b<H.nx:=AH.aL hg
 have hg:=AH.fO hg
 obtain ⟨g1,g2,g3,arr,e0,g4,g5,g6,g7⟩:=R.cells b l z c hb hl hg
 have hle:φ.le (φ.add H.nx ⟨l.c,s2,l.n,z2⟩):=bl.sU h0
 have get:∀x,((H.put b none).alloc (.cells z2 c2)).raw x=if x=H.nx then some (.cells z2 c2)else if x=b then none else H.raw x:=by
  intro x
  rw [AH.cj,AH.cu,AH.Cm]
 have other:∀x lx,φ.n0≤x→φ.m x=some lx→(H.raw x).isSome=true→x≠b→lx.c≠l.c:=fun x lx hx gj hs fw hc=>fw (R.inj x b lx l hx hb gj hl hs (by simp [hg]) hc)
 refine ⟨⟨R.n0,R.nE,by show φ.n0≤H.nx+1;have:=R.oD;omega,R.c0,?_,?_,?_,?_,?_,?_,?_,R.sV⟩,?_⟩
 ·refine ⟨ho.trans R.below.os,ht.trans R.below.tape,hp.trans R.below.output,by rw [hs];exact R.below.size,fun k h=>?_⟩
  rw [hk k (by have:=R.c0;omega)]
  exact R.below.block k h
 ·intro x hx
  exact hle _ _ (R.gg x hx)
 ·intro x z' d hx eV
  have Um:x<φ.n0:=hx
  rw [get,if_neg (by have:=R.oD;omega),if_neg (by omega)]at eV
  obtain ⟨e',fz,hh⟩:=R.iU x z' d hx eV
  refine ⟨e',fz,?_⟩
  rw [hk x (by have:=R.nE;omega)]
  exact hh
 ·intro x lx z' d hx gj eV
  rw [get]at eV
  simp only [bl.add]at gj
  by_cases Qd:x=H.nx
  ·rw [if_pos Qd]at eV gj
   cases eV
   cases gj
   exact ⟨g1,rfl,hn,arr',e,hw,ha,hc.mono hle,he⟩
  ·rw [if_neg Qd]at eV gj
   by_cases iM:x=b
   ·rw [if_pos iM]at eV;cases eV
   ·rw [if_neg iM]at eV
    obtain ⟨h1,h2,h3,a,e',h4,h5,h6,h7⟩:=R.cells x lx z' d hx gj eV
    refine ⟨h1,h2,h3,a,e',?_,h5,h6.mono hle,h7⟩
    rw [hk _ (other x lx hx gj (by simp [eV]) iM)]
    exact h4
 ·intro x lx es hx gj eV
  rw [get]at eV
  simp only [bl.add]at gj
  by_cases Qd:x=H.nx
  ·rw [if_pos Qd]at eV;cases eV
  ·rw [if_neg Qd]at eV gj
   by_cases iM:x=b
   ·rw [if_pos iM]at eV;cases eV
   ·rw [if_neg iM]at eV
    obtain ⟨h1,a,e',h4,h5⟩:=R.maps x lx es hx gj eV
    refine ⟨h1,a,e',?_,h5.mono hle⟩
    rw [hk _ (other x lx hx gj (by simp [eV]) iM)]
    exact h4
 ·intro b1 b2 l1 l2 j6 gC h1 h2 s1 s2 j7
  rw [get]at s1 s2
  simp only [bl.add]at h1 h2
  by_cases e1:b1=H.nx<;>by_cases e2:b2=H.nx
  ·rw [e1,e2]
  ·rw [if_pos e1]at h1
   rw [if_neg e2]at h2 s2
   cases h1
   by_cases iM:b2=b
   ·rw [if_pos iM]at s2;cases s2
   ·rw [if_neg iM]at s2
    exact absurd j7.symm (other b2 l2 gC h2 s2 iM)
  ·rw [if_neg e1]at h1 s1
   rw [if_pos e2]at h2
   cases h2
   by_cases iM:b1=b
   ·rw [if_pos iM]at s1;cases s1
   ·rw [if_neg iM]at s1
    exact absurd j7 (other b1 l1 j6 h1 s1 iM)
  ·rw [if_neg e1]at h1 s1
   rw [if_neg e2]at h2 s2
   by_cases GU:b1=b
   ·rw [if_pos GU]at s1;cases s1
   ·by_cases BX:b2=b
    ·rw [if_pos BX]at s2;cases s2
    ·rw [if_neg GU]at s1
     rw [if_neg BX]at s2
     exact R.inj b1 b2 l1 l2 j6 gC h1 h2 s1 s2 j7
 ·intro x s eb
  obtain ⟨h1,h2,lx,h3,h4,h5⟩:=R.mr x s eb
  have fw:x≠b:=by rintro rfl;rw [hg]at h2;cases h2
  have Xo:x≠H.nx:=by rintro rfl;rw [h0]at h3;cases h3
  obtain ⟨k1,k2⟩:=h5.apart b l hb hl (by simp [hg])
  refine ⟨h1,by rw [get,if_neg Xo,if_neg fw];exact h2,lx,hle _ _ h3,h4,h5.pX rfl (fun k _ Lz=>hk k ?_) fun b' l' a1 a2 a3=>?_⟩
  ·rcases Lz with rfl|⟨v,hv,AI⟩
   ·exact fun e=>k1 e.symm
   ·exact fun e=>k2 v hv (e▸AI)
  ·rw [get]at a3
   simp only [bl.add]at a2
   by_cases jW:b'=H.nx
   ·rw [if_pos jW]at a2
    cases a2
    exact .inr (.inr ⟨b,l,hb,hl,by simp [hg],rfl⟩)
   ·rw [if_neg jW]at a2 a3
    by_cases gC:b'=b
    ·rw [if_pos gC]at a3;cases a3
    ·rw [if_neg gC]at a3
     exact .inl ⟨a1,a2,a3⟩
 ·refine ⟨hle,rfl,rfl,by show H.nx≤H.nx+1;omega,?_,by rw [hs];exact alR _⟩
  ·intro x lx h k
   simp only [bl.add]at k
   split at k
   ·rename_i hb;subst hb;exact ⟨alR _,al2 _⟩
   ·rw [h]at k;cases k
theorem Rel.kill {w0 w:World} {φ:bl} {H:AH} (R:Rel w0 φ H w) {b:Nat} (hb:φ.n0≤b):Rel w0 φ (H.put b none) w where
 n0:=R.n0
 nE:=R.nE
 oD:=R.oD
 c0:=R.c0
 below:=R.below
 sV:=R.sV
 gg:=R.gg
 iU:=fun x z c hx hg=>by rw [AH.cu,if_neg (by omega)]at hg;exact R.iU x z c hx hg
 cells:=fun x l z c hx hl hg=>by
  rw [AH.cu]at hg
  split at hg
  ·cases hg
  ·exact R.cells x l z c hx hl hg
 maps:=fun x l es hx hl hg=>by
  rw [AH.cu]at hg
  split at hg
  ·cases hg
  ·exact R.maps x l es hx hl hg
 inj:=fun b1 b2 l1 l2 j6 gC h1 h2 s1 s2 hc=>by
  rw [AH.cu]at s1 s2
  split at s1
  ·cases s1
  ·split at s2
   ·cases s2
   ·exact R.inj b1 b2 l1 l2 j6 gC h1 h2 s1 s2 hc
 mr:=fun x s eb=>by
  obtain ⟨h1,h2,lx,h3,h4,h5⟩:=R.mr x s eb
  refine ⟨h1,by rw [AH.cu];split<;>first|rfl|exact h2,lx,h3,h4,h5.pX rfl (fun k _ _=>rfl) fun b' l' a1 a2 a3=>.inl ⟨a1,a2,?_⟩⟩
  rw [AH.cu]at a3
  split at a3
  ·cases a3
  ·exact a3
theorem Grow.same {φ cN:bl} {H H1 H' H1':AH} {w w':World} (h:Grow φ H w cN H' w') (e:H1.nx=H.nx) (e':H1'.nx=H'.nx):Grow φ H1 w cN H1' w':=
 ⟨h.le,h.n0,h.c0,by rw [e,e'];exact h.nx,by rw [e,e'];exact h.new,h.size⟩
open Go Go.RowKit
def j8 (φ:bl) (fr:Fr) (a:Act):Prop:=∀t,V φ (fr.get t) (a.tmps.getD t undef)
theorem j8.mono {φ ψ:bl} (h:φ.le ψ) {fr:Fr} {a:Act} (F:j8 φ fr a):j8 ψ fr a:=fun t=>(F t).mono h
theorem pZ (φ:bl):V φ undef undef:=.tuple .nil
theorem j8.put {φ:bl} {fr:Fr} {a:Act} (F:j8 φ fr a) {d:Nat} {v v':Value} (hd:d<a.tmps.size) (h:V φ v v'):j8 φ (fr.put d v) (a.put (some d) v'):=by
 intro t
 rw [Fr.bj]
 simp only [Act.put]
 by_cases ht:t=d
 ·subst ht;simp [hd,h]
 ·rw [if_neg ht]
  have:(a.tmps.setIfInBounds d v').getD t undef=a.tmps.getD t undef:=by
   simp [Array.getElem?_setIfInBounds_ne (Ne.symm ht)]
  rw [this]
  exact F t
theorem j8.aM {φ:bl} {fr:Fr} {a:Act} (F:j8 φ fr a) {d:Option Nat} {v v':Value} (hd:∀n,d=some n→n<a.tmps.size) (h:V φ v v'):j8 φ (fr.aM d v) (a.put d v'):=by
 cases d with
 |none=>exact F
 |some n=>exact F.put (hd n rfl) h
theorem cE {φ:bl} {fr:Fr} {a:Act} (F:j8 φ fr a) {x:Operand} {y:X} (h:cX x=some y):V φ (y.ev fr) (a.eval x):=by
 cases x with
 |tmp t=>simp [cX]at h;subst h;exact F t
 |const v=>
  simp only [cX]at h
  split at h
  ·rename_i hv;cases h;exact V.uL hv
  ·cases h
 |global g=>simp [cX]at h
 |func f=>simp [cX]at h;subst h;exact .fn .nil .nil
theorem lP {φ:bl} {fr:Fr} {a:Act} (F:j8 φ fr a):∀{l:List Operand} {ys:List X},AE l=some ys→VL φ (ys.map (X.ev fr)) (l.map a.eval)
 |[],ys,h=>by simp [AE]at h;subst h;exact .nil
 |x::l,ys,h=>by
  simp only [AE]at h
  cases hx:cX x with
  |none=>simp [hx]at h
  |some y=>
   cases hl:AE l with
   |none=>simp [hx,hl]at h
   |some m=>
    simp [hx,hl]at h
    subst h
    exact .cons (cE F hx) (lP F hl)
def NR (φ:bl):gM→Next→Prop
 | .v x,nx=>(∃x',nx= .value x'∧V φ x x')∨(nx= .skip∧x=undef)
 | .enter f as,nx=>∃as':Array Value,nx= .enter f as'∧VL φ as as'.toList
def ff (w0:World) (φ:bl) (H:AH) (w:World) (res:gM) (H':AH) (r:Result Next):Prop:=
 ∃cN w' nx,r= .ok nx w'∧Rel w0 cN H' w'∧Grow φ H w cN H' w'∧NR cN res nx
section
variable{P:Program} {w0 w:World} {φ:bl} {H:AH}
theorem ff.pure {x:Value} {x':Value} {r:Result Next} (R:Rel w0 φ H w) (h:V φ x x') (hr:r= .ok (.value x') w):ff w0 φ H w (.v x) H r:=
 ⟨φ,w,_,hr,R,Grow.refl _ _ _,.inl ⟨x',rfl,h⟩⟩
theorem cm {t:TypeId} {n:Nat} (h:dk P t=some n) (w:World):(sizeOf t).run P w= .ok n w:=by
 unfold dk at h
 cases hi:P.info? t with
 |none=>simp [hi]at h
 |some i=>simp [hi]at h;subst h;simp [sizeOf,typeInfo,hi]
theorem iW {t:TypeId} {b:Bool} (h:xd P t=some b) (w:World):(isAgg t).run P w= .ok b w:=by
 unfold xd at h
 cases hu:P.underlying t with
 |none=>simp [hu]at h
 |some d=>
  cases d<;>simp [hu]at h<;>subst h<;>simp [isAgg,run_underlying hu]
theorem gD {t:TypeId} {l:List Value} (h:fB P t=some l):∃i z,P.info? t=some i∧i.zero=some z∧z.cells.toList=l∧l.all flat=true∧l.length=i.size:=by
 unfold fB at h
 cases hi:P.info? t with
 |none=>simp [hi]at h
 |some i=>
  rw [hi,Option.bind_some]at h
  cases hz:i.zero with
  |none=>rw [hz]at h;cases h
  |some z=>
   rw [hz,Option.bind_some]at h
   dsimp only at h
   split at h
   ·rename_i hc
    cases h
    simp at hc
    refine ⟨i,z,rfl,hz,rfl,?_,by simpa using hc.2⟩
    simpa using hc.1
   ·cases h
theorem mB {φ:bl} {cs:List Value} {arr:Array Value} (h:VL φ cs arr.toList) (o:cs.all one=true):CR φ 0 cs arr:=by
 intro j v hj
 obtain ⟨v',e,hv⟩:=h.get j v hj
 refine ⟨al3.1 o v (alS hj),v',?_,hv⟩
 simpa using e
theorem yP {fr:Fr} {a:Act} (F:j8 φ fr a) (R:Rel w0 φ H w) {x:Operand} {y:X} (h:cX x=some y) {res:gM} {H':AH} (hr:aS (.mv y) (X.ev fr) H=some (res,H')) {r:Result Next} (e:r= .ok (.value (a.eval x)) w):ff w0 φ H w res H' r:=by
 simp only [aS]at hr
 cases hr
 exact .pure R (cE F h) e
theorem Cw {t:TypeId} {z:List Value} (hz:fB P t=some z) (R:Rel w0 φ H w) (h0:φ.m H.nx=none) (ht:t≠BY):
 ∃i v,P.info? t=some i∧i.zero=some v∧ff w0 φ H w (.v (.pointer (some ⟨H.nx,0,none⟩))) (H.alloc (.cells z.length z)) (.ok (.value (.pointer (some ⟨w.heap.size,0,none⟩))) {w with heap:=w.heap.push (.cells v.cells t)}):=by
 obtain ⟨i,v,hi,hv,hc,hf,hl⟩:=gD hz
 refine ⟨i,v,hi,hv,?_⟩
 have e:CR φ 0 z v.cells:=mB (by rw [hc];exact VL.same hf) (ee hf)
 obtain ⟨R',G⟩:=R.new h0 (w':={w with heap:=w.heap.push (.cells v.cells t)}) (z:=z.length) (cs:=z) (arr:=v.cells) (e:=t) rfl rfl rfl rfl (by rw [←hc];simp) e ht
 refine ⟨_,_,_,rfl,R',G,.inl ⟨_,rfl,?_⟩⟩
 exact .ptr (l:=⟨w.heap.size,0,v.cells.size,z.length⟩) (by simp [bl.add])
theorem LA {v v':Value} (R:Rel w0 φ H w) (h0:φ.m H.nx=none) (h:V φ v v') (ht:cv v=false) (t:TypeId) (hb:t≠BY):
 ff w0 φ H w (.v (.pointer (some ⟨H.nx,0,none⟩))) (H.alloc (.cells (aP v).length (aP v))) (.ok (.value (.pointer (some ⟨w.heap.size,0,none⟩))) {w with heap:=w.heap.push (.cells v'.cells t)}):=by
 obtain ⟨R',G⟩:=R.new h0 (w':={w with heap:=w.heap.push (.cells v'.cells t)}) (z:=(aP v).length) (cs:=aP v) (arr:=v'.cells) (e:=t) rfl rfl rfl rfl (by rw [h.cells.length];simp) (mB h.cells (lO h ht)) hb
 refine ⟨_,_,_,rfl,R',G,.inl ⟨_,rfl,?_⟩⟩
 exact .ptr (l:=⟨w.heap.size,0,v'.cells.size,(aP v).length⟩) (by simp [bl.add])
theorem Kc {a:Addr} {v x':Value} (R:Rel w0 φ H w) (hx:V φ (.pointer (some a)) x') (h:H.ld a=some v):
 ∃a' v',x'= .pointer (some a')∧w.cell? a'=some v'∧V φ v v':=by
 obtain ⟨l,hs,hl,rfl⟩:=V.uM hx
 obtain ⟨_,_,v',h1,h2⟩:=R.ld h hl
 exact ⟨_,v',rfl,h1,h2⟩
theorem Cy {a:Addr} {n:Nat} {vs:List Value} {x':Value} (R:Rel w0 φ H w) (hx:V φ (.pointer (some a)) x') (h:H.ldn a n=some vs):
 ∃a' iV,x'= .pointer (some a')∧iV.length=n∧vs.all one=true∧VL φ vs iV∧∀j v',iV[j]?=some v'→w.cell? (a'.add j)=some v':=by
 obtain ⟨l,hs,hl,rfl⟩:=V.uM hx
 obtain ⟨_,h1,h2,iV,h3,h4,h5⟩:=R.ldn h hl
 exact ⟨_,iV,rfl,h3,h1,h4,h5⟩
theorem fg:∀(c:List Value) (k:Nat) (vs:List Value),k+vs.length≤c.length→aF c k vs=c.take k++vs++c.drop (k+vs.length)
 |c,0,vs,h=>by cases c<;>simp [aF]
 |[],k+1,vs,h=>by simp at h
 |x::c,k+1,vs,h=>by
  simp only [aF,List.take_succ_cons,List.cons_append]
  rw [fg c k vs (by simp at h;omega),show k+1+vs.length=(k+vs.length)+1 by omega,List.drop_succ_cons]
theorem rI {c:List Value} {k:Nat} {vs:List Value} (h:k+vs.length≤c.length):(aF c k vs).length=c.length:=by
 rw [fg c k vs h];simp;omega
theorem AJ {s o:Nat} {c vs iV:List Value} {arr:Array Value} (h:CR φ s c arr) (hs:s+c.length≤arr.size) (hv:VL φ vs iV) (ho:vs.all one=true) (hn:o+vs.length≤c.length):
 CR φ s (aF c o vs) (arr.toList.take (s+o)++iV++arr.toList.drop (s+o+iV.length)).toArray:=by
 have hl:=hv.length
 intro j v hj
 rw [fg c o vs hn]at hj
 by_cases h1:j<o
 ·have:c[j]?=some v:=by
   rw [List.append_assoc,al0 (by simp;omega)]at hj
   rw [List.getElem?_take,if_pos h1]at hj
   exact hj
  obtain ⟨o1,v',e,dy⟩:=h j v this
  refine ⟨o1,v',?_,dy⟩
  rw [List.getElem?_toArray,List.append_assoc,al0 (by simp;omega),List.getElem?_take,if_pos (by omega)]
  simpa using e
 ·by_cases h2:j<o+vs.length
  ·have:vs[j- o]?=some v:=by
    rw [List.append_assoc,List.getElem?_append_right (by simp;omega)]at hj
    rw [al0 (by simp;omega)]at hj
    rw [←hj]
    congr 1
    simp
    omega
   obtain ⟨v',e,dy⟩:=hv.get _ v this
   refine ⟨al3.1 ho v (alS this),v',?_,dy⟩
   rw [List.getElem?_toArray,List.append_assoc,List.getElem?_append_right (by simp;omega),al0 (by simp;omega),←e]
   congr 1
   simp
   omega
  ·have:c[j]?=some v:=by
    rw [List.getElem?_append_right (by simp;omega)]at hj
    rw [List.getElem?_drop]at hj
    rw [←hj]
    congr 1
    simp
    omega
   obtain ⟨o1,v',e,dy⟩:=h j v this
   refine ⟨o1,v',?_,dy⟩
   rw [List.getElem?_toArray,List.getElem?_append_right (by simp;omega),List.getElem?_drop]
   have:arr.toList[s+j]?=some v':=by simpa using e
   rw [←this]
   congr 1
   simp
   omega
theorem Cz {a:Addr} {vs iV:List Value} {x':Value} {H':AH} (R:Rel w0 φ H w) (hx:V φ (.pointer (some a)) x') (h:H.st a vs=some H') (hv:VL φ vs iV) (ho:vs.all one=true):
 ∃a' w',x'= .pointer (some a')∧(storeCells a' iV).run P w= .ok () w'∧Rel w0 φ H' w'∧Grow φ H w φ H' w':=by
 obtain ⟨l,hs,hl,rfl⟩:=V.uM hx
 obtain ⟨b,o,s⟩:=a
 dsimp only at hs hl⊢
 subst hs
 unfold AH.st at h
 dsimp only at h
 cases hb:H.get b with
 |none=>simp [hb]at h
 |some aN=>
  cases aN with
  |map es=>simp [hb]at h
  |cells z c=>
   simp only [hb,R.n0]at h
   cases hc:(decide (φ.n0≤b)&&decide (o+vs.length≤c.length))with
   |false=>simp [hc]at h
   |true=>
    simp only [hc,cond_true,alO]at h
    subst h
    simp at hc
    obtain ⟨g1,g2,g3,arr,e,g4,g5,g6,g7⟩:=R.cells b l z c hc.1 hl (AH.fO hb)
    have hlen:=hv.length
    have gE:=run_storeCells_at P l.c (o+l.s) e iV 0 arr w g4 (by rw [←hlen];omega) (hv.one ho)
    simp only [Nat.add_zero]at gE
    refine ⟨_,_,rfl,gE,?_⟩
    refine R.write hc.1 hl hb (arr':=(arr.toList.take (o+l.s)++iV++arr.toList.drop (o+l.s+iV.length)).toArray) (e:=e) (setRow_heap w l.c arr _ e (0,0) g4) (fun k hk=>setRow_other w l.c k _ hk) (setRow_size _ _ _) rfl rfl rfl ?_ ?_ ?_ g7
    ·simp;omega
    ·rw [rI hc.2];exact g3
    ·have:=AJ g6 (by omega) hv ho hc.2
     rwa [Nat.add_comm l.s o]at this
end
end Go.Proofs.YtppcmpmnglaleaaGreatDoor.A
