/- Texts that stand one behind the other: Abs3, Abs4. -/
import Derived.Test.YtppcmpmnglaleaaGreatDoorG2
import Derived.Deep.AppendSrc
import Derived.Laws.MakeOwn
set_option linter.unusedVariables false
set_option linter.unusedSimpArgs false
namespace Go.Proofs.YtppcmpmnglaleaaGreatDoor.A
open Go Go.RowKit
theorem add_lit (c o j:Nat):(⟨c,o,none⟩:Addr).add j=⟨c,o+j,none⟩:=by unfold Addr.add;split<;>simp_all
theorem BR {w0 w:World} {φ:bZ} {H:AH} (R:Rel w0 φ H w) {v x:Value} (h:bo φ.n0 v=some x):one x=true∧V φ x v:=by
 cases v with
 |pointer a=>
  cases a with
  |none=>simp [bo,flat]at h;subst h;exact ⟨rfl,.same rfl⟩
  |some a=>
   obtain ⟨b,o,s⟩:=a
   simp only [bo]at h
   cases hb:(decide (b<φ.n0)&&s.isNone)with
   |false=>simp [hb]at h
   |true=>
    simp [hb]at h
    subst h
    simp at hb
    obtain ⟨hb,rfl⟩:=hb
    have hm:=R.kh b hb
    exact ⟨rfl,.ptr (l:=⟨b,0,0,1⟩) hm⟩
 |slice a n c=>
  cases a with
  |none=>simp [bo,flat]at h;subst h;exact ⟨rfl,.same rfl⟩
  |some a=>
   obtain ⟨b,o,s⟩:=a
   simp only [bo]at h
   cases hb:(decide (b<φ.n0)&&s.isNone)with
   |false=>
    simp [hb,nb,Bool.cond_decide]at h
    obtain ⟨rfl,rfl⟩:=h
    exact ⟨rfl,.dead⟩
   |true=>
    simp [hb]at h
    subst h
    simp at hb
    obtain ⟨hb,rfl⟩:=hb
    have hm:=R.kh b hb
    exact ⟨rfl,.sl (l:=⟨b,0,0,1⟩) hm (asp _) id (.inl rfl)⟩
 |map r=>cases r<;>simp [bo,flat]at h;subst h;exact ⟨rfl,.same rfl⟩
 |chan r=>cases r<;>simp [bo,flat]at h;subst h;exact ⟨rfl,.same rfl⟩
 |bool b=>simp [bo,flat]at h;subst h;exact ⟨rfl,.same rfl⟩
 |int k n=>simp [bo,flat]at h;subst h;exact ⟨rfl,.same rfl⟩
 |float k n=>simp [bo,flat]at h;subst h;exact ⟨rfl,.same rfl⟩
 |complex k n m=>simp [bo,flat]at h;subst h;exact ⟨rfl,.same rfl⟩
 |string s=>simp [bo,flat]at h;subst h;exact ⟨rfl,.same rfl⟩
 |nilFunc=>simp [bo,flat]at h;subst h;exact ⟨rfl,.same rfl⟩
 |nilIface=>simp [bo,flat]at h;subst h;exact ⟨rfl,.same rfl⟩
 |func f a b=>simp [bo,flat]at h
 |iface t v=>simp [bo,flat]at h
 |agg c=>simp [bo,flat]at h
 |tuple c=>simp [bo,flat]at h
theorem px {w0 w:World} {φ:bZ} {H:AH} (R:Rel w0 φ H w):∀{l m:List Value},aT φ.n0 l=some m→m.all one=true∧VL φ m l
 |[],m,h=>by simp [aT]at h;subst h;exact ⟨rfl,.nil⟩
 |v::l,m,h=>by
  simp only [aT]at h
  cases hv:bo φ.n0 v with
  |none=>simp [hv]at h
  |some x=>
   cases hl:aT φ.n0 l with
   |none=>simp [hv,hl]at h
   |some k=>
    simp [hv,hl]at h
    subst h
    obtain ⟨a,b⟩:=BR R hv
    obtain ⟨c,d⟩:=px R hl
    exact ⟨by simp [a,c],.cons b d⟩
theorem Rel.ld {w0 w:World} {φ:bZ} {H:AH} (R:Rel w0 φ H w) {a:Addr} {v:Value} {l:Loc} (h:H.ld a=some v) (hl:φ.m a.block=some l):
 a.spot=none∧one v=true∧∃v',w.cell? ⟨l.c,a.off+l.s,none⟩=some v'∧V φ v v':=by
 obtain ⟨b,o,s⟩:=a
 unfold AH.ld at h
 cases s with
 |some s=>simp at h
 |none=>
  refine ⟨rfl,?_⟩
  dsimp only at h hl⊢
  cases hb:H.get b with
  |none=>simp [hb]at h
  |some aX=>
   cases aX with
   |map es=>simp [hb]at h
   |cells z c=>
    simp only [hb]at h
    cases hv:c[o]?with
    |none=>simp [hv]at h
    |some u=>
     simp only [hv,R.n0]at h
     by_cases c8:b<φ.n0
     ·simp [c8]at h
      obtain ⟨h1,h2⟩:=BR R h
      refine ⟨h1,u,?_,h2⟩
      have hm:=R.kh b c8
      rw [hm]at hl
      cases hl
      obtain ⟨e,fz,hw⟩:=R.ma b z c c8 (AH.jj hb)
      simp [World.cell?,hw,hv]
     ·simp [c8]at h
      subst h
      obtain ⟨h1,h2,h3,arr,e,h4,h5,h6,_⟩:=R.cells b l z c (by omega) hl (AH.jj hb)
      obtain ⟨h7,v',h8,h9⟩:=h6 o u hv
      refine ⟨h7,v',?_,h9⟩
      rw [Nat.add_comm]at h8
      simp [World.cell?,h4,h8]
theorem Rel.ldn {w0 w:World} {φ:bZ} {H:AH} (R:Rel w0 φ H w) {a:Addr} {n:Nat} {vs:List Value} {l:Loc} (h:H.ldn a n=some vs) (hl:φ.m a.block=some l):
 a.spot=none∧vs.all one=true∧vs.length=n∧∃kS,kS.length=n∧VL φ vs kS∧∀j v',kS[j]?=some v'→w.cell? ((⟨l.c,a.off+l.s,none⟩:Addr).add j)=some v':=by
 obtain ⟨b,o,s⟩:=a
 unfold AH.ldn at h
 cases s with
 |some s=>simp at h
 |none=>
  refine ⟨rfl,?_⟩
  dsimp only at h hl⊢
  cases hb:H.get b with
  |none=>simp [hb]at h
  |some aX=>
   cases aX with
   |map es=>simp [hb]at h
   |cells z c=>
    simp only [hb,Bool.cond_decide,R.n0]at h
    split at h
    case isFalse=>cases h
    rename_i hn
    by_cases c8:b<φ.n0
    ·rw [if_pos c8]at h
     obtain ⟨h1,h2⟩:=px R h
     have hlen:((c.drop o).take n).length=n:=by simp;omega
     refine ⟨h1,by rw [h2.length,hlen],_,hlen,h2,?_⟩
     intro j v' hj
     have hm:=R.kh b c8
     rw [hm]at hl
     cases hl
     obtain ⟨e,fz,hw⟩:=R.ma b z c c8 (AH.jj hb)
     have py:j<n:=by
      have:=(asr.1 hj).1
      omega
     rw [add_lit]
     simp [World.cell?,hw]
     simpa [List.getElem?_take,py,List.getElem?_drop]using hj
    ·rw [if_neg c8]at h
     cases h
     obtain ⟨h1,h2,h3,arr,e,h4,h5,h6,_⟩:=R.cells b l z c (by omega) hl (AH.jj hb)
     have hlen:((c.drop o).take n).length=n:=by simp;omega
     have jv:∀j v,((c.drop o).take n)[j]?=some v→one v=true∧∃v',arr[l.s+(o+j)]?=some v'∧V φ v v':=by
      intro j v hj
      have py:j<n:=by
       have:=(asr.1 hj).1
       omega
      exact h6 (o+j) v (by simpa [List.getElem?_take,py,List.getElem?_drop]using hj)
     refine ⟨?_,hlen,(arr.toList.drop (l.s+o)).take n,?_,?_,?_⟩
     ·rw [asB]
      intro x hx
      obtain ⟨j,hj⟩:=List.getElem?_of_mem hx
      exact (jv j x hj).1
     ·simp;omega
     ·refine VL.Gd (by simp;omega) ?_
      intro j v hj
      obtain ⟨_,v',e1,e2⟩:=jv j v hj
      refine ⟨v',?_,e2⟩
      have py:j<n:=by
       have:=(asr.1 hj).1
       omega
      simpa [List.getElem?_take,py,List.getElem?_drop,Nat.add_assoc]using e1
     ·intro j v' hj
      have py:j<n:=by
       have:=(asr.1 hj).1
       simp at this
       omega
      rw [add_lit]
      simp [World.cell?,h4]
      have:arr[l.s+o+j]?=some v':=by simpa [List.getElem?_take,py,List.getElem?_drop]using hj
      rw [←this]
      congr 1
      omega
theorem Rel.drew {w0 w w':World} {φ:bZ} {H:AH} (R:Rel w0 φ H w) (hh:w'.heap=w.heap) (ho:w'.os=w.os) (ht:w'.tape=w.tape) (hp:w'.output=w.output):Rel w0 φ H w' where
 n0:=R.n0
 rR:=R.rR
 r5:=R.r5
 c0:=R.c0
 below:=⟨ho.trans R.below.os,ht.trans R.below.tape,hp.trans R.below.output,by rw [hh];exact R.below.size,fun k hk=>by rw [hh];exact R.below.block k hk⟩
 kh:=R.kh
 ma:=by rw [hh];exact R.ma
 cells:=by rw [hh];exact R.cells
 maps:=by rw [hh];exact R.maps
 inj:=R.inj
 qn:=fun b s e=>by
  obtain ⟨h1,h2,l,h3,h4,h5⟩:=R.qn b s e
  exact ⟨h1,h2,l,h3,h4,h5.uM rfl (fun k _ _=>by rw [hh]) fun b l a1 a2 a3=>.inl ⟨a1,a2,a3⟩⟩
theorem Grow.of_heap {φ:bZ} {H:AH} {w w':World} (hh:w'.heap=w.heap):Grow φ H w φ H w':=
 ⟨bZ.le_refl _,rfl,rfl,asp _,fun _ _ h k=>(by rw [h]at k;cases k),by rw [hh];exact asp _⟩
theorem Rel.new {w0 w w':World} {φ:bZ} {H:AH} (R:Rel w0 φ H w) (h0:φ.m H.nx=none) {z:Nat} {cs:List Value} {arr:Array Value} {e:TypeId} (hh:w'.heap=w.heap.push (.cells arr e (0,0))) (ho:w'.os=w.os) (ht:w'.tape=w.tape) (hp:w'.output=w.output)
 (hn:cs.length≤arr.size) (hc:CR φ 0 cs arr) (he:e≠BY):
 Rel w0 (φ.add H.nx ⟨w.heap.size,0,arr.size,z⟩) (H.alloc (.cells z cs)) w'∧Grow φ H w (φ.add H.nx ⟨w.heap.size,0,arr.size,z⟩) (H.alloc (.cells z cs)) w':=by
 have hle:φ.le (φ.add H.nx ⟨w.heap.size,0,arr.size,z⟩):=bZ.vV h0
 have iu:w0.heap.size≤w.heap.size:=R.below.size
 have jv:∀k,k<w.heap.size→w'.heap[k]?=w.heap[k]?:=fun k hk=>by rw [hh,Array.getElem?_push,if_neg (by omega)]
 have old:∀b l,φ.n0≤b→φ.m b=some l→(H.raw b).isSome=true→l.c<w.heap.size:=by
  intro b l hb hl hs
  cases hg:H.raw b with
  |none=>simp [hg]at hs
  |some aX=>
   cases aX with
   |cells z' c=>
    obtain ⟨_,_,_,a,e',h4,_⟩:=R.cells b l z' c hb hl hg
    exact (asz.1 h4).1
   |map es=>
    obtain ⟨_,a,e',h4,_⟩:=R.maps b l es hb hl hg
    exact (asz.1 h4).1
 refine ⟨?_,?_⟩
 ·refine ⟨R.n0,R.rR,by rw [AH.eu];have:=R.r5;exact Nat.le_succ_of_le this,R.c0,?_,?_,?_,?_,?_,?_,?_⟩
  ·refine ⟨ho.trans R.below.os,ht.trans R.below.tape,hp.trans R.below.output,?_,fun k hk=>?_⟩
   ·rw [hh,Array.size_push];omega
   ·rw [jv k (by omega)];exact R.below.block k hk
  ·intro b hb
   exact hle _ _ (R.kh b hb)
  ·intro b z' c hb hg
   have mi:b<φ.n0:=hb
   rw [AH.cU,if_neg (by have:=R.r5;omega)]at hg
   obtain ⟨e',fz,hw⟩:=R.ma b z' c hb hg
   exact ⟨e',fz,by rw [jv b (by have:=R.rR;have:=R.c0;omega)];exact hw⟩
  ·intro b l z' c hb hl hg
   rw [AH.cU]at hg
   simp only [bZ.add]at hl
   by_cases Af:b=H.nx
   ·rw [if_pos Af]at hg hl
    cases hg
    cases hl
    refine ⟨by show φ.c0≤w.heap.size;rw [R.c0];exact iu,rfl,by simpa using hn,arr,e,?_,rfl,hc.mono hle,he⟩
    rw [hh]
    simp
   ·rw [if_neg Af]at hg hl
    obtain ⟨h1,h2,h3,a,e',h4,h5,h6,h7⟩:=R.cells b l z' c hb hl hg
    exact ⟨h1,h2,h3,a,e',by rw [jv _ (asz.1 h4).1];exact h4,h5,h6.mono hle,h7⟩
  ·intro b l es hb hl hg
   rw [AH.cU]at hg
   simp only [bZ.add]at hl
   by_cases Af:b=H.nx
   ·rw [if_pos Af]at hg
    cases hg
   ·rw [if_neg Af]at hg hl
    obtain ⟨h1,a,e',h4,h5⟩:=R.maps b l es hb hl hg
    exact ⟨h1,a,e',by rw [jv _ (asz.1 h4).1];exact h4,h5.mono hle⟩
  ·intro b1 b2 l1 l2 mj iL h1 h2 g1 g2 mr
   rw [AH.cU]at g1 g2
   simp only [bZ.add]at h1 h2
   by_cases e1:b1=H.nx<;>by_cases e2:b2=H.nx
   ·rw [e1,e2]
   ·rw [if_pos e1]at h1
    rw [if_neg e2]at h2 g2
    cases h1
    have:=old b2 l2 iL h2 g2
    simp at mr
    omega
   ·rw [if_neg e1]at h1 g1
    rw [if_pos e2]at h2
    cases h2
    have:=old b1 l1 mj h1 g1
    simp at mr
    omega
   ·rw [if_neg e1]at h1 g1
    rw [if_neg e2]at h2 g2
    exact R.inj b1 b2 l1 l2 mj iL h1 h2 g1 g2 mr
  ·intro b s eb
   obtain ⟨h1,h2,l,h3,h4,h5⟩:=R.qn b s eb
   have gF:b≠H.nx:=by rintro rfl;rw [h0]at h3;cases h3
   refine ⟨h1,by rw [AH.cU,if_neg gF];exact h2,l,hle _ _ h3,h4,h5.uM rfl (fun k hk _=>jv k hk) fun b' l' a1 a2 a3=>?_⟩
   rw [AH.cU]at a3
   simp only [bZ.add]at a2
   by_cases mi:b'=H.nx
   ·rw [if_pos mi]at a2
    cases a2
    exact .inr (.inl (asp _))
   ·rw [if_neg mi]at a2 a3
    exact .inl ⟨a1,a2,a3⟩
 ·refine ⟨hle,rfl,rfl,by rw [AH.eu];exact Nat.le_succ _,?_,by rw [hh,Array.size_push];exact Nat.le_succ _⟩
  ·intro b l h k
   simp only [bZ.add]at k
   split at k
   ·rename_i hb;subst hb;exact ⟨asp _,by rw [AH.eu];exact asA _⟩
   ·rw [h]at k;cases k
theorem Rel.write {w0 w w':World} {φ:bZ} {H:AH} (R:Rel w0 φ H w) {b z:Nat} {c c':List Value} {l:Loc} {arr':Array Value} {e:TypeId} (hb:φ.n0≤b) (hl:φ.m b=some l) (hg:H.get b=some (.cells z c))
 (hw:w'.heap[l.c]?=some (.cells arr' e (0,0))) (hk:∀k,k≠l.c→w'.heap[k]?=w.heap[k]?) (hs:w'.heap.size=w.heap.size) (ho:w'.os=w.os) (ht:w'.tape=w.tape) (hp:w'.output=w.output)
 (ha:arr'.size=l.n) (hn:l.s+c'.length≤l.n) (hc:CR φ l.s c' arr') (he:e≠BY):
 Rel w0 φ (H.put b (some (.cells z c'))) w'∧Grow φ H w φ (H.put b (some (.cells z c'))) w':=by
 have hg:=AH.jj hg
 obtain ⟨g1,g2,g3,arr,e0,g4,g5,g6,g7⟩:=R.cells b l z c hb hl hg
 refine ⟨⟨R.n0,R.rR,R.r5,R.c0,?_,R.kh,?_,?_,?_,?_,?_⟩,?_⟩
 ·refine ⟨ho.trans R.below.os,ht.trans R.below.tape,hp.trans R.below.output,by rw [hs];exact R.below.size,fun k h=>?_⟩
  rw [hk k (by have:=R.c0;omega)]
  exact R.below.block k h
 ·intro x z' d hx hY
  rw [AH.db,if_neg (by omega)]at hY
  obtain ⟨e',fz,hh⟩:=R.ma x z' d hx hY
  refine ⟨e',fz,?_⟩
  rw [hk x (by have:=R.rR;omega)]
  exact hh
 ·intro x lx z' d hx jw hY
  rw [AH.db]at hY
  by_cases kJ:x=b
  ·subst kJ
   rw [if_pos rfl]at hY
   cases hY
   rw [hl]at jw
   cases jw
   exact ⟨g1,g2,hn,arr',e,hw,ha,hc,he⟩
  ·rw [if_neg kJ]at hY
   obtain ⟨h1,h2,h3,a,e',h4,h5,h6,h7⟩:=R.cells x lx z' d hx jw hY
   refine ⟨h1,h2,h3,a,e',?_,h5,h6,h7⟩
   rw [hk]
   ·exact h4
   ·intro hc
    exact kJ (R.inj x b lx l hx hb jw hl (by simp [hY]) (by simp [hg]) hc)
 ·intro x lx es hx jw hY
  rw [AH.db]at hY
  by_cases kJ:x=b
  ·rw [if_pos kJ]at hY;cases hY
  ·rw [if_neg kJ]at hY
   obtain ⟨h1,a,e',h4,h5⟩:=R.maps x lx es hx jw hY
   refine ⟨h1,a,e',?_,h5⟩
   rw [hk]
   ·exact h4
   ·intro hc
    exact kJ (R.inj x b lx l hx hb jw hl (by simp [hY]) (by simp [hg]) hc)
 ·intro b1 b2 l1 l2 mj iL h1 h2 s1 s2 mr
  have live:∀x,((H.put b (some (.cells z c'))).raw x).isSome=true→(H.raw x).isSome=true:=by
   intro x hx
   rw [AH.db]at hx
   by_cases kJ:x=b
   ·subst kJ;simp [hg]
   ·rw [if_neg kJ]at hx;exact hx
  exact R.inj b1 b2 l1 l2 mj iL h1 h2 (live _ s1) (live _ s2) mr
 ·intro x s eb
  obtain ⟨h1,h2,lx,h3,h4,h5⟩:=R.qn x s eb
  have gF:x≠b:=by rintro rfl;rw [hg]at h2;cases h2
  obtain ⟨k1,k2⟩:=h5.apart b l hb hl (by simp [hg])
  refine ⟨h1,by rw [AH.db,if_neg gF];exact h2,lx,h3,h4,h5.uM rfl (fun k _ Qw=>hk k ?_) fun b' l' a1 a2 a3=>.inl ⟨a1,a2,?_⟩⟩
  ·rcases Qw with rfl|⟨v,hv,zK⟩
   ·exact fun e=>k1 e.symm
   ·exact fun e=>k2 v hv (e▸zK)
  ·rw [AH.db]at a3
   by_cases kJ:b'=b
   ·subst kJ;simp [hg]
   ·rw [if_neg kJ]at a3;exact a3
 ·exact ⟨bZ.le_refl _,rfl,rfl,asp _,fun _ _ h k=>(by rw [h]at k;cases k),by rw [hs];exact asp _⟩
theorem Rel.move {w0 w w':World} {φ:bZ} {H:AH} (R:Rel w0 φ H w) (h0:φ.m H.nx=none) {b z s2 z2:Nat} {c c2:List Value} {l:Loc} {arr':Array Value} {e:TypeId} (hb:φ.n0≤b) (hl:φ.m b=some l) (hg:H.get b=some (.cells z c))
 (hw:w'.heap[l.c]?=some (.cells arr' e (0,0))) (hk:∀k,k≠l.c→w'.heap[k]?=w.heap[k]?) (hs:w'.heap.size=w.heap.size) (ho:w'.os=w.os) (ht:w'.tape=w.tape) (hp:w'.output=w.output)
 (ha:arr'.size=l.n) (hn:s2+c2.length≤l.n) (hc:CR φ s2 c2 arr') (he:e≠BY):
 Rel w0 (φ.add H.nx ⟨l.c,s2,l.n,z2⟩) ((H.put b none).alloc (.cells z2 c2)) w'∧Grow φ H w (φ.add H.nx ⟨l.c,s2,l.n,z2⟩) ((H.put b none).alloc (.cells z2 c2)) w':=by
 have Af:b<H.nx:=AH.a8 hg
 have hg:=AH.jj hg
 obtain ⟨g1,g2,g3,arr,e0,g4,g5,g6,g7⟩:=R.cells b l z c hb hl hg
 have hle:φ.le (φ.add H.nx ⟨l.c,s2,l.n,z2⟩):=bZ.vV h0
 have get:∀x,((H.put b none).alloc (.cells z2 c2)).raw x=if x=H.nx then some (.cells z2 c2)else if x=b then none else H.raw x:=by
  intro x
  rw [AH.cU,AH.db,AH.F7]
 have other:∀x lx,φ.n0≤x→φ.m x=some lx→(H.raw x).isSome=true→x≠b→lx.c≠l.c:=fun x lx hx jw hs gF hc=>gF (R.inj x b lx l hx hb jw hl hs (by simp [hg]) hc)
 refine ⟨⟨R.n0,R.rR,by show φ.n0≤H.nx+1;have:=R.r5;omega,R.c0,?_,?_,?_,?_,?_,?_,?_⟩,?_⟩
 ·refine ⟨ho.trans R.below.os,ht.trans R.below.tape,hp.trans R.below.output,by rw [hs];exact R.below.size,fun k h=>?_⟩
  rw [hk k (by have:=R.c0;omega)]
  exact R.below.block k h
 ·intro x hx
  exact hle _ _ (R.kh x hx)
 ·intro x z' d hx hY
  have Us:x<φ.n0:=hx
  rw [get,if_neg (by have:=R.r5;omega),if_neg (by omega)]at hY
  obtain ⟨e',fz,hh⟩:=R.ma x z' d hx hY
  refine ⟨e',fz,?_⟩
  rw [hk x (by have:=R.rR;omega)]
  exact hh
 ·intro x lx z' d hx jw hY
  rw [get]at hY
  simp only [bZ.add]at jw
  by_cases VM:x=H.nx
  ·rw [if_pos VM]at hY jw
   cases hY
   cases jw
   exact ⟨g1,rfl,hn,arr',e,hw,ha,hc.mono hle,he⟩
  ·rw [if_neg VM]at hY jw
   by_cases kJ:x=b
   ·rw [if_pos kJ]at hY;cases hY
   ·rw [if_neg kJ]at hY
    obtain ⟨h1,h2,h3,a,e',h4,h5,h6,h7⟩:=R.cells x lx z' d hx jw hY
    refine ⟨h1,h2,h3,a,e',?_,h5,h6.mono hle,h7⟩
    rw [hk _ (other x lx hx jw (by simp [hY]) kJ)]
    exact h4
 ·intro x lx es hx jw hY
  rw [get]at hY
  simp only [bZ.add]at jw
  by_cases VM:x=H.nx
  ·rw [if_pos VM]at hY;cases hY
  ·rw [if_neg VM]at hY jw
   by_cases kJ:x=b
   ·rw [if_pos kJ]at hY;cases hY
   ·rw [if_neg kJ]at hY
    obtain ⟨h1,a,e',h4,h5⟩:=R.maps x lx es hx jw hY
    refine ⟨h1,a,e',?_,h5.mono hle⟩
    rw [hk _ (other x lx hx jw (by simp [hY]) kJ)]
    exact h4
 ·intro b1 b2 l1 l2 mj iL h1 h2 s1 s2 mr
  rw [get]at s1 s2
  simp only [bZ.add]at h1 h2
  by_cases e1:b1=H.nx<;>by_cases e2:b2=H.nx
  ·rw [e1,e2]
  ·rw [if_pos e1]at h1
   rw [if_neg e2]at h2 s2
   cases h1
   by_cases kJ:b2=b
   ·rw [if_pos kJ]at s2;cases s2
   ·rw [if_neg kJ]at s2
    exact absurd mr.symm (other b2 l2 iL h2 s2 kJ)
  ·rw [if_neg e1]at h1 s1
   rw [if_pos e2]at h2
   cases h2
   by_cases kJ:b1=b
   ·rw [if_pos kJ]at s1;cases s1
   ·rw [if_neg kJ]at s1
    exact absurd mr (other b1 l1 mj h1 s1 kJ)
  ·rw [if_neg e1]at h1 s1
   rw [if_neg e2]at h2 s2
   by_cases Gi:b1=b
   ·rw [if_pos Gi]at s1;cases s1
   ·by_cases zL:b2=b
    ·rw [if_pos zL]at s2;cases s2
    ·rw [if_neg Gi]at s1
     rw [if_neg zL]at s2
     exact R.inj b1 b2 l1 l2 mj iL h1 h2 s1 s2 mr
 ·intro x s eb
  obtain ⟨h1,h2,lx,h3,h4,h5⟩:=R.qn x s eb
  have gF:x≠b:=by rintro rfl;rw [hg]at h2;cases h2
  have ac7:x≠H.nx:=by rintro rfl;rw [h0]at h3;cases h3
  obtain ⟨k1,k2⟩:=h5.apart b l hb hl (by simp [hg])
  refine ⟨h1,by rw [get,if_neg ac7,if_neg gF];exact h2,lx,hle _ _ h3,h4,h5.uM rfl (fun k _ Qw=>hk k ?_) fun b' l' a1 a2 a3=>?_⟩
  ·rcases Qw with rfl|⟨v,hv,zK⟩
   ·exact fun e=>k1 e.symm
   ·exact fun e=>k2 v hv (e▸zK)
  ·rw [get]at a3
   simp only [bZ.add]at a2
   by_cases mi:b'=H.nx
   ·rw [if_pos mi]at a2
    cases a2
    exact .inr (.inr ⟨b,l,hb,hl,by simp [hg],rfl⟩)
   ·rw [if_neg mi]at a2 a3
    by_cases iL:b'=b
    ·rw [if_pos iL]at a3;cases a3
    ·rw [if_neg iL]at a3
     exact .inl ⟨a1,a2,a3⟩
 ·refine ⟨hle,rfl,rfl,by show H.nx≤H.nx+1;omega,?_,by rw [hs];exact asp _⟩
  ·intro x lx h k
   simp only [bZ.add]at k
   split at k
   ·rename_i hb;subst hb;exact ⟨asp _,asA _⟩
   ·rw [h]at k;cases k
theorem Rel.kill {w0 w:World} {φ:bZ} {H:AH} (R:Rel w0 φ H w) {b:Nat} (hb:φ.n0≤b):Rel w0 φ (H.put b none) w where
 n0:=R.n0
 rR:=R.rR
 r5:=R.r5
 c0:=R.c0
 below:=R.below
 kh:=R.kh
 ma:=fun x z c hx hg=>by rw [AH.db,if_neg (by omega)]at hg;exact R.ma x z c hx hg
 cells:=fun x l z c hx hl hg=>by
  rw [AH.db]at hg
  split at hg
  ·cases hg
  ·exact R.cells x l z c hx hl hg
 maps:=fun x l es hx hl hg=>by
  rw [AH.db]at hg
  split at hg
  ·cases hg
  ·exact R.maps x l es hx hl hg
 inj:=fun b1 b2 l1 l2 mj iL h1 h2 s1 s2 hc=>by
  rw [AH.db]at s1 s2
  split at s1
  ·cases s1
  ·split at s2
   ·cases s2
   ·exact R.inj b1 b2 l1 l2 mj iL h1 h2 s1 s2 hc
 qn:=fun x s eb=>by
  obtain ⟨h1,h2,lx,h3,h4,h5⟩:=R.qn x s eb
  refine ⟨h1,by rw [AH.db];split<;>first|rfl|exact h2,lx,h3,h4,h5.uM rfl (fun k _ _=>rfl) fun b' l' a1 a2 a3=>.inl ⟨a1,a2,?_⟩⟩
  rw [AH.db]at a3
  split at a3
  ·cases a3
  ·exact a3
theorem Grow.same {φ dT:bZ} {H H1 H' H1':AH} {w w':World} (h:Grow φ H w dT H' w') (e:H1.nx=H.nx) (e':H1'.nx=H'.nx):Grow φ H1 w dT H1' w':=
 ⟨h.le,h.n0,h.c0,by rw [e,e'];exact h.nx,by rw [e,e'];exact h.new,h.size⟩
open Go Go.RowKit
def mu (φ:bZ) (fr:Fr) (a:Act):Prop:=∀t,V φ (fr.get t) (a.tmps.getD t undef)
theorem mu.mono {φ ψ:bZ} (h:φ.le ψ) {fr:Fr} {a:Act} (F:mu φ fr a):mu ψ fr a:=fun t=>(F t).mono h
theorem sL (φ:bZ):V φ undef undef:=.tuple .nil
theorem mu.put {φ:bZ} {fr:Fr} {a:Act} (F:mu φ fr a) {d:Nat} {v v':Value} (hd:d<a.tmps.size) (h:V φ v v'):mu φ (fr.put d v) (a.put (some d) v'):=by
 intro t
 rw [Fr.bV]
 simp only [Act.put]
 by_cases ht:t=d
 ·subst ht;simp [hd,h]
 ·rw [if_neg ht]
  have:(a.tmps.setIfInBounds d v').getD t undef=a.tmps.getD t undef:=by
   simp [Array.getElem?_setIfInBounds_ne (Ne.symm ht)]
  rw [this]
  exact F t
theorem mu.aU {φ:bZ} {fr:Fr} {a:Act} (F:mu φ fr a) {d:Option Nat} {v v':Value} (hd:∀n,d=some n→n<a.tmps.size) (h:V φ v v'):mu φ (fr.aU d v) (a.put d v'):=by
 cases d with
 |none=>exact F
 |some n=>exact F.put (hd n rfl) h
theorem dK {φ:bZ} {fr:Fr} {a:Act} (F:mu φ fr a) {x:Operand} {y:X} (h:cX x=some y):V φ (y.ev fr) (a.eval x):=by
 cases x with
 |tmp t=>simp [cX]at h;subst h;exact F t
 |const v=>
  simp only [cX]at h
  split at h
  ·rename_i hv;cases h;exact V.xN hv
  ·cases h
 |global g=>simp [cX]at h
 |func f=>simp [cX]at h;subst h;exact .fn .nil .nil
theorem oE {φ:bZ} {fr:Fr} {a:Act} (F:mu φ fr a):∀{l:List Operand} {ys:List X},DS l=some ys→VL φ (ys.map (X.ev fr)) (l.map a.eval)
 |[],ys,h=>by simp [DS]at h;subst h;exact .nil
 |x::l,ys,h=>by
  simp only [DS]at h
  cases hx:cX x with
  |none=>simp [hx]at h
  |some y=>
   cases hl:DS l with
   |none=>simp [hx,hl]at h
   |some m=>
    simp [hx,hl]at h
    subst h
    exact .cons (dK F hx) (oE F hl)
def NR (φ:bZ):jN→Next→Prop
 | .v x,nx=>(∃x',nx= .value x'∧V φ x x')∨(nx= .skip∧x=undef)
 | .enter f as,nx=>∃as':Array Value,nx= .enter f as'∧VL φ as as'.toList
def iv (w0:World) (φ:bZ) (H:AH) (w:World) (res:jN) (H':AH) (r:Result Next):Prop:=
 ∃dT w' nx,r= .ok nx w'∧Rel w0 dT H' w'∧Grow φ H w dT H' w'∧NR dT res nx
section
variable{P:Program} {w0 w:World} {φ:bZ} {H:AH}
theorem iv.pure {x:Value} {x':Value} {r:Result Next} (R:Rel w0 φ H w) (h:V φ x x') (hr:r= .ok (.value x') w):iv w0 φ H w (.v x) H r:=
 ⟨φ,w,_,hr,R,Grow.refl _ _ _,.inl ⟨x',rfl,h⟩⟩
theorem cW {t:TypeId} {n:Nat} (h:ew P t=some n) (w:World):(sizeOf t).run P w= .ok n w:=by
 unfold ew at h
 cases hi:P.info? t with
 |none=>simp [hi]at h
 |some i=>simp [hi]at h;subst h;simp [sizeOf,typeInfo,hi]
theorem kT {t:TypeId} {b:Bool} (h:Aa P t=some b) (w:World):(isAgg t).run P w= .ok b w:=by
 unfold Aa at h
 cases hu:P.underlying t with
 |none=>simp [hu]at h
 |some d=>
  cases d<;>simp [hu]at h<;>subst h<;>simp [isAgg,run_underlying hu]
theorem jE {t:TypeId} {l:List Value} (h:iT P t=some l):∃i z,P.info? t=some i∧i.zero=some z∧z.cells.toList=l∧l.all flat=true∧l.length=i.size:=by
 unfold iT at h
 cases hi:P.info? t with
 |none=>simp [hi]at h
 |some i=>
  rw [hi,Option.bind_some]at h
  cases hz:i.zero with
  |none=>rw [hz]at h;cases h
  |some z=>
   rw [hz,Option.bind_some]at h
   dsimp only at h
   split at h
   ·rename_i hc
    cases h
    simp at hc
    refine ⟨i,z,rfl,hz,rfl,?_,by simpa using hc.2⟩
    simpa using hc.1
   ·cases h
theorem pA {φ:bZ} {cs:List Value} {arr:Array Value} (h:VL φ cs arr.toList) (o:cs.all one=true):CR φ 0 cs arr:=by
 intro j v hj
 obtain ⟨v',e,hv⟩:=h.get j v hj
 refine ⟨asB.1 o v (asq hj),v',?_,hv⟩
 simpa using e
theorem BS {fr:Fr} {a:Act} (F:mu φ fr a) (R:Rel w0 φ H w) {x:Operand} {y:X} (h:cX x=some y) {res:jN} {H':AH} (hr:aA (.mv y) (X.ev fr) H=some (res,H')) {r:Result Next} (e:r= .ok (.value (a.eval x)) w):iv w0 φ H w res H' r:=by
 simp only [aA]at hr
 cases hr
 exact .pure R (dK F h) e
theorem Gj {t:TypeId} {z:List Value} (hz:iT P t=some z) (R:Rel w0 φ H w) (h0:φ.m H.nx=none) (ht:t≠BY):
 ∃i v,P.info? t=some i∧i.zero=some v∧iv w0 φ H w (.v (.pointer (some ⟨H.nx,0,none⟩))) (H.alloc (.cells z.length z)) (.ok (.value (.pointer (some ⟨w.heap.size,0,none⟩))) {w with heap:=w.heap.push (.cells v.cells t)}):=by
 obtain ⟨i,v,hi,hv,hc,hf,hl⟩:=jE hz
 refine ⟨i,v,hi,hv,?_⟩
 have e:CR φ 0 z v.cells:=pA (by rw [hc];exact VL.same hf) (fE hf)
 obtain ⟨R',G⟩:=R.new h0 (w':={w with heap:=w.heap.push (.cells v.cells t)}) (z:=z.length) (cs:=z) (arr:=v.cells) (e:=t) rfl rfl rfl rfl (by rw [←hc];simp) e ht
 refine ⟨_,_,_,rfl,R',G,.inl ⟨_,rfl,?_⟩⟩
 exact .ptr (l:=⟨w.heap.size,0,v.cells.size,z.length⟩) (by simp [bZ.add])
theorem Qx {v v':Value} (R:Rel w0 φ H w) (h0:φ.m H.nx=none) (h:V φ v v') (ht:cY v=false) (t:TypeId) (hb:t≠BY):
 iv w0 φ H w (.v (.pointer (some ⟨H.nx,0,none⟩))) (H.alloc (.cells (aZ v).length (aZ v))) (.ok (.value (.pointer (some ⟨w.heap.size,0,none⟩))) {w with heap:=w.heap.push (.cells v'.cells t)}):=by
 obtain ⟨R',G⟩:=R.new h0 (w':={w with heap:=w.heap.push (.cells v'.cells t)}) (z:=(aZ v).length) (cs:=aZ v) (arr:=v'.cells) (e:=t) rfl rfl rfl rfl (by rw [h.cells.length];simp) (pA h.cells (oD h ht)) hb
 refine ⟨_,_,_,rfl,R',G,.inl ⟨_,rfl,?_⟩⟩
 exact .ptr (l:=⟨w.heap.size,0,v'.cells.size,(aZ v).length⟩) (by simp [bZ.add])
theorem OV {a:Addr} {v x':Value} (R:Rel w0 φ H w) (hx:V φ (.pointer (some a)) x') (h:H.ld a=some v):
 ∃a' v',x'= .pointer (some a')∧w.cell? a'=some v'∧V φ v v':=by
 obtain ⟨l,hs,hl,rfl⟩:=V.xO hx
 obtain ⟨_,_,v',h1,h2⟩:=R.ld h hl
 exact ⟨_,v',rfl,h1,h2⟩
theorem Gk {a:Addr} {n:Nat} {vs:List Value} {x':Value} (R:Rel w0 φ H w) (hx:V φ (.pointer (some a)) x') (h:H.ldn a n=some vs):
 ∃a' kS,x'= .pointer (some a')∧kS.length=n∧vs.all one=true∧VL φ vs kS∧∀j v',kS[j]?=some v'→w.cell? (a'.add j)=some v':=by
 obtain ⟨l,hs,hl,rfl⟩:=V.xO hx
 obtain ⟨_,h1,h2,kS,h3,h4,h5⟩:=R.ldn h hl
 exact ⟨_,kS,rfl,h3,h1,h4,h5⟩
theorem iw:∀(c:List Value) (k:Nat) (vs:List Value),k+vs.length≤c.length→aP c k vs=c.take k++vs++c.drop (k+vs.length)
 |c,0,vs,h=>by cases c<;>simp [aP]
 |[],k+1,vs,h=>by simp at h
 |x::c,k+1,vs,h=>by
  simp only [aP,List.take_succ_cons,List.cons_append]
  rw [iw c k vs (by simp at h;omega),show k+1+vs.length=(k+vs.length)+1 by omega,List.drop_succ_cons]
theorem uN {c:List Value} {k:Nat} {vs:List Value} (h:k+vs.length≤c.length):(aP c k vs).length=c.length:=by
 rw [iw c k vs h];simp;omega
theorem DU {s o:Nat} {c vs kS:List Value} {arr:Array Value} (h:CR φ s c arr) (hs:s+c.length≤arr.size) (hv:VL φ vs kS) (ho:vs.all one=true) (hn:o+vs.length≤c.length):
 CR φ s (aP c o vs) (arr.toList.take (s+o)++kS++arr.toList.drop (s+o+kS.length)).toArray:=by
 have hl:=hv.length
 intro j v hj
 rw [iw c o vs hn]at hj
 by_cases h1:j<o
 ·have:c[j]?=some v:=by
   rw [List.append_assoc,asy (by simp;omega)]at hj
   rw [List.getElem?_take,if_pos h1]at hj
   exact hj
  obtain ⟨o1,v',e,cA⟩:=h j v this
  refine ⟨o1,v',?_,cA⟩
  rw [List.getElem?_toArray,List.append_assoc,asy (by simp;omega),List.getElem?_take,if_pos (by omega)]
  simpa using e
 ·by_cases h2:j<o+vs.length
  ·have:vs[j- o]?=some v:=by
    rw [List.append_assoc,List.getElem?_append_right (by simp;omega)]at hj
    rw [asy (by simp;omega)]at hj
    rw [←hj]
    congr 1
    simp
    omega
   obtain ⟨v',e,cA⟩:=hv.get _ v this
   refine ⟨asB.1 ho v (asq this),v',?_,cA⟩
   rw [List.getElem?_toArray,List.append_assoc,List.getElem?_append_right (by simp;omega),asy (by simp;omega),←e]
   congr 1
   simp
   omega
  ·have:c[j]?=some v:=by
    rw [List.getElem?_append_right (by simp;omega)]at hj
    rw [List.getElem?_drop]at hj
    rw [←hj]
    congr 1
    simp
    omega
   obtain ⟨o1,v',e,cA⟩:=h j v this
   refine ⟨o1,v',?_,cA⟩
   rw [List.getElem?_toArray,List.getElem?_append_right (by simp;omega),List.getElem?_drop]
   have:arr.toList[s+j]?=some v':=by simpa using e
   rw [←this]
   congr 1
   simp
   omega
theorem Gl {a:Addr} {vs kS:List Value} {x':Value} {H':AH} (R:Rel w0 φ H w) (hx:V φ (.pointer (some a)) x') (h:H.st a vs=some H') (hv:VL φ vs kS) (ho:vs.all one=true):
 ∃a' w',x'= .pointer (some a')∧(storeCells a' kS).run P w= .ok () w'∧Rel w0 φ H' w'∧Grow φ H w φ H' w':=by
 obtain ⟨l,hs,hl,rfl⟩:=V.xO hx
 obtain ⟨b,o,s⟩:=a
 dsimp only at hs hl⊢
 subst hs
 unfold AH.st at h
 dsimp only at h
 cases hb:H.get b with
 |none=>simp [hb]at h
 |some aX=>
  cases aX with
  |map es=>simp [hb]at h
  |cells z c=>
   simp only [hb,R.n0]at h
   cases hc:(decide (φ.n0≤b)&&decide (o+vs.length≤c.length))with
   |false=>simp [hc]at h
   |true=>
    simp only [hc,cond_true,asm]at h
    subst h
    simp at hc
    obtain ⟨g1,g2,g3,arr,e,g4,g5,g6,g7⟩:=R.cells b l z c hc.1 hl (AH.jj hb)
    have hlen:=hv.length
    have eT:=run_storeCells_at P l.c (o+l.s) e kS 0 arr w g4 (by rw [←hlen];omega) (hv.one ho)
    simp only [Nat.add_zero]at eT
    refine ⟨_,_,rfl,eT,?_⟩
    refine R.write hc.1 hl hb (arr':=(arr.toList.take (o+l.s)++kS++arr.toList.drop (o+l.s+kS.length)).toArray) (e:=e) (setRow_heap w l.c arr _ e (0,0) g4) (fun k hk=>setRow_other w l.c k _ hk) (setRow_size _ _ _) rfl rfl rfl ?_ ?_ ?_ g7
    ·simp;omega
    ·rw [uN hc.2];exact g3
    ·have:=DU g6 (by omega) hv ho hc.2
     rwa [Nat.add_comm l.s o]at this
end
end Go.Proofs.YtppcmpmnglaleaaGreatDoor.A
