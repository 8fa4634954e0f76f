/- Texts that stand one behind the other: Abs3, Abs4. -/
import Derived.Test.YtoijnpfpjpefgaaGreatG2
import Derived.Deep.AppendSrc
import Derived.Laws.MakeOwn
/- A text without what this claim does not need: Abs3. -/
set_option linter.unusedVariables false
set_option linter.unusedSimpArgs false
namespace Go.Proofs.YtoijnpfpjpefgaaGreat.A
open Go Go.RowKit
theorem add_lit (c o j:Nat):(⟨c,o,none⟩:Addr).add j = ⟨c,o + j,none⟩:=by unfold Addr.add; split <;> simp_all
theorem clean_V {w0 w:World} {φ:Phi} {H:AH} (R:Rel w0 φ H w) {v x:Value} (h:cleanOld φ.n0 v = some x):one x = true ∧ V φ x v:=by
 cases v with
 | pointer a =>
  cases a with
  | none=>simp [cleanOld,flat] at h; subst h; exact ⟨rfl,.same rfl⟩
  | some a =>
   obtain ⟨b,o,s⟩:=a
   simp only [cleanOld] at h
   cases hb:(decide (b < φ.n0) && s.isNone) with
   | false=>simp [hb] at h
   | true =>
    simp [hb] at h
    subst h
    simp at hb
    obtain ⟨hb,rfl⟩:=hb
    have hm:=R.oldm b hb
    exact ⟨rfl,.ptr (l:=⟨b,0,0,1⟩) hm⟩
 | slice a n c =>
  cases a with
  | none=>simp [cleanOld,flat] at h; subst h; exact ⟨rfl,.same rfl⟩
  | some a =>
   obtain ⟨b,o,s⟩:=a
   simp only [cleanOld] at h
   cases hb:(decide (b < φ.n0) && s.isNone) with
   | false =>
    simp [hb,nb,Bool.cond_decide] at h
    obtain ⟨rfl,rfl⟩:=h
    exact ⟨rfl,.dead⟩
   | true =>
    simp [hb] at h
    subst h
    simp at hb
    obtain ⟨hb,rfl⟩:=hb
    have hm:=R.oldm b hb
    exact ⟨rfl,.sl (l:=⟨b,0,0,1⟩) hm (Nat.le_refl _) id (.inl rfl)⟩
 | map r=>cases r <;> simp [cleanOld,flat] at h; subst h; exact ⟨rfl,.same rfl⟩
 | chan r=>cases r <;> simp [cleanOld,flat] at h; subst h; exact ⟨rfl,.same rfl⟩
 | bool b=>simp [cleanOld,flat] at h; subst h; exact ⟨rfl,.same rfl⟩
 | int k n=>simp [cleanOld,flat] at h; subst h; exact ⟨rfl,.same rfl⟩
 | float k n=>simp [cleanOld,flat] at h; subst h; exact ⟨rfl,.same rfl⟩
 | complex k n m=>simp [cleanOld,flat] at h; subst h; exact ⟨rfl,.same rfl⟩
 | string s=>simp [cleanOld,flat] at h; subst h; exact ⟨rfl,.same rfl⟩
 | nilFunc=>simp [cleanOld,flat] at h; subst h; exact ⟨rfl,.same rfl⟩
 | nilIface=>simp [cleanOld,flat] at h; subst h; exact ⟨rfl,.same rfl⟩
 | func f a b=>simp [cleanOld,flat] at h
 | iface t v=>simp [cleanOld,flat] at h
 | agg c=>simp [cleanOld,flat] at h
 | tuple c=>simp [cleanOld,flat] at h
theorem cleanL_V {w0 w:World} {φ:Phi} {H:AH} (R:Rel w0 φ H w):∀ {l m:List Value},cleanL φ.n0 l = some m → m.all one = true ∧ VL φ m l
 | [],m,h=>by simp [cleanL] at h; subst h; exact ⟨rfl,.nil⟩
 | v :: l,m,h=>by
  simp only [cleanL] at h
  cases hv:cleanOld φ.n0 v with
  | none=>simp [hv] at h
  | some x =>
   cases hl:cleanL φ.n0 l with
   | none=>simp [hv,hl] at h
   | some k =>
    simp [hv,hl] at h
    subst h
    obtain ⟨a,b⟩:=clean_V R hv
    obtain ⟨c,d⟩:=cleanL_V R hl
    exact ⟨by simp [a,c],.cons b d⟩
theorem Rel.ld {w0 w:World} {φ:Phi} {H:AH} (R:Rel w0 φ H w) {a:Addr} {v:Value} {l:Loc} (h:H.ld a = some v) (hl:φ.m a.block = some l) :
  a.spot = none ∧ one v = true ∧ ∃ v',w.cell? ⟨l.c,a.off + l.s,none⟩ = some v' ∧ V φ v v':=by
 obtain ⟨b,o,s⟩:=a
 unfold AH.ld at h
 cases s with
 | some s=>simp at h
 | none =>
  refine ⟨rfl,?_⟩
  dsimp only at h hl ⊢
  cases hb:H.get b with
  | none=>simp [hb] at h
  | some blk =>
   cases blk with
   | map es=>simp [hb] at h
   | cells z c =>
    simp only [hb] at h
    cases hv:c[o]? with
    | none=>simp [hv] at h
    | some u =>
     simp only [hv,R.n0] at h
     by_cases hlt:b < φ.n0
     ·simp [hlt] at h
      obtain ⟨h1,h2⟩:=clean_V R h
      refine ⟨h1,u,?_,h2⟩
      have hm:=R.oldm b hlt
      rw [hm] at hl
      cases hl
      obtain ⟨e,fz,hw⟩:=R.oldc b z c hlt (AH.raw_of hb)
      simp [World.cell?,hw,hv]
     ·simp [hlt] at h
      subst h
      obtain ⟨h1,h2,h3,arr,e,h4,h5,h6⟩:=R.cells b l z c (by omega) hl (AH.raw_of hb)
      obtain ⟨h7,v',h8,h9⟩:=h6 o u hv
      refine ⟨h7,v',?_,h9⟩
      rw [Nat.add_comm] at h8
      simp [World.cell?,h4,h8]
theorem Rel.ldn {w0 w:World} {φ:Phi} {H:AH} (R:Rel w0 φ H w) {a:Addr} {n:Nat} {vs:List Value} {l:Loc} (h:H.ldn a n = some vs) (hl:φ.m a.block = some l) :
  a.spot = none ∧ vs.all one = true ∧ vs.length = n ∧ ∃ vs',vs'.length = n ∧ VL φ vs vs' ∧ ∀ j v',vs'[j]? = some v' → w.cell? ((⟨l.c,a.off + l.s,none⟩:Addr).add j) = some v':=by
 obtain ⟨b,o,s⟩:=a
 unfold AH.ldn at h
 cases s with
 | some s=>simp at h
 | none =>
  refine ⟨rfl,?_⟩
  dsimp only at h hl ⊢
  cases hb:H.get b with
  | none=>simp [hb] at h
  | some blk =>
   cases blk with
   | map es=>simp [hb] at h
   | cells z c =>
    simp only [hb,Bool.cond_decide,R.n0] at h
    split at h
    case isFalse=>cases h
    rename_i hn
    by_cases hlt:b < φ.n0
    ·rw [if_pos hlt] at h
     obtain ⟨h1,h2⟩:=cleanL_V R h
     have hlen:((c.drop o).take n).length = n:=by simp; omega
     refine ⟨h1,by rw [h2.length,hlen],_,hlen,h2,?_⟩
     intro j v' hj
     have hm:=R.oldm b hlt
     rw [hm] at hl
     cases hl
     obtain ⟨e,fz,hw⟩:=R.oldc b z c hlt (AH.raw_of hb)
     have hjn:j < n:=by
      have:=(List.getElem?_eq_some_iff.1 hj).1
      omega
     rw [add_lit]
     simp [World.cell?,hw]
     simpa [List.getElem?_take,hjn,List.getElem?_drop] using hj
    ·rw [if_neg hlt] at h
     cases h
     obtain ⟨h1,h2,h3,arr,e,h4,h5,h6⟩:=R.cells b l z c (by omega) hl (AH.raw_of hb)
     have hlen:((c.drop o).take n).length = n:=by simp; omega
     have hget:∀ j v,((c.drop o).take n)[j]? = some v → one v = true ∧ ∃ v',arr[l.s + (o + j)]? = some v' ∧ V φ v v':=by
      intro j v hj
      have hjn:j < n:=by
       have:=(List.getElem?_eq_some_iff.1 hj).1
       omega
      exact h6 (o + j) v (by simpa [List.getElem?_take,hjn,List.getElem?_drop] using hj)
     refine ⟨?_,hlen,(arr.toList.drop (l.s + o)).take n,?_,?_,?_⟩
     ·rw [List.all_eq_true]
      intro x hx
      obtain ⟨j,hj⟩:=List.getElem?_of_mem hx
      exact (hget j x hj).1
     ·simp; omega
     ·refine VL.of_get (by simp; omega) ?_
      intro j v hj
      obtain ⟨_,v',e1,e2⟩:=hget j v hj
      refine ⟨v',?_,e2⟩
      have hjn:j < n:=by
       have:=(List.getElem?_eq_some_iff.1 hj).1
       omega
      simpa [List.getElem?_take,hjn,List.getElem?_drop,Nat.add_assoc] using e1
     ·intro j v' hj
      have hjn:j < n:=by
       have:=(List.getElem?_eq_some_iff.1 hj).1
       simp at this
       omega
      rw [add_lit]
      simp [World.cell?,h4]
      have:arr[l.s + o + j]? = some v':=by simpa [List.getElem?_take,hjn,List.getElem?_drop] using hj
      rw [← this]
      congr 1
      omega
theorem Rel.drew {w0 w w':World} {φ:Phi} {H:AH} (R:Rel w0 φ H w) (hh:w'.heap = w.heap) (ho:w'.os = w.os) (ht:w'.tape = w.tape) (hp:w'.output = w.output):Rel w0 φ H w' where
 n0:=R.n0
 le1:=R.le1
 le2:=R.le2
 c0:=R.c0
 below:=⟨ho.trans R.below.os,ht.trans R.below.tape,hp.trans R.below.output,by rw [hh]; exact R.below.size,fun k hk=>by rw [hh]; exact R.below.block k hk⟩
 oldm:=R.oldm
 oldc:=by rw [hh]; exact R.oldc
 cells:=by rw [hh]; exact R.cells
 maps:=by rw [hh]; exact R.maps
 inj:=R.inj
theorem Grow.of_heap {φ:Phi} {H:AH} {w w':World} (hh:w'.heap = w.heap):Grow φ H w φ H w' :=
 ⟨Phi.le_refl _,rfl,rfl,Nat.le_refl _,fun _ _ h k=>(by rw [h] at k; cases k),by rw [hh]; exact Nat.le_refl _,fun _ _ h=>⟨by rw [hh],h⟩⟩
theorem Rel.new {w0 w w':World} {φ:Phi} {H:AH} (R:Rel w0 φ H w) (h0:φ.m H.nx = none) {z:Nat} {cs:List Value} {arr:Array Value} {e:TypeId} (hh:w'.heap = w.heap.push (.cells arr e (0,0))) (ho:w'.os = w.os) (ht:w'.tape = w.tape) (hp:w'.output = w.output)
  (hn:cs.length ≤ arr.size) (hc:CR φ 0 cs arr) :
  Rel w0 (φ.add H.nx ⟨w.heap.size,0,arr.size,z⟩) (H.alloc (.cells z cs)) w' ∧ Grow φ H w (φ.add H.nx ⟨w.heap.size,0,arr.size,z⟩) (H.alloc (.cells z cs)) w':=by
 have hle:φ.le (φ.add H.nx ⟨w.heap.size,0,arr.size,z⟩):=Phi.le_add h0
 have hsz:w0.heap.size ≤ w.heap.size:=R.below.size
 have hget:∀ k,k < w.heap.size → w'.heap[k]? = w.heap[k]?:=fun k hk=>by rw [hh,Array.getElem?_push,if_neg (by omega)]
 have old:∀ b l,φ.n0 ≤ b → φ.m b = some l → (H.raw b).isSome = true → l.c < w.heap.size:=by
  intro b l hb hl hs
  cases hg:H.raw b with
  | none=>simp [hg] at hs
  | some blk =>
   cases blk with
   | cells z' c =>
    obtain ⟨_,_,_,a,e',h4,_⟩:=R.cells b l z' c hb hl hg
    exact (Array.getElem?_eq_some_iff.1 h4).1
   | map es =>
    obtain ⟨_,a,e',h4,_⟩:=R.maps b l es hb hl hg
    exact (Array.getElem?_eq_some_iff.1 h4).1
 refine ⟨?_,?_⟩
 ·refine ⟨R.n0,R.le1,by rw [AH.alloc_nx]; have:=R.le2; exact Nat.le_succ_of_le this,R.c0,?_,?_,?_,?_,?_,?_⟩
  ·refine ⟨ho.trans R.below.os,ht.trans R.below.tape,hp.trans R.below.output,?_,fun k hk=>?_⟩
   ·rw [hh,Array.size_push]; omega
   ·rw [hget k (by omega)]; exact R.below.block k hk
  ·intro b hb
   exact hle _ _ (R.oldm b hb)
  ·intro b z' c hb hg
   have hb':b < φ.n0:=hb
   rw [AH.raw_alloc,if_neg (by have:=R.le2; omega)] at hg
   obtain ⟨e',fz,hw⟩:=R.oldc b z' c hb hg
   exact ⟨e',fz,by rw [hget b (by have:=R.le1; have:=R.c0; omega)]; exact hw⟩
  ·intro b l z' c hb hl hg
   rw [AH.raw_alloc] at hg
   simp only [Phi.add] at hl
   by_cases hbn:b = H.nx
   ·rw [if_pos hbn] at hg hl
    cases hg
    cases hl
    refine ⟨by show φ.c0 ≤ w.heap.size; rw [R.c0]; exact hsz,rfl,by simpa using hn,arr,e,?_,rfl,hc.mono hle⟩
    rw [hh]
    simp
   ·rw [if_neg hbn] at hg hl
    obtain ⟨h1,h2,h3,a,e',h4,h5,h6⟩:=R.cells b l z' c hb hl hg
    exact ⟨h1,h2,h3,a,e',by rw [hget _ (Array.getElem?_eq_some_iff.1 h4).1]; exact h4,h5,h6.mono hle⟩
  ·intro b l es hb hl hg
   rw [AH.raw_alloc] at hg
   simp only [Phi.add] at hl
   by_cases hbn:b = H.nx
   ·rw [if_pos hbn] at hg
    cases hg
   ·rw [if_neg hbn] at hg hl
    obtain ⟨h1,a,e',h4,h5⟩:=R.maps b l es hb hl hg
    exact ⟨h1,a,e',by rw [hget _ (Array.getElem?_eq_some_iff.1 h4).1]; exact h4,h5.mono hle⟩
  ·intro b1 b2 l1 l2 hb1 hb2 h1 h2 g1 g2 hc12
   rw [AH.raw_alloc] at g1 g2
   simp only [Phi.add] at h1 h2
   by_cases e1:b1 = H.nx <;> by_cases e2:b2 = H.nx
   ·rw [e1,e2]
   ·rw [if_pos e1] at h1
    rw [if_neg e2] at h2 g2
    cases h1
    have:=old b2 l2 hb2 h2 g2
    simp at hc12
    omega
   ·rw [if_neg e1] at h1 g1
    rw [if_pos e2] at h2
    cases h2
    have:=old b1 l1 hb1 h1 g1
    simp at hc12
    omega
   ·rw [if_neg e1] at h1 g1
    rw [if_neg e2] at h2 g2
    exact R.inj b1 b2 l1 l2 hb1 hb2 h1 h2 g1 g2 hc12
 ·refine ⟨hle,rfl,rfl,by rw [AH.alloc_nx]; exact Nat.le_succ _,?_,by rw [hh,Array.size_push]; exact Nat.le_succ _,?_⟩
  ·intro b l h k
   simp only [Phi.add] at k
   split at k
   ·rename_i hb; subst hb; exact ⟨Nat.le_refl _,by rw [AH.alloc_nx]; exact Nat.lt_succ_self _⟩
   ·rw [h] at k; cases k
  ·intro c hc hf
   refine ⟨hget c hc,fun b l hl=>?_⟩
   simp only [Phi.add] at hl
   split at hl
   ·cases hl
    show w.heap.size ≠ c
    omega
   ·exact hf b l hl
theorem Rel.write {w0 w w':World} {φ:Phi} {H:AH} (R:Rel w0 φ H w) {b z:Nat} {c c':List Value} {l:Loc} {arr':Array Value} {e:TypeId} (hb:φ.n0 ≤ b) (hl:φ.m b = some l) (hg:H.get b = some (.cells z c))
  (hw:w'.heap[l.c]? = some (.cells arr' e (0,0))) (hk:∀ k,k ≠ l.c → w'.heap[k]? = w.heap[k]?) (hs:w'.heap.size = w.heap.size) (ho:w'.os = w.os) (ht:w'.tape = w.tape) (hp:w'.output = w.output)
  (ha:arr'.size = l.n) (hn:l.s + c'.length ≤ l.n) (hc:CR φ l.s c' arr') :
  Rel w0 φ (H.put b (some (.cells z c'))) w' ∧ Grow φ H w φ (H.put b (some (.cells z c'))) w':=by
 have hg:=AH.raw_of hg
 obtain ⟨g1,g2,g3,arr,e0,g4,g5,g6⟩:=R.cells b l z c hb hl hg
 refine ⟨⟨R.n0,R.le1,R.le2,R.c0,?_,R.oldm,?_,?_,?_,?_⟩,?_⟩
 ·refine ⟨ho.trans R.below.os,ht.trans R.below.tape,hp.trans R.below.output,by rw [hs]; exact R.below.size,fun k h=>?_⟩
  rw [hk k (by have:=R.c0; omega)]
  exact R.below.block k h
 ·intro x z' d hx hgx
  rw [AH.raw_put,if_neg (by omega)] at hgx
  obtain ⟨e',fz,hh⟩:=R.oldc x z' d hx hgx
  refine ⟨e',fz,?_⟩
  rw [hk x (by have:=R.le1; omega)]
  exact hh
 ·intro x lx z' d hx hlx hgx
  rw [AH.raw_put] at hgx
  by_cases hxb:x = b
  ·subst hxb
   rw [if_pos rfl] at hgx
   cases hgx
   rw [hl] at hlx
   cases hlx
   exact ⟨g1,g2,hn,arr',e,hw,ha,hc⟩
  ·rw [if_neg hxb] at hgx
   obtain ⟨h1,h2,h3,a,e',h4,h5,h6⟩:=R.cells x lx z' d hx hlx hgx
   refine ⟨h1,h2,h3,a,e',?_,h5,h6⟩
   rw [hk]
   ·exact h4
   ·intro hc
    exact hxb (R.inj x b lx l hx hb hlx hl (by simp [hgx]) (by simp [hg]) hc)
 ·intro x lx es hx hlx hgx
  rw [AH.raw_put] at hgx
  by_cases hxb:x = b
  ·rw [if_pos hxb] at hgx; cases hgx
  ·rw [if_neg hxb] at hgx
   obtain ⟨h1,a,e',h4,h5⟩:=R.maps x lx es hx hlx hgx
   refine ⟨h1,a,e',?_,h5⟩
   rw [hk]
   ·exact h4
   ·intro hc
    exact hxb (R.inj x b lx l hx hb hlx hl (by simp [hgx]) (by simp [hg]) hc)
 ·intro b1 b2 l1 l2 hb1 hb2 h1 h2 s1 s2 hc12
  have live:∀ x,((H.put b (some (.cells z c'))).raw x).isSome = true → (H.raw x).isSome = true:=by
   intro x hx
   rw [AH.raw_put] at hx
   by_cases hxb:x = b
   ·subst hxb; simp [hg]
   ·rw [if_neg hxb] at hx; exact hx
  exact R.inj b1 b2 l1 l2 hb1 hb2 h1 h2 (live _ s1) (live _ s2) hc12
 ·exact ⟨Phi.le_refl _,rfl,rfl,Nat.le_refl _,fun _ _ h k=>(by rw [h] at k; cases k),by rw [hs]; exact Nat.le_refl _,fun c hc hf=>⟨hk c (fun e=>hf b l hl e.symm),hf⟩⟩
theorem Rel.move {w0 w w':World} {φ:Phi} {H:AH} (R:Rel w0 φ H w) (h0:φ.m H.nx = none) {b z s2 z2:Nat} {c c2:List Value} {l:Loc} {arr':Array Value} {e:TypeId} (hb:φ.n0 ≤ b) (hl:φ.m b = some l) (hg:H.get b = some (.cells z c))
  (hw:w'.heap[l.c]? = some (.cells arr' e (0,0))) (hk:∀ k,k ≠ l.c → w'.heap[k]? = w.heap[k]?) (hs:w'.heap.size = w.heap.size) (ho:w'.os = w.os) (ht:w'.tape = w.tape) (hp:w'.output = w.output)
  (ha:arr'.size = l.n) (hn:s2 + c2.length ≤ l.n) (hc:CR φ s2 c2 arr') :
  Rel w0 (φ.add H.nx ⟨l.c,s2,l.n,z2⟩) ((H.put b none).alloc (.cells z2 c2)) w' ∧ Grow φ H w (φ.add H.nx ⟨l.c,s2,l.n,z2⟩) ((H.put b none).alloc (.cells z2 c2)) w':=by
 have hbn:b < H.nx:=AH.get_lt hg
 have hg:=AH.raw_of hg
 obtain ⟨g1,g2,g3,arr,e0,g4,g5,g6⟩:=R.cells b l z c hb hl hg
 have hle:φ.le (φ.add H.nx ⟨l.c,s2,l.n,z2⟩):=Phi.le_add h0
 have get:∀ x,((H.put b none).alloc (.cells z2 c2)).raw x = if x = H.nx then some (.cells z2 c2) else if x = b then none else H.raw x:=by
  intro x
  rw [AH.raw_alloc,AH.raw_put,AH.put_nx]
 have other:∀ x lx,φ.n0 ≤ x → φ.m x = some lx → (H.raw x).isSome = true → x ≠ b → lx.c ≠ l.c:=fun x lx hx hlx hs hne hc=>hne (R.inj x b lx l hx hb hlx hl hs (by simp [hg]) hc)
 refine ⟨⟨R.n0,R.le1,by show φ.n0 ≤ H.nx + 1; have:=R.le2; omega,R.c0,?_,?_,?_,?_,?_,?_⟩,?_⟩
 ·refine ⟨ho.trans R.below.os,ht.trans R.below.tape,hp.trans R.below.output,by rw [hs]; exact R.below.size,fun k h=>?_⟩
  rw [hk k (by have:=R.c0; omega)]
  exact R.below.block k h
 ·intro x hx
  exact hle _ _ (R.oldm x hx)
 ·intro x z' d hx hgx
  have hx':x < φ.n0:=hx
  rw [get,if_neg (by have:=R.le2; omega),if_neg (by omega)] at hgx
  obtain ⟨e',fz,hh⟩:=R.oldc x z' d hx hgx
  refine ⟨e',fz,?_⟩
  rw [hk x (by have:=R.le1; omega)]
  exact hh
 ·intro x lx z' d hx hlx hgx
  rw [get] at hgx
  simp only [Phi.add] at hlx
  by_cases hxn:x = H.nx
  ·rw [if_pos hxn] at hgx hlx
   cases hgx
   cases hlx
   exact ⟨g1,rfl,hn,arr',e,hw,ha,hc.mono hle⟩
  ·rw [if_neg hxn] at hgx hlx
   by_cases hxb:x = b
   ·rw [if_pos hxb] at hgx; cases hgx
   ·rw [if_neg hxb] at hgx
    obtain ⟨h1,h2,h3,a,e',h4,h5,h6⟩:=R.cells x lx z' d hx hlx hgx
    refine ⟨h1,h2,h3,a,e',?_,h5,h6.mono hle⟩
    rw [hk _ (other x lx hx hlx (by simp [hgx]) hxb)]
    exact h4
 ·intro x lx es hx hlx hgx
  rw [get] at hgx
  simp only [Phi.add] at hlx
  by_cases hxn:x = H.nx
  ·rw [if_pos hxn] at hgx; cases hgx
  ·rw [if_neg hxn] at hgx hlx
   by_cases hxb:x = b
   ·rw [if_pos hxb] at hgx; cases hgx
   ·rw [if_neg hxb] at hgx
    obtain ⟨h1,a,e',h4,h5⟩:=R.maps x lx es hx hlx hgx
    refine ⟨h1,a,e',?_,h5.mono hle⟩
    rw [hk _ (other x lx hx hlx (by simp [hgx]) hxb)]
    exact h4
 ·intro b1 b2 l1 l2 hb1 hb2 h1 h2 s1 s2 hc12
  rw [get] at s1 s2
  simp only [Phi.add] at h1 h2
  by_cases e1:b1 = H.nx <;> by_cases e2:b2 = H.nx
  ·rw [e1,e2]
  ·rw [if_pos e1] at h1
   rw [if_neg e2] at h2 s2
   cases h1
   by_cases hxb:b2 = b
   ·rw [if_pos hxb] at s2; cases s2
   ·rw [if_neg hxb] at s2
    exact absurd hc12.symm (other b2 l2 hb2 h2 s2 hxb)
  ·rw [if_neg e1] at h1 s1
   rw [if_pos e2] at h2
   cases h2
   by_cases hxb:b1 = b
   ·rw [if_pos hxb] at s1; cases s1
   ·rw [if_neg hxb] at s1
    exact absurd hc12 (other b1 l1 hb1 h1 s1 hxb)
  ·rw [if_neg e1] at h1 s1
   rw [if_neg e2] at h2 s2
   by_cases hx1:b1 = b
   ·rw [if_pos hx1] at s1; cases s1
   ·by_cases hx2:b2 = b
    ·rw [if_pos hx2] at s2; cases s2
    ·rw [if_neg hx1] at s1
     rw [if_neg hx2] at s2
     exact R.inj b1 b2 l1 l2 hb1 hb2 h1 h2 s1 s2 hc12
 ·refine ⟨hle,rfl,rfl,by show H.nx ≤ H.nx + 1; omega,?_,by rw [hs]; exact Nat.le_refl _,?_⟩
  ·intro x lx h k
   simp only [Phi.add] at k
   split at k
   ·rename_i hb; subst hb; exact ⟨Nat.le_refl _,Nat.lt_succ_self _⟩
   ·rw [h] at k; cases k
  ·intro k hkl hf
   refine ⟨hk k (fun e=>hf b l hl e.symm),fun x lx hlx=>?_⟩
   simp only [Phi.add] at hlx
   split at hlx
   ·cases hlx; exact hf b l hl
   ·exact hf x lx hlx
theorem Rel.kill {w0 w:World} {φ:Phi} {H:AH} (R:Rel w0 φ H w) {b:Nat} (hb:φ.n0 ≤ b):Rel w0 φ (H.put b none) w where
 n0:=R.n0
 le1:=R.le1
 le2:=R.le2
 c0:=R.c0
 below:=R.below
 oldm:=R.oldm
 oldc:=fun x z c hx hg=>by rw [AH.raw_put,if_neg (by omega)] at hg; exact R.oldc x z c hx hg
 cells:=fun x l z c hx hl hg=>by
  rw [AH.raw_put] at hg
  split at hg
  ·cases hg
  ·exact R.cells x l z c hx hl hg
 maps:=fun x l es hx hl hg=>by
  rw [AH.raw_put] at hg
  split at hg
  ·cases hg
  ·exact R.maps x l es hx hl hg
 inj:=fun b1 b2 l1 l2 hb1 hb2 h1 h2 s1 s2 hc=>by
  rw [AH.raw_put] at s1 s2
  split at s1
  ·cases s1
  ·split at s2
   ·cases s2
   ·exact R.inj b1 b2 l1 l2 hb1 hb2 h1 h2 s1 s2 hc
theorem Grow.same {φ φ':Phi} {H H1 H' H1':AH} {w w':World} (h:Grow φ H w φ' H' w') (e:H1.nx = H.nx) (e':H1'.nx = H'.nx):Grow φ H1 w φ' H1' w' :=
 ⟨h.le,h.n0,h.c0,by rw [e,e']; exact h.nx,by rw [e,e']; exact h.new,h.size,h.fr⟩
end Go.Proofs.YtoijnpfpjpefgaaGreat.A
/- A text without what this claim does not need: Abs4. -/
set_option linter.unusedVariables false
set_option linter.unusedSimpArgs false
namespace Go.Proofs.YtoijnpfpjpefgaaGreat.A
open Go Go.RowKit
def FrR (φ:Phi) (fr:Fr) (a:Act):Prop:=∀ t,V φ (fr.get t) (a.tmps.getD t undef)
theorem FrR.mono {φ ψ:Phi} (h:φ.le ψ) {fr:Fr} {a:Act} (F:FrR φ fr a):FrR ψ fr a:=fun t=>(F t).mono h
theorem undefV (φ:Phi):V φ undef undef:=.tuple .nil
theorem FrR.put {φ:Phi} {fr:Fr} {a:Act} (F:FrR φ fr a) {d:Nat} {v v':Value} (hd:d < a.tmps.size) (h:V φ v v'):FrR φ (fr.put d v) (a.put (some d) v'):=by
 intro t
 rw [Fr.get_put]
 simp only [Act.put]
 by_cases ht:t = d
 ·subst ht; simp [hd,h]
 ·rw [if_neg ht]
  have:(a.tmps.setIfInBounds d v').getD t undef = a.tmps.getD t undef:=by
   simp [Array.getElem?_setIfInBounds_ne (Ne.symm ht)]
  rw [this]
  exact F t
theorem FrR.putO {φ:Phi} {fr:Fr} {a:Act} (F:FrR φ fr a) {d:Option Nat} {v v':Value} (hd:∀ n,d = some n → n < a.tmps.size) (h:V φ v v'):FrR φ (fr.putO d v) (a.put d v'):=by
 cases d with
 | none=>exact F
 | some n=>exact F.put (hd n rfl) h
theorem cX_V {φ:Phi} {fr:Fr} {a:Act} (F:FrR φ fr a) {x:Operand} {y:X} (h:cX x = some y):V φ (y.ev fr) (a.eval x):=by
 cases x with
 | tmp t=>simp [cX] at h; subst h; exact F t
 | const v =>
  simp only [cX] at h
  split at h
  ·rename_i hv; cases h; exact V.same2 hv
  ·cases h
 | global g=>simp [cX] at h
 | func f=>simp [cX] at h; subst h; exact .fn .nil .nil
theorem cXs_VL {φ:Phi} {fr:Fr} {a:Act} (F:FrR φ fr a):∀ {l:List Operand} {ys:List X},cXs l = some ys → VL φ (ys.map (X.ev fr)) (l.map a.eval)
 | [],ys,h=>by simp [cXs] at h; subst h; exact .nil
 | x :: l,ys,h=>by
  simp only [cXs] at h
  cases hx:cX x with
  | none=>simp [hx] at h
  | some y =>
   cases hl:cXs l with
   | none=>simp [hx,hl] at h
   | some m =>
    simp [hx,hl] at h
    subst h
    exact .cons (cX_V F hx) (cXs_VL F hl)
def NR (φ:Phi):ARes → Next → Prop
 | .v x,nx=>(∃ x',nx = .value x' ∧ V φ x x') ∨ (nx = .skip ∧ x = undef)
 | .enter f as,nx=>∃ as':Array Value,nx = .enter f as' ∧ VL φ as as'.toList
def OpOk (w0:World) (φ:Phi) (H:AH) (w:World) (res:ARes) (H':AH) (r:Result Next):Prop :=
 ∃ φ' w' nx,r = .ok nx w' ∧ Rel w0 φ' H' w' ∧ Grow φ H w φ' H' w' ∧ NR φ' res nx
section
variable {P:Program} {w0 w:World} {φ:Phi} {H:AH}
theorem OpOk.pure {x:Value} {x':Value} {r:Result Next} (R:Rel w0 φ H w) (h:V φ x x') (hr:r = .ok (.value x') w):OpOk w0 φ H w (.v x) H r :=
 ⟨φ,w,_,hr,R,Grow.refl _ _ _,.inl ⟨x',rfl,h⟩⟩
theorem run_tsize {t:TypeId} {n:Nat} (h:tsize P t = some n) (w:World):(sizeOf t).run P w = .ok n w:=by
 unfold tsize at h
 cases hi:P.info? t with
 | none=>simp [hi] at h
 | some i=>simp [hi] at h; subst h; simp [sizeOf,typeInfo,hi]
theorem run_tagg {t:TypeId} {b:Bool} (h:tagg P t = some b) (w:World):(isAgg t).run P w = .ok b w:=by
 unfold tagg at h
 cases hu:P.underlying t with
 | none=>simp [hu] at h
 | some d =>
  cases d <;> simp [hu] at h <;> subst h <;> simp [isAgg,run_underlying hu]
theorem run_tzero {t:TypeId} {l:List Value} (h:tzero P t = some l):∃ i z,P.info? t = some i ∧ i.zero = some z ∧ z.cells.toList = l ∧ l.all flat = true ∧ l.length = i.size:=by
 unfold tzero at h
 cases hi:P.info? t with
 | none=>simp [hi] at h
 | some i =>
  rw [hi,Option.bind_some] at h
  cases hz:i.zero with
  | none=>rw [hz] at h; cases h
  | some z =>
   rw [hz,Option.bind_some] at h
   dsimp only at h
   split at h
   ·rename_i hc
    cases h
    simp at hc
    refine ⟨i,z,rfl,hz,rfl,?_,by simpa using hc.2⟩
    simpa using hc.1
   ·cases h
theorem CR_of_VL {φ:Phi} {cs:List Value} {arr:Array Value} (h:VL φ cs arr.toList) (o:cs.all one = true):CR φ 0 cs arr:=by
 intro j v hj
 obtain ⟨v',e,hv⟩:=h.get j v hj
 refine ⟨List.all_eq_true.1 o v (List.mem_of_getElem? hj),v',?_,hv⟩
 simpa using e
theorem ok_move {fr:Fr} {a:Act} (F:FrR φ fr a) (R:Rel w0 φ H w) {x:Operand} {y:X} (h:cX x = some y) {res:ARes} {H':AH} (hr:aop (.mv y) (X.ev fr) H = some (res,H')) {r:Result Next} (e:r = .ok (.value (a.eval x)) w):OpOk w0 φ H w res H' r:=by
 simp only [aop] at hr
 cases hr
 exact .pure R (cX_V F h) e
theorem ok_alloc {t:TypeId} {z:List Value} (hz:tzero P t = some z) (R:Rel w0 φ H w) (h0:φ.m H.nx = none):
  ∃ i v,P.info? t = some i ∧ i.zero = some v ∧ OpOk w0 φ H w (.v (.pointer (some ⟨H.nx,0,none⟩))) (H.alloc (.cells z.length z)) (.ok (.value (.pointer (some ⟨w.heap.size,0,none⟩))) { w with heap:=w.heap.push (.cells v.cells t) }):=by
 obtain ⟨i,v,hi,hv,hc,hf,hl⟩:=run_tzero hz
 refine ⟨i,v,hi,hv,?_⟩
 have e:CR φ 0 z v.cells:=CR_of_VL (by rw [hc]; exact VL.same hf) (all_flat_one hf)
 obtain ⟨R',G⟩:=R.new h0 (w':={ w with heap:=w.heap.push (.cells v.cells t) }) (z:=z.length) (cs:=z) (arr:=v.cells) (e:=t) rfl rfl rfl rfl (by rw [← hc]; simp) e
 refine ⟨_,_,_,rfl,R',G,.inl ⟨_,rfl,?_⟩⟩
 exact .ptr (l:=⟨w.heap.size,0,v.cells.size,z.length⟩) (by simp [Phi.add])
theorem ok_box {v v':Value} (R:Rel w0 φ H w) (h0:φ.m H.nx = none) (h:V φ v v') (ht:isTup v = false) (t:TypeId) :
  OpOk w0 φ H w (.v (.pointer (some ⟨H.nx,0,none⟩))) (H.alloc (.cells (vcells v).length (vcells v))) (.ok (.value (.pointer (some ⟨w.heap.size,0,none⟩))) { w with heap:=w.heap.push (.cells v'.cells t) }):=by
 obtain ⟨R',G⟩:=R.new h0 (w':={ w with heap:=w.heap.push (.cells v'.cells t) }) (z:=(vcells v).length) (cs:=vcells v) (arr:=v'.cells) (e:=t) rfl rfl rfl rfl (by rw [h.cells.length]; simp) (CR_of_VL h.cells (vcells_one h ht))
 refine ⟨_,_,_,rfl,R',G,.inl ⟨_,rfl,?_⟩⟩
 exact .ptr (l:=⟨w.heap.size,0,v'.cells.size,(vcells v).length⟩) (by simp [Phi.add])
theorem ok_ld {a:Addr} {v x':Value} (R:Rel w0 φ H w) (hx:V φ (.pointer (some a)) x') (h:H.ld a = some v) :
  ∃ a' v',x' = .pointer (some a') ∧ w.cell? a' = some v' ∧ V φ v v':=by
 obtain ⟨l,hs,hl,rfl⟩:=V.ptr1 hx
 obtain ⟨_,_,v',h1,h2⟩:=R.ld h hl
 exact ⟨_,v',rfl,h1,h2⟩
theorem ok_ldn {a:Addr} {n:Nat} {vs:List Value} {x':Value} (R:Rel w0 φ H w) (hx:V φ (.pointer (some a)) x') (h:H.ldn a n = some vs) :
  ∃ a' vs',x' = .pointer (some a') ∧ vs'.length = n ∧ vs.all one = true ∧ VL φ vs vs' ∧ ∀ j v',vs'[j]? = some v' → w.cell? (a'.add j) = some v':=by
 obtain ⟨l,hs,hl,rfl⟩:=V.ptr1 hx
 obtain ⟨_,h1,h2,vs',h3,h4,h5⟩:=R.ldn h hl
 exact ⟨_,vs',rfl,h3,h1,h4,h5⟩
theorem splice_eq:∀ (c:List Value) (k:Nat) (vs:List Value),k + vs.length ≤ c.length → splice c k vs = c.take k ++ vs ++ c.drop (k + vs.length)
 | c,0,vs,h=>by cases c <;> simp [splice]
 | [],k + 1,vs,h=>by simp at h
 | x :: c,k + 1,vs,h=>by
  simp only [splice,List.take_succ_cons,List.cons_append]
  rw [splice_eq c k vs (by simp at h; omega),show k + 1 + vs.length = (k + vs.length) + 1 by omega,List.drop_succ_cons]
theorem splice_length {c:List Value} {k:Nat} {vs:List Value} (h:k + vs.length ≤ c.length):(splice c k vs).length = c.length:=by
 rw [splice_eq c k vs h]; simp; omega
theorem CR_splice {s o:Nat} {c vs vs':List Value} {arr:Array Value} (h:CR φ s c arr) (hs:s + c.length ≤ arr.size) (hv:VL φ vs vs') (ho:vs.all one = true) (hn:o + vs.length ≤ c.length) :
  CR φ s (splice c o vs) (arr.toList.take (s + o) ++ vs' ++ arr.toList.drop (s + o + vs'.length)).toArray:=by
 have hl:=hv.length
 intro j v hj
 rw [splice_eq c o vs hn] at hj
 by_cases h1:j < o
 ·have:c[j]? = some v:=by
   rw [List.append_assoc,List.getElem?_append_left (by simp; omega)] at hj
   rw [List.getElem?_take,if_pos h1] at hj
   exact hj
  obtain ⟨o1,v',e,hv'⟩:=h j v this
  refine ⟨o1,v',?_,hv'⟩
  rw [List.getElem?_toArray,List.append_assoc,List.getElem?_append_left (by simp; omega),List.getElem?_take,if_pos (by omega)]
  simpa using e
 ·by_cases h2:j < o + vs.length
  ·have:vs[j - o]? = some v:=by
    rw [List.append_assoc,List.getElem?_append_right (by simp; omega)] at hj
    rw [List.getElem?_append_left (by simp; omega)] at hj
    rw [← hj]
    congr 1
    simp
    omega
   obtain ⟨v',e,hv'⟩:=hv.get _ v this
   refine ⟨List.all_eq_true.1 ho v (List.mem_of_getElem? this),v',?_,hv'⟩
   rw [List.getElem?_toArray,List.append_assoc,List.getElem?_append_right (by simp; omega),List.getElem?_append_left (by simp; omega),← e]
   congr 1
   simp
   omega
  ·have:c[j]? = some v:=by
    rw [List.getElem?_append_right (by simp; omega)] at hj
    rw [List.getElem?_drop] at hj
    rw [← hj]
    congr 1
    simp
    omega
   obtain ⟨o1,v',e,hv'⟩:=h j v this
   refine ⟨o1,v',?_,hv'⟩
   rw [List.getElem?_toArray,List.getElem?_append_right (by simp; omega),List.getElem?_drop]
   have:arr.toList[s + j]? = some v':=by simpa using e
   rw [← this]
   congr 1
   simp
   omega
theorem ok_st {a:Addr} {vs vs':List Value} {x':Value} {H':AH} (R:Rel w0 φ H w) (hx:V φ (.pointer (some a)) x') (h:H.st a vs = some H') (hv:VL φ vs vs') (ho:vs.all one = true) :
  ∃ a' w',x' = .pointer (some a') ∧ (storeCells a' vs').run P w = .ok () w' ∧ Rel w0 φ H' w' ∧ Grow φ H w φ H' w':=by
 obtain ⟨l,hs,hl,rfl⟩:=V.ptr1 hx
 obtain ⟨b,o,s⟩:=a
 dsimp only at hs hl ⊢
 subst hs
 unfold AH.st at h
 dsimp only at h
 cases hb:H.get b with
 | none=>simp [hb] at h
 | some blk =>
  cases blk with
  | map es=>simp [hb] at h
  | cells z c =>
   simp only [hb,R.n0] at h
   cases hc:(decide (φ.n0 ≤ b) && decide (o + vs.length ≤ c.length)) with
   | false=>simp [hc] at h
   | true =>
    simp only [hc,cond_true,Option.some.injEq] at h
    subst h
    simp at hc
    obtain ⟨g1,g2,g3,arr,e,g4,g5,g6⟩:=R.cells b l z c hc.1 hl (AH.raw_of hb)
    have hlen:=hv.length
    have hst:=run_storeCells_at P l.c (o + l.s) e vs' 0 arr w g4 (by rw [← hlen]; omega) (hv.one ho)
    simp only [Nat.add_zero] at hst
    refine ⟨_,_,rfl,hst,?_⟩
    refine R.write hc.1 hl hb (arr':=(arr.toList.take (o + l.s) ++ vs' ++ arr.toList.drop (o + l.s + vs'.length)).toArray) (e:=e) (setRow_heap w l.c arr _ e (0,0) g4) (fun k hk=>setRow_other w l.c k _ hk) (setRow_size _ _ _) rfl rfl rfl ?_ ?_ ?_
    ·simp; omega
    ·rw [splice_length hc.2]; exact g3
    ·have:=CR_splice g6 (by omega) hv ho hc.2
     rwa [Nat.add_comm l.s o] at this
end
end Go.Proofs.YtoijnpfpjpefgaaGreat.A
