/- Texts that stand one behind the other: AbsN. -/
import Derived.Test.YtppcmpmnglaleaaGreatDoorG9
import Derived.IntWalk
set_option linter.unusedVariables false
set_option linter.unusedSimpArgs false
namespace Go.Proofs.YtppcmpmnglaleaaGreatDoor.A
open Go Go.RowKit
structure Ext (H H':AH):Prop where
 n0:H'.n0=H.n0
 nx:H.nx≤H'.nx
 old:∀b,b<H.nx→H'.get b=H.get b
theorem Ext.refl (H:AH):Ext H H:=⟨rfl,alR _,fun _ _=>rfl⟩
theorem Ext.trans {a b c:AH} (h:Ext a b) (k:Ext b c):Ext a c:=⟨k.n0.trans h.n0,Nat.le_trans h.nx k.nx,fun x hx=>(k.old x (Nat.lt_of_lt_of_le hx h.nx)).trans (h.old x hx)⟩
theorem Ext.alloc (H:AH) (x:nC):Ext H (H.alloc x):=⟨rfl,Nat.le_succ _,fun b hb=>by rw [AH.cM,if_neg (by omega)]⟩
theorem Ext.wf {H H':AH} (h:Ext H H') (w:H.n0≤H.nx):H'.n0≤H'.nx:=by rw [h.n0];exact Nat.le_trans w h.nx
theorem Ext.get {H H':AH} (h:Ext H H') {b:Nat} {x:nC} (k:H.get b=some x):H'.get b=some x:=by rw [h.old b (AH.aL k)];exact k
theorem Ext.ldn {H H':AH} (h:Ext H H') {a:Addr} {n:Nat} {vs:List Value} (k:H.ldn a n=some vs):H'.ldn a n=some vs:=by
 obtain ⟨x,hx⟩:=Option.isSome_iff_exists.1 (cB k).1
 rw [←k]
 exact dT (h.old _ (AH.aL hx)) h.n0
theorem Ext.ld {H H':AH} (h:Ext H H') {a:Addr} {v:Value} (k:H.ld a=some v):H'.ld a=some v:=bm.2 (h.ldn (bm.1 k))
theorem qp {n0:Nat}:∀{l m:List Value} {j:Nat} {v:Value},aJ n0 l=some m→m[j]?=some v→∃u,l[j]?=some u∧aK n0 u=some v
 |[],m,j,v,h,k=>by simp [aJ]at h;subst h;simp at k
 |x::l,m,j,v,h,k=>by
  simp only [aJ]at h
  split at h
  case h_2=>cases h
  rename_i y m' hy hm
  cases h
  cases j with
  |zero=>simp at k;subst k;exact ⟨x,rfl,hy⟩
  |succ j=>obtain ⟨u,h1,h2⟩:=qp hm (by simpa using k);exact ⟨u,by simpa using h1,h2⟩
theorem aG {H:AH} {b o n j:Nat} {vs:List Value} {v:Value} (h:H.ldn ⟨b,o,none⟩ n=some vs) (hj:vs[j]?=some v):H.ld ⟨b,o+j,none⟩=some v:=by
 have hlen:=(cB h).2
 have hjl:=(alT.1 hj).1
 unfold AH.ldn at h
 unfold AH.ld
 dsimp only at h⊢
 cases hg:H.get b with
 |none=>simp [hg]at h
 |some x=>
  cases x with
  |map es=>simp [hg]at h
  |cells z c=>
   simp only [hg]at h⊢
   obtain ⟨hb,h⟩:=au h
   simp only [alZ]at hb
   have e:∀u,(List.take n (List.drop o c))[j]?=some u→c[o+j]?=some u:=by
    intro u hu
    rw [List.getElem?_take,if_pos (by omega),List.getElem?_drop]at hu
    exact hu
   cases hd:decide (b<H.n0)with
   |false=>
    rw [hd]at h
    simp only [cond_false,alO]at h
    rw [←h]at hj
    rw [e v hj]
    simp
   |true=>
    rw [hd]at h
    simp only [cond_true]at h
    obtain ⟨u,h1,h2⟩:=qp h hj
    rw [e u h1]
    simp [h2]
theorem pF {H:AH} (w:H.n0≤H.nx) (z:Nat) (c:List Value):(H.alloc (.cells z c)).ldn ⟨H.nx,0,none⟩ c.length=some c:=by
 unfold AH.ldn
 have:¬ H.nx<H.n0:=Nat.not_lt.2 w
 simp [AH.cM,AH.mz,this]
theorem ai {H:AH} (w:H.n0≤H.nx) {z j:Nat} {c:List Value} {v:Value} (h:c[j]?=some v):(H.alloc (.cells z c)).ld ⟨H.nx,j,none⟩=some v:=by
 have:=aG (pF w z c) h
 simpa using this
structure Rows (H:AH) (sz:Nat) (v:Value) (rows:List (List Value)):Prop where
 is:∃a c,v= .slice a rows.length c∧∀i r,rows[i]?=some r→∃b o,a=some ⟨b,o,none⟩∧H.ldn ⟨b,o+i*sz,none⟩ sz=some r
theorem Rows.ext {H H':AH} (E:Ext H H') {sz:Nat} {v:Value} {rows:List (List Value)} (h:Rows H sz v rows):Rows H' sz v rows:=by
 obtain ⟨a,c,rfl,k⟩:=h.is
 exact ⟨a,c,rfl,fun i r hi=>let⟨b,o,h1,h2⟩:=k i r hi;⟨b,o,h1,E.ldn h2⟩⟩
theorem Rows.len {H:AH} {sz:Nat} {v:Value} {rows:List (List Value)} (h:Rows H sz v rows):∃a c,v= .slice a rows.length c:=let⟨a,c,e,_⟩:=h.is;⟨a,c,e⟩
theorem Rows.at {H:AH} {sz:Nat} {v:Value} {rows:List (List Value)} (h:Rows H sz v rows) {i:Nat} {r:List Value} (hi:rows[i]?=some r):
 ∃b o c,v= .slice (some ⟨b,o,none⟩) rows.length c∧H.ldn ⟨b,o+i*sz,none⟩ sz=some r:=by
 obtain ⟨a,c,rfl,k⟩:=h.is
 obtain ⟨b,o,rfl,h2⟩:=k i r hi
 exact ⟨b,o,c,rfl,h2⟩
def eY (H:AH) (v:Value) (l:List Int):Prop:=Rows H 1 v (l.map fun n=>[.int .i64 n])
theorem eY.at {H:AH} {v:Value} {l:List Int} (h:eY H v l) {i:Nat} {n:Int} (hi:l[i]?=some n):∃b o c,v= .slice (some ⟨b,o,none⟩) l.length c∧H.ld ⟨b,o+i,none⟩=some (.int .i64 n):=by
 obtain ⟨b,o,c,e,h2⟩:=Rows.at h (i:=i) (r:=[.int .i64 n]) (by simp [hi])
 refine ⟨b,o,c,by simpa using e,?_⟩
 have:=aG h2 (j:=0) rfl
 simpa using this
theorem eY.len {H:AH} {v:Value} {l:List Int} (h:eY H v l):∃a c,v= .slice a l.length c:=by
 obtain ⟨a,c,e⟩:=Rows.len h
 exact ⟨a,c,by simpa using e⟩
def e8 (n:Int):Prop:=-9223372036854775808≤n∧n≤9223372036854775807
theorem aj {n:Int} (h:e8 n):IntKind.i64.wrap n=n:=IntWalk.i64_in n h
theorem dJ {H:AH} (w:H.n0≤H.nx) {z:Nat} {c vs:List Value} (hl:vs.length=c.length):
 ∃H2,(H.alloc (.cells z c)).st ⟨H.nx,0,none⟩ vs=some H2∧Ext H H2∧H2.nx=H.nx+1∧H2.n0=H.n0∧H2.ldn ⟨H.nx,0,none⟩ vs.length=some vs∧∀(j:Nat) (v:Value),vs[j]?=some v→H2.ld ⟨H.nx,j,none⟩=some v:=by
 have hn:¬ H.nx<H.n0:=Nat.not_lt.2 w
 have e:aF c 0 vs=vs:=by
  have:aF c 0 vs=vs++c.drop vs.length:=by cases c<;>rfl
  rw [this,List.drop_eq_nil_of_le (by omega)];simp
 have gh:∀b,((H.alloc (.cells z c)).put H.nx (some (.cells z vs))).get b=if b=H.nx then some (.cells z vs)else H.get b:=by
  intro b
  rw [AH.bj _ _ _ _ (by rw [AH.dj];exact al2 _),AH.cM]
  by_cases hb:b=H.nx<;>simp [hb]
 have Dj:((H.alloc (.cells z c)).put H.nx (some (.cells z vs))).ldn ⟨H.nx,0,none⟩ vs.length=some vs:=by
  unfold AH.ldn
  simp [gh,AH.Lt,AH.mz,hn]
 refine ⟨(H.alloc (.cells z c)).put H.nx (some (.cells z vs)),?_,⟨rfl,Nat.le_succ _,fun b hb=>?_⟩,rfl,rfl,Dj,fun j v hj=>?_⟩
 ·unfold AH.st
  simp [AH.cM,AH.mz,w,hl,e]
 ·rw [gh,if_neg (by omega)]
 ·have:=aG Dj hj
  simpa using this
end Go.Proofs.YtppcmpmnglaleaaGreatDoor.A
