/- Texts that stand one behind the other: AbsN. -/
import Derived.Test.YtppcmpmnglaleaaGreatG9
import Derived.IntWalk
set_option linter.unusedVariables false
set_option linter.unusedSimpArgs false
namespace Go.Proofs.YtppcmpmnglaleaaGreat.A
open Go Go.RowKit
structure Ext (H H':AH):Prop where
 n0:H'.n0=H.n0
 nx:H.nx≤H'.nx
 old:∀b,b<H.nx→H'.get b=H.get b
theorem Ext.refl (H:AH):Ext H H:=⟨rfl,apK _,fun _ _=>rfl⟩
theorem Ext.trans {a b c:AH} (h:Ext a b) (k:Ext b c):Ext a c:=⟨k.n0.trans h.n0,ap2 h.nx k.nx,fun x d=>(k.old x (ap3 d h.nx)).trans (h.old x d)⟩
theorem Ext.alloc (H:AH) (x:pG):Ext H (H.alloc x):=⟨rfl,ap7 _,fun b a=>by rw [AH.ey,if_neg (by omega)]⟩
theorem Ext.wf {H H':AH} (h:Ext H H') (w:H.n0≤H.nx):H'.n0≤H'.nx:=by rw [h.n0];exact ap2 w h.nx
theorem Ext.get {H H':AH} (h:Ext H H') {b:Nat} {x:pG} (k:H.get b=some x):H'.get b=some x:=by rw [h.old b (AH.bk k)];exact k
theorem Ext.ldn {H H':AH} (h:Ext H H') {a:Addr} {n:Nat} {vs:List Value} (k:H.ldn a n=some vs):H'.ldn a n=some vs:=by
 obtain ⟨x,b⟩:=aqi.1 (dF k).1;rw [←k];exact eS (h.old _ (AH.bk b)) h.n0
theorem Ext.ld {H H':AH} (h:Ext H H') {a:Addr} {v:Value} (k:H.ld a=some v):H'.ld a=some v:=aV.2 (h.ldn (aV.1 k))
theorem r6 {n0:Nat}:∀{l m:List Value} {j:Nat} {v:Value},aQ n0 l=some m→m[j]?=some v→∃u,l[j]?=some u∧bw n0 u=some v
 |[],m,j,v,h,k=>by simp [aQ]at h;subst h;simp at k
 |x::l,m,j,v,h,k=>by
  simp only [aQ]at h;split at h
  case h_2=>cases h
  rename_i y d a b;cases h
  cases j with
  |zero=>simp at k;subst k;exact ⟨x,rfl,a⟩
  |succ j=>obtain ⟨u,c,h2⟩:=r6 b (by simpa using k);exact ⟨u,by simpa using c,h2⟩
theorem aL {H:AH} {b o n j:Nat} {vs:List Value} {v:Value} (h:H.ldn ⟨b,o,none⟩ n=some vs) (a:vs[j]?=some v):H.ld ⟨b,o+j,none⟩=some v:=by
 have g:=(dF h).2;have k:=(apM.1 a).1;unfold AH.ldn at h;unfold AH.ld;dsimp only at h⊢
 cases d:H.get b with
 |none=>simp [d]at h
 |some x=>
  cases x with
  |map es=>simp [d]at h
  |cells z c=>
   simp only [d]at h⊢;obtain ⟨l,h⟩:=aP h;simp only [apS]at l
   have e:∀u,(List.take n (List.drop o c))[j]?=some u→c[o+j]?=some u:=by
    intro u f;rw [aqf,if_pos (by omega),aqk]at f;exact f
   cases i:decide (b<H.n0)with
   |false=>
    rw [i]at h;simp only [cond_false,apH]at h;rw [←h]at a;rw [e v a];simp
   |true=>
    rw [i]at h;simp only [cond_true]at h;obtain ⟨u,m,h2⟩:=r6 h a;rw [e u m];simp [h2]
theorem ri {H:AH} (w:H.n0≤H.nx) (z:Nat) (c:List Value):(H.alloc (.cells z c)).ldn ⟨H.nx,0,none⟩ c.length=some c:=by
 unfold AH.ldn;have:¬ H.nx<H.n0:=Nat.not_lt.2 w;simp [AH.ey,AH.oi,this]
theorem ai {H:AH} (w:H.n0≤H.nx) {z j:Nat} {c:List Value} {v:Value} (h:c[j]?=some v):(H.alloc (.cells z c)).ld ⟨H.nx,j,none⟩=some v:=by
 have:=aL (ri w z c) h
 simpa using this
structure Rows (H:AH) (sz:Nat) (v:Value) (rows:List (List Value)):Prop where
 is:∃a c,v= .slice a rows.length c∧∀i r,rows[i]?=some r→∃b o,a=some ⟨b,o,none⟩∧H.ldn ⟨b,o+i*sz,none⟩ sz=some r
theorem Rows.ext {H H':AH} (E:Ext H H') {sz:Nat} {v:Value} {rows:List (List Value)} (h:Rows H sz v rows):Rows H' sz v rows:=by
 obtain ⟨a,c,rfl,k⟩:=h.is;exact ⟨a,c,rfl,fun i r hi=>let⟨b,o,d,h2⟩:=k i r hi;⟨b,o,d,E.ldn h2⟩⟩
theorem Rows.len {H:AH} {sz:Nat} {v:Value} {rows:List (List Value)} (h:Rows H sz v rows):∃a c,v= .slice a rows.length c:=let⟨a,c,e,_⟩:=h.is;⟨a,c,e⟩
theorem Rows.at {H:AH} {sz:Nat} {v:Value} {rows:List (List Value)} (h:Rows H sz v rows) {i:Nat} {r:List Value} (hi:rows[i]?=some r):
 ∃b o c,v= .slice (some ⟨b,o,none⟩) rows.length c∧H.ldn ⟨b,o+i*sz,none⟩ sz=some r:=by
 obtain ⟨a,c,rfl,k⟩:=h.is;obtain ⟨b,o,rfl,h2⟩:=k i r hi;exact ⟨b,o,c,rfl,h2⟩
def ep (H:AH) (v:Value) (l:List Int):Prop:=Rows H 1 v (l.map fun n=>[.int .i64 n])
theorem ep.at {H:AH} {v:Value} {l:List Int} (h:ep H v l) {i:Nat} {n:Int} (hi:l[i]?=some n):∃b o c,v= .slice (some ⟨b,o,none⟩) l.length c∧H.ld ⟨b,o+i,none⟩=some (.int .i64 n):=by
 obtain ⟨b,o,c,e,h2⟩:=Rows.at h (i:=i) (r:=[.int .i64 n]) (by simp [hi]);refine ⟨b,o,c,by simpa using e,?_⟩;have:=aL h2 (j:=0) rfl
 simpa using this
theorem ep.len {H:AH} {v:Value} {l:List Int} (h:ep H v l):∃a c,v= .slice a l.length c:=by
 obtain ⟨a,c,e⟩:=Rows.len h;exact ⟨a,c,by simpa using e⟩
def oh (n:Int):Prop:=-9223372036854775808≤n∧n≤9223372036854775807
theorem aj {n:Int} (h:oh n):IntKind.i64.wrap n=n:=IntWalk.i64_in n h
theorem fg {H:AH} (w:H.n0≤H.nx) {z:Nat} {c vs:List Value} (i:vs.length=c.length):
 ∃a,(H.alloc (.cells z c)).st ⟨H.nx,0,none⟩ vs=some a∧Ext H a∧a.nx=H.nx+1∧a.n0=H.n0∧a.ldn ⟨H.nx,0,none⟩ vs.length=some vs∧∀(j:Nat) (v:Value),vs[j]?=some v→a.ld ⟨H.nx,j,none⟩=some v:=by
 have h:¬ H.nx<H.n0:=Nat.not_lt.2 w
 have e:aM c 0 vs=vs:=by
  have:aM c 0 vs=vs++c.drop vs.length:=by cases c<;>rfl
  rw [this,List.drop_eq_nil_of_le (by omega)];simp
 have f:∀b,((H.alloc (.cells z c)).put H.nx (some (.cells z vs))).get b=if b=H.nx then some (.cells z vs)else H.get b:=by
  intro b;rw [AH.bR _ _ _ _ (by rw [AH.ez];exact apV _),AH.ey];by_cases g:b=H.nx<;>simp [g]
 have d:((H.alloc (.cells z c)).put H.nx (some (.cells z vs))).ldn ⟨H.nx,0,none⟩ vs.length=some vs:=by
  unfold AH.ldn;simp [f,AH.MR,AH.oi,h]
 refine ⟨(H.alloc (.cells z c)).put H.nx (some (.cells z vs)),?_,⟨rfl,ap7 _,fun b g=>?_⟩,rfl,rfl,d,fun j v k=>?_⟩
 ·unfold AH.st
  simp [AH.ey,AH.oi,w,i,e]
 ·rw [f,if_neg (by omega)]
 ·have:=aL d k
  simpa using this
end Go.Proofs.YtppcmpmnglaleaaGreat.A
