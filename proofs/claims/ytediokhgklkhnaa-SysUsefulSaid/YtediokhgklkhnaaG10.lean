/- Texts that stand one behind the other: AbsN. -/
import Derived.Test.YtediokhgklkhnaaG9
import Derived.IntWalk
set_option linter.unusedVariables false
set_option linter.unusedSimpArgs false
namespace Go.Proofs.Ytediokhgklkhnaa.A
open Go Go.RowKit
structure Ext (H H':AH):Prop where
 n0:H'.n0=H.n0
 nx:H.nx≤H'.nx
 old:∀b,b<H.nx→H'.get b=H.get b
theorem Ext.refl (H:AH):Ext H H:=⟨rfl,OL _,fun _ _=>rfl⟩
theorem Ext.alloc (H:AH) (x:jZ):Ext H (H.alloc x):=⟨rfl,O8 _,fun b a=>by rw [AH.cA,if_neg (by omega)]⟩
theorem Ext.wf {H a:AH} (h:Ext H a) (w:H.n0≤H.nx):a.n0≤a.nx:=by rw [h.n0];exact O3 w h.nx
theorem Ext.ldn {H b:AH} (h:Ext H b) {a:Addr} {n:Nat} {vs:List Value} (k:H.ldn a n=some vs):b.ldn a n=some vs:=by
 obtain ⟨x,c⟩:=Pk.1 (bQ k).1;rw [←k];exact cm (h.old _ (AH.eM c)) h.n0
theorem jE {a:Nat}:∀{l m:List Value} {j:Nat} {v:Value},al a l=some m→m[j]?=some v→∃u,l[j]?=some u∧au a u=some v
 |[],m,j,v,h,k=>by simp [al]at h;subst h;simp at k
 |x::l,m,j,v,h,k=>by
  simp only [al]at h;split at h
  case h_2=>cases h
  rename_i y e b c;cases h
  cases j with
  |zero=>simp at k;subst k;exact ⟨x,rfl,b⟩
  |succ j=>obtain ⟨u,d,h2⟩:=jE c (by simpa using k);exact ⟨u,by simpa using d,h2⟩
theorem ic {H:AH} {b o n j:Nat} {vs:List Value} {v:Value} (h:H.ldn ⟨b,o,none⟩ n=some vs) (a:vs[j]?=some v):H.ld ⟨b,o+j,none⟩=some v:=by
 have g:=(bQ h).2;have m:=(ON.1 a).1;unfold AH.ldn at h;unfold AH.ld;dsimp only at h⊢
 cases d:H.get b with
 |none=>simp [d]at h
 |some x=>
  cases x with
  |map es=>simp [d]at h
  |cells z c=>
   simp only [d]at h⊢;obtain ⟨k,h⟩:=ai h;simp only [OT]at k
   have e:∀u,(List.take n (List.drop o c))[j]?=some u→c[o+j]?=some u:=by
    intro u f;rw [Pg,if_pos (by omega),Pm]at f;exact f
   cases i:decide (b<H.n0)with
   |false=>
    rw [i]at h;simp only [cond_false,OH]at h;rw [←h]at a;rw [e v a];simp
   |true=>
    rw [i]at h;simp only [cond_true]at h;obtain ⟨u,l,h2⟩:=jE h a;rw [e u l];simp [h2]
structure Rows (H:AH) (sz:Nat) (v:Value) (rows:List (List Value)):Prop where
 is:∃a c,v= .slice a rows.length c∧∀i r,rows[i]?=some r→∃b o,a=some ⟨b,o,none⟩∧H.ldn ⟨b,o+i*sz,none⟩ sz=some r
theorem Rows.ext {H d:AH} (E:Ext H d) {sz:Nat} {v:Value} {rows:List (List Value)} (h:Rows H sz v rows):Rows d sz v rows:=by
 obtain ⟨a,c,rfl,k⟩:=h.is;exact ⟨a,c,rfl,fun i r hi=>let⟨b,o,e,h2⟩:=k i r hi;⟨b,o,e,E.ldn h2⟩⟩
theorem Rows.len {H:AH} {sz:Nat} {v:Value} {rows:List (List Value)} (h:Rows H sz v rows):∃a c,v= .slice a rows.length c:=let⟨a,c,e,_⟩:=h.is;⟨a,c,e⟩
theorem Rows.at {H:AH} {sz:Nat} {v:Value} {rows:List (List Value)} (h:Rows H sz v rows) {i:Nat} {r:List Value} (hi:rows[i]?=some r):
 ∃b o c,v= .slice (some ⟨b,o,none⟩) rows.length c∧H.ldn ⟨b,o+i*sz,none⟩ sz=some r:=by
 obtain ⟨a,c,rfl,k⟩:=h.is;obtain ⟨b,o,rfl,h2⟩:=k i r hi;exact ⟨b,o,c,rfl,h2⟩
def m7 (n:Int):Prop:=-9223372036854775808≤n∧n≤9223372036854775807
theorem aj {n:Int} (h:m7 n):IntKind.i64.wrap n=n:=IntWalk.i64_in n h
end Go.Proofs.Ytediokhgklkhnaa.A
