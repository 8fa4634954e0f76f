/- Texts that stand one behind the other: AbsN. -/
import Derived.Test.YtediokhgklkhnaaG9
import Derived.IntWalk
set_option linter.unusedVariables false
set_option linter.unusedSimpArgs false
namespace Go.Proofs.Ytediokhgklkhnaa.A
open Go Go.RowKit
structure Ext (H H':AH):Prop where
 n0:H'.n0=H.n0
 nx:H.nx≤H'.nx
 old:∀b,b<H.nx→H'.get b=H.get b
theorem Ext.refl (H:AH):Ext H H:=⟨rfl,GB _,fun _ _=>rfl⟩
theorem Ext.wf {H a:AH} (h:Ext H a) (w:H.n0≤H.nx):a.n0≤a.nx:=by rw [h.n0];exact GV w h.nx
theorem gG {a:Nat}:∀{l m:List Value} {j:Nat} {v:Value},ae a l=some m→m[j]?=some v→∃u,l[j]?=some u∧aj a u=some v
 |[],m,j,v,h,k=>by simp [ae]at h;subst h;simp at k
 |x::l,m,j,v,h,k=>by
  simp only [ae]at h;split at h
  case h_2=>cases h
  rename_i y e b c;cases h
  cases j with
  |zero=>simp at k;subst k;exact ⟨x,rfl,b⟩
  |succ j=>obtain ⟨u,d,h2⟩:=gG c (by simpa using k);exact ⟨u,by simpa using d,h2⟩
theorem fg {H:AH} {b o n j:Nat} {vs:List Value} {v:Value} (h:H.ldn ⟨b,o,none⟩ n=some vs) (a:vs[j]?=some v):H.ld ⟨b,o+j,none⟩=some v:=by
 have g:=(bx h).2;have m:=(GD.1 a).1;unfold AH.ldn at h;unfold AH.ld;dsimp only at h⊢
 cases d:H.get b with
 |none=>simp [d]at h
 |some x=>
  cases x with
  |map es=>simp [d]at h
  |cells z c=>
   simp only [d]at h⊢;obtain ⟨k,h⟩:=aa h;simp only [GK]at k
   have e:∀u,(List.take n (List.drop o c))[j]?=some u→c[o+j]?=some u:=by
    intro u f;rw [Ha,if_pos (by omega),Hg]at f;exact f
   cases i:decide (b<H.n0)with
   |false=>
    rw [i]at h;simp only [cond_false,Gy]at h;rw [←h]at a;rw [e v a];simp
   |true=>
    rw [i]at h;simp only [cond_true]at h;obtain ⟨u,l,h2⟩:=gG h a;rw [e u l];simp [h2]
structure Rows (H:AH) (sz:Nat) (v:Value) (rows:List (List Value)):Prop where
 is:∃a c,v= .slice a rows.length c∧∀i r,rows[i]?=some r→∃b o,a=some ⟨b,o,none⟩∧H.ldn ⟨b,o+i*sz,none⟩ sz=some r
theorem Rows.at {H:AH} {sz:Nat} {v:Value} {rows:List (List Value)} (h:Rows H sz v rows) {i:Nat} {r:List Value} (hi:rows[i]?=some r):
 ∃b o c,v= .slice (some ⟨b,o,none⟩) rows.length c∧H.ldn ⟨b,o+i*sz,none⟩ sz=some r:=by
 obtain ⟨a,c,rfl,k⟩:=h.is;obtain ⟨b,o,rfl,h2⟩:=k i r hi;exact ⟨b,o,c,rfl,h2⟩
def mz (n:Int):Prop:=-9223372036854775808≤n∧n≤9223372036854775807
theorem bI {n:Int} (h:mz n):IntKind.i64.wrap n=n:=IntWalk.i64_in n h
end Go.Proofs.Ytediokhgklkhnaa.A
