/- Texts that stand one behind the other: Pm5, Pm6, Pm7, Pm8, Pm9, Pm10, Pm11, Pm12. -/
import Derived.Test.YtppcmpmnglaleaaGreatG16
set_option linter.unusedVariables false
set_option linter.unusedSimpArgs false
namespace Go.Proofs.YtppcmpmnglaleaaGreat.A
namespace P
open Go Go.RowKit
variable{C:Cx} {W:Nat→Prop}
theorem KE (S:eu C) {sz:Nat} {p q r:PV} {x y:Value} {h':PH} (K:RV C p x) (J:RV C q y) (k:Bw sz C.h p q=some (r,h')) (hW:∀sz b o n c,p= .sl sz b o n c→W b):
 pq C W (lU sz C.H x y) r h':=by
 unfold Bw at k;split at k
 ·cases k
 rename_i m w;obtain ⟨R,w⟩:=aP w;have e:=GA J w R
 have F:∃l,j0 C.H sz 0 y=some l∧l.length=0:=by
  cases y with
  |slice a n c=>cases a<;>simp [j0,nb]
  |string s=>exact ⟨[],by simp [j0]⟩
  |_=>simp [mW]at e
 split at k
 ·cases k
  cases K;obtain ⟨l,g,M⟩:=F;refine pq.val S (.v _) ?_;simp only [lU,e,Nat.min_zero];rw [g];rfl
 ·rename_i gO b o n c
  split at k
  case h_2=>cases k
  rename_i z cs D;split at k
  case isFalse=>cases k
  rename_i hc;obtain ⟨rfl,j,O,h2⟩:=hc;have I:=sW K D O;split at k
  ·rename_i f
   cases k;obtain ⟨l,g,M⟩:=F;refine pq.val S (.v _) ?_;have:l=[]:=ap9.1 M;subst this;rcases I with⟨_,rfl,d,rfl,_⟩|⟨_,rfl⟩
   ·simp only [lU,e,f,g]
    cases d<;>rfl
   ·simp only [lU,e,f,g]
    rfl
  ·rename_i f
   split at k
   case h_2=>cases k
   rename_i new T;cases k;have L:0<Nat.min m n:=by omega
   have X:Nat.min m n≤n:=Nat.min_le_right _ _;obtain ⟨i,Z,E,_,u⟩:=sX S J T L j;have u:=u m e (Nat.min_le_left _ _);rcases I with⟨_,rfl,_⟩|⟨_,rfl⟩
   ·simp at f
   have N:0<cs.length:=by rw [←O];exact Nat.mul_pos (by omega) j
   obtain ⟨P,Y,G,V⟩:=S.cells (t:=0) D N;have kz:=G.length;have It:=E.length;have Q:(o+Nat.min m n)*gO≤(o+c)*gO:=Nat.mul_le_mul_right _ (by omega);rw [Nat.add_mul]at Q;obtain ⟨A,B⟩:=S.put (hW _ _ _ _ _ rfl) D (List.length_pos_iff.1 N) (jD (by omega)) (G.vI (k:=o*gO) E);refine ⟨.int .i64 (Nat.min m n),_,_,?_,.v _,A,B⟩;simp only [lU,e,Z]
   have U:i.isEmpty=false:=by
    cases i with
    |nil=>simp at u;have:=Nat.mul_pos L j;omega
    |cons=>rfl
   simp only [Option.bind_some,U,cond_false];unfold AH.st;simp only [Y];rw [show decide (C.H.n0≤C.φ b)=true by simp [V],show decide (o*gO+i.length≤P.length)=true by simp;omega];rfl
 ·cases k
theorem zY {a:X→PV} {b:X→Value} (h:∀x,RV C (a x) (b x)) {o:Option X} {r:Option Value} (k:Ky (o.map a)=some r):o.map b=r:=by
 cases o with
 |none=>simpa [Ky]using k
 |some x=>
  have c:=h x;simp only [Option.map_some]at k⊢;revert k;generalize a x=p at c;intro k
  cases p<;>first
   |(simp [Ky]at k;done)
   |skip
  cases c
  simpa [Ky]using k
theorem BA {v:Value} {y z n:Nat} (h:iH v y=some n) (a:n≤z):iH v z=some n:=by
 unfold iH at h⊢;cases v<;>simp_all;omega
theorem jX {v:Value} {y n:Nat} (h:iH v y=some n):n≤y:=by
 unfold iH at h;cases v<;>simp_all;omega
theorem Dd {n c:Nat} {lo hi:Option Value} {l e m:Nat} (h:bQ n n lo hi none=some (l,e,m)) (j:n≤c):bQ n c lo hi none=some (l,e,c)∧m=n∧l≤e∧e≤n:=by
 have k:=h;unfold bQ at h;obtain ⟨i,g,h⟩:=apR.1 h;obtain ⟨e',h2,h⟩:=apR.1 h;obtain ⟨b,a,h⟩:=apR.1 h;simp only [apH,apO]at h;obtain ⟨rfl,rfl,rfl⟩:=h
 have d:b≤e':=by
  cases lo with
  |none=>simp only [apH]at a;omega
  |some v=>exact jX a
 have f:e'≤n:=by
  cases hi with
  |none=>simp only [apH]at h2;omega
  |some v=>exact jX h2
 refine ⟨?_,by simpa using g.symm,d,f⟩;unfold bQ;refine apR.2 ⟨c,rfl,apR.2 ⟨e',?_,apR.2 ⟨b,a,rfl⟩⟩⟩
 cases hi with
 |none=>exact h2
 |some v=>exact BA h2 (by omega)
theorem GB {n c:Nat} {lo hi:Option Value} {v:Value} (h:bQ n n lo hi (some v)=some (0,0,0)) (f:n≤c):bQ n c lo hi (some v)=some (0,0,0):=by
 unfold bQ at h;obtain ⟨d,b,h⟩:=apR.1 h;obtain ⟨g,h2,h⟩:=apR.1 h;obtain ⟨e,a,h⟩:=apR.1 h;simp only [apH,apO]at h;obtain ⟨rfl,rfl,rfl⟩:=h;unfold bQ;refine apR.2 ⟨0,BA b (by omega),apR.2 ⟨0,?_,apR.2 ⟨0,a,rfl⟩⟩⟩
 cases hi with
 |none=>exact h2
 |some v=>exact h2
theorem uu {n c:Nat} {lo hi mx:Option Value} {l e m:Nat} (h:bQ n c lo hi mx=some (l,e,m)) (g:n≤c):m≤c∧(mx=none→m=c)∧l≤e∧e≤m:=by
 unfold bQ at h;obtain ⟨b,f,h⟩:=apR.1 h;obtain ⟨j,h2,h⟩:=apR.1 h;obtain ⟨i,d,h⟩:=apR.1 h;simp only [apH,apO]at h;obtain ⟨rfl,rfl,rfl⟩:=h
 have a:b≤c∧(mx=none→b=c):=by
  cases mx with
  |none=>simp only [apH]at f;omega
  |some v=>exact ⟨jX f,fun h=>by cases h⟩
 refine ⟨a.1,a.2, ?_, ?_⟩
 · cases lo with
   |none=>simp only [apH]at d;omega
   |some v=>exact jX d
 · cases hi with
   |none=>cases mx with
    |none=>simp only [apH]at h2;have:=a.2 rfl;omega
    |some v=>cases h2
   |some v=>cases mx with
    |none=>have:=jX h2;have:=a.2 rfl;omega
    |some w=>exact jX h2
theorem xW {sz:Nat} {a:Option Addr} {n c:Nat} {rs:List (List Value)} {F:Nat→Prop} {H:AH} (f:Rows H sz (.slice a n c) rs) (g:∀d,a=some d→(d.spot=none∨c=0)∧(n=0∨(F d.block∧H.lz d.block sz=true))) (m:0<n):∃b o,a=some ⟨b,o,none⟩∧rs.length=n∧F b∧H.lz b sz=true∧∀i r,rs[i]?=some r→H.ldn ⟨b,o+i*sz,none⟩ sz=some r:=by
 obtain ⟨u,s,e,q⟩:=f.is;simp only [Value.slice.injEq]at e;obtain ⟨rfl,h,rfl⟩:=e;obtain ⟨b,o,rfl,_⟩:=q 0 _ (apG (by omega));rcases (g _ rfl).2 with p|⟨j,h2⟩
 ·omega
 ·exact ⟨b,o,rfl,h.symm,j,h2,fun i r hi=>by obtain ⟨t,l,e,k⟩:=q i r hi;cases e;exact k⟩
theorem vL {sz:Nat} {a:Option Addr} {c:Nat} (h:∀d,a=some d→d.spot=none∨c=0):RF C.F C.H (.fs sz []) (.slice a 0 c):=
 .fs (rows:=[]) (rs:=[]) ⟨_,_,rfl,by simp⟩ (ap8 _) (fun d b=>⟨h d b,.inl rfl⟩) .nil
theorem VN (S:eu C) {sz:Nat} {p r:PV} {x:Value} {h':PH} {lo hi mx:Option X} {G:X→PV} {I:X→Value} (K:∀x,RV C (G x) (I x)) (y:RV C p x) (k:Mo sz C.h p (lo.map G) (hi.map G) (mx.map G)=some (r,h')):
 pq C W ((cj sz C.H x (lo.map I) (hi.map I) (mx.map I)).map fun v=>(v,C.H)) r h':=by
 unfold Mo at k;split at k
 case h_2=>cases k
 rename_i J qG Cj Q P e3;rw [zY K Q,zY K P,zY K e3];clear Q P e3 K;split at k
 ·rename_i g b o n c
  split at k
  case h_2=>cases k
  rename_i z cs l e m hh f;split at k
  case isFalse=>cases k
  rename_i F;obtain ⟨rfl,L,rfl,O,h2⟩:=F;have zK:=sW y hh O;split at k
  ·rename_i qT
   cases k;refine pq.val S y ?_;rcases zK with⟨_,rfl,d,rfl,j⟩|⟨a,_⟩
   case inr=>omega
   subst qT;obtain ⟨u,b2,b3,b4⟩:=uu f (apK _);obtain ⟨rfl,rfl,rfl⟩:l=0∧e=0∧m=0:=by omega
   simp only [cj,f,nb,show¬ z=0 by omega,decide_false,Bool.not_false,apK,decide_true,Bool.and_self,cond_true]
   cases d with
   |none=>rfl
   |some d=>simp
  rename_i qT;rcases zK with⟨a,_⟩|⟨_,rfl⟩
  ·omega
  have E:0<cs.length:=by rw [←O];exact Nat.mul_pos (by omega) L
  obtain ⟨vs,hg,b9,nE⟩:=S.cells (t:=0) hh E;have xu:C.H.lz (C.φ b) z=true:=by unfold AH.lz;rw [hg];simp
  split at k
  ·rename_i M
   split at k
   ·rename_i R
    cases k;subst R;refine pq.val S (x:=.slice (some ⟨C.φ b,o*z,some 1⟩) 0 0) (.fs (vL fun _ _=>.inr rfl)) ?_
    have hm:m=c:=by
     unfold bQ at f;obtain ⟨m',Y,f⟩:=apR.1 f;obtain ⟨e',wF,f⟩:=apR.1 f;obtain ⟨l',D,f⟩:=apR.1 f;simp only [apH,apO]at f Y;omega
    simp only [cj,f,nb,show¬ z=0 by omega,decide_false,Bool.not_false,h2,decide_true,Bool.and_self,cond_true,if_pos M,Option.isNone_none,true_and];rw [if_pos (by omega)];rfl
   ·rename_i R
    cases k;obtain ⟨A,B⟩:=S.void z W
    have U:l≤e:=by
     unfold bQ at f;obtain ⟨m',Y,f⟩:=apR.1 f;obtain ⟨e',wF,f⟩:=apR.1 f;obtain ⟨l',D,f⟩:=apR.1 f;simp only [apH,apO]at f;obtain ⟨rfl,rfl,rfl⟩:=f
     cases J with
     |none=>simp only [apH]at D;omega
     |some v=>exact jX D
    refine ⟨.slice (some ⟨C.φ b,o*z,none⟩) 0 0,_,_,?_,.sl ⟨_,_,rfl⟩ (by simp) ?_ (fun _=>.inl ⟨rfl,rfl,_,rfl,by rintro e ⟨⟩;rfl⟩),A,B⟩
    ·have:Cj.isNone=false:=by cases Cj with
      |none=>exact absurd rfl R
      |some _=>rfl
     simp only [cj,f,nb,show¬ z=0 by omega,decide_false,Bool.not_false,h2,decide_true,Bool.and_self,cond_true,if_pos M,this];simp;omega
    ·intro z9 cs9 e9
     simp
  ·rename_i M
   split at k
   case isFalse=>cases k
   rename_i T;cases k;subst T
   have U:l≤m:=by
    unfold bQ at f;obtain ⟨m',Y,f⟩:=apR.1 f;obtain ⟨e',wF,f⟩:=apR.1 f;obtain ⟨l',D,f⟩:=apR.1 f;simp only [apH,apO]at f;obtain ⟨rfl,rfl,rfl⟩:=f
    cases J with
    |none=>simp only [apH]at D;omega
    |some v=>have:=jX D;omega
   refine pq.val S (x:=.slice (some ⟨C.φ b,(o+l)*z,none⟩) (e- l) (m- l)) (y.slT (by omega) ⟨_,_,rfl⟩ (.inr ⟨by omega,rfl⟩)) ?_;simp only [cj,f,nb,show¬ z=0 by omega,decide_false,Bool.not_false,h2,decide_true,Bool.and_self,cond_true,if_neg M,Option.isNone_none,xu,Bool.or_true,Nat.add_mul];rfl
 ·rename_i g rows
  split at k
  case isFalse=>cases k
  rename_i F;obtain ⟨rfl,L⟩:=F
  cases y with|fs q=>
  cases q with| @fs _ _ a c rs hr hl N qN=>
  have hlen:=qN.length;split at k
  ·split at k
   case h_2=>cases k
   rename_i l e m f;split at k
   case isFalse=>cases k
   cases k;obtain ⟨u,rfl,b3,b4⟩:=Dd f hl;have w:e≤c:=by omega
   by_cases E:c=l
   ·have nv:(rows.take e).drop l=[]:=aqe (by simp;omega)
    rw [nv]
    have j:∃d,cj g C.H (.slice a rows.length c) J qG none=some (.slice d 0 0):=by
     simp only [cj,u,nb,show¬ g=0 by omega,decide_false,Bool.not_false,w,decide_true,Bool.and_self,cond_true]
     cases a with
     |none=>exact ⟨none,by simp;omega⟩
     |some a=>
      simp only [if_pos E];split
      ·exact ⟨_,rfl⟩
      ·exact ⟨some a,by rw [show e- l=0 by omega]⟩
    obtain ⟨d,j⟩:=j;refine pq.val S (x:=.slice d 0 0) (.fs (vL fun _ _=>.inr rfl)) (by rw [j];rfl)
   ·by_cases hn:rows.length=0
    ·obtain ⟨rfl,rfl⟩:l=0∧e=0:=by omega
     have:(rows.take 0).drop 0=[]:=by simp
     rw [this];refine pq.val S (x:=.slice a 0 c) (.fs (vL fun d j=>(N d j).1)) ?_;simp only [cj,u,nb,show¬ g=0 by omega,decide_false,Bool.not_false,w,decide_true,Bool.and_self,cond_true]
     cases a with
     |none=>simp
     |some a=>
      rcases (N _ rfl).1 with Z|Z
      ·obtain ⟨bb,oo,ss⟩:=a
       simp only at Z;subst Z;simp [if_neg E]
      ·omega
    ·obtain ⟨b,o,rfl,O,h2,V,h4⟩:=xW hr N (by omega)
     refine pq.val S (x:=.slice (some ⟨b,o+l*g,none⟩) (e- l) (c- l)) ?_ ?_
     ·have Q:((rows.take e).drop l).length=e- l:=by simp;omega
      have P:((rs.take e).drop l).length=((rows.take e).drop l).length:=by simp;omega
      rw [←Q];refine .fs (.fs (rs:=(rs.take e).drop l) ⟨_,_,by rw [P],fun i r hi=>⟨b,o+l*g,rfl,?_⟩⟩ (by omega) ?_ ((qN.take e).drop l))
      ·rw [aqk,aqf]at hi
       split at hi
       case isFalse=>cases hi
       have:=h4 _ _ hi;rw [Nat.add_mul]at this;rw [←this];congr 2;omega
      ·rintro d ⟨⟩
       exact ⟨.inl rfl,.inr ⟨h2,V⟩⟩
     ·simp only [cj,u,nb,show¬ g=0 by omega,decide_false,Bool.not_false,w,decide_true,Bool.and_self,cond_true,if_neg E,Option.isNone_none,V,Bool.or_true]
      rfl
  ·split at k
   case isFalse=>cases k
   rename_i f;have u:=GB f hl;split at k
   ·cases k
    have j:∃d,cj g C.H (.slice a 0 c) J qG (some ‹Value›)=some (.slice d 0 0):=by
     simp only [List.length_nil]at u;simp only [cj,u,nb,show¬ g=0 by omega,decide_false,Bool.not_false,apK,decide_true,Bool.and_self,cond_true]
     cases a with
     |none=>exact ⟨none,rfl⟩
     |some a=>exact ⟨some a,by simp⟩
    obtain ⟨d,j⟩:=j;refine pq.val S (x:=.slice d 0 0) (.fs (vL fun _ _=>.inr rfl)) (by simp only [List.length_nil];rw [j];rfl)
   ·rename_i r0 rows
    cases k;obtain ⟨b,o,rfl,O,h2,V,h4⟩:=xW hr N (by simp);obtain ⟨A,B⟩:=S.void g W;refine ⟨.slice (some ⟨b,o,none⟩) 0 0,_,_,?_,.sl ⟨_,_,rfl⟩ (by simp) ?_ (fun _=>.inl ⟨rfl,rfl,_,rfl,by rintro e ⟨⟩;rfl⟩),A,B⟩
    ·simp only [cj,u,nb,show¬ g=0 by omega,decide_false,Bool.not_false,apK,decide_true,Bool.and_self,cond_true]
     simp
    ·intro z9 cs9 e9
     simp
 ·split at k
  case isFalse=>cases k
  rename_i F;cases k;cases y;refine pq.val S (.v _) ?_;obtain ⟨⟨l,e,m⟩,f⟩:=aqi.1 F.2;obtain ⟨u,b2,b3,b4⟩:=uu f (apK _);obtain ⟨rfl,rfl,rfl⟩:l=0∧e=0∧m=0:=by omega
  simp only [cj,f,nb,show¬ sz=0 by omega,decide_false,Bool.not_false,apK,decide_true,Bool.and_self,cond_true];rfl
 ·rename_i s
  split at k
  ·cases k
  ·split at k
   case h_2=>cases k
   rename_i l e m f;split at k
   case isFalse=>cases k
   rename_i L;cases k;subst L;cases y;refine pq.val S (.v _) ?_;simp only [cj,f];rfl
 ·cases k
end P
namespace P
open Go Go.RowKit
variable{C:Cx} {W:Nat→Prop}
theorem BB {k:Value}:∀{es:List (Value×PV)} {ys:List (Value×Value)} {r:Option PV},es.map (·.1)=ys.map (·.1)→cK C (es.map (·.2)) (ys.map (·.2))→ur k es=some r→(r=none∧gk k ys=some none)∨∃p v,r=some p∧gk k ys=some (some v)∧RV C p v
 |[],ys,r,h,_,e=>by
  cases ys with
  |nil=>cases e;exact .inl ⟨rfl,rfl⟩
  |cons=>simp at h
 |(n,p)::es,ys,r,h,g,e=>by
  cases ys with
  |nil=>simp at h
  |cons y ys=>
   obtain ⟨m,v⟩:=y;simp only [List.map_cons,List.cons.injEq]at h;obtain ⟨rfl,h⟩:=h;simp only [List.map_cons]at g
   cases g with|cons l j=>
   simp only [ur]at e;split at e
   ·rename_i d
    cases e;exact .inr ⟨p,v,rfl,by simp [gk,d],l⟩
   ·rename_i d
    rcases BB h j e with⟨a,b⟩|⟨i,f,a,b,c⟩
    ·exact .inl ⟨a,by simp [gk,d,b]⟩
    ·exact .inr ⟨i,f,a,by simp [gk,d,b],c⟩
   ·cases e
theorem GC {k:Value} {p:PV} {v:Value} (i:RV C p v):∀{es fs:List (Value×PV)} {ys:List (Value×Value)},es.map (·.1)=ys.map (·.1)→cK C (es.map (·.2)) (ys.map (·.2))→zU k p es=some fs→∃d,lV k v ys=some d∧fs.map (·.1)=d.map (·.1)∧cK C (fs.map (·.2)) (d.map (·.2))
 |[],fs,ys,h,_,e=>by
  cases ys with
  |nil=>cases e;exact ⟨[(k,v)],rfl,rfl,.cons i .nil⟩
  |cons=>simp at h
 |(n,q)::es,fs,ys,h,g,e=>by
  cases ys with
  |nil=>simp at h
  |cons y ys=>
   obtain ⟨r,m⟩:=y;simp only [List.map_cons,List.cons.injEq]at h;obtain ⟨rfl,h⟩:=h;simp only [List.map_cons]at g
   cases g with|cons o l=>
   simp only [zU]at e;split at e
   ·rename_i f
    cases e;exact ⟨(k,v)::ys,by simp [lV,f],by simp [h],.cons i l⟩
   ·rename_i f
    cases j:zU k p es with
    |none=>simp [j]at e
    |some s=>
     simp only [j,Option.map_some,apH]at e;subst e;obtain ⟨d,a,b,c⟩:=GC i h l j;exact ⟨(n,m)::d,by simp [lV,f,a],by simp [b],.cons o c⟩
   ·cases e
theorem GD {b:Nat} {x:Value} {es:List (Value×PV)} (h:RV C (.mp b) x) (e:C.h[b]?=some (.map es)):x= .map (some (C.φ b)):=by
 cases h with|mp _ c a=>exact a ⟨es,e⟩
theorem KG (S:eu C) {kk:Nat} {z:Value} {p q r:PV} {x y:Value} {ok:Bool} (h:RV C p x) (g:RV C q y) (k:Bv kk z C.h p q ok=some r):∃w,iU kk z C.H x y ok=some w∧RV C r w:=by
 have j:∃w,(bif ok then Value.tuple #[z,.bool false]else z)=w∧RV C (bif ok then .kG [wx z,.v (.bool false)]else wx z) w:=by
  refine ⟨_,rfl,?_⟩;cases ok
  ·exact zW z
  ·exact .kG (xs:=[z,.bool false]) (.cons (zW z) (.cons (.v _) .nil))
 obtain ⟨m,a,n⟩:=j;unfold Bv at k;split at k
 ·cases h;cases g
  split at k
  case isFalse=>cases k
  rename_i f;cases k;exact ⟨m,by simp [iU,f,←a],n⟩
 ·rename_i b B
  cases g;split at k
  case h_2=>cases k
  rename_i es o;split at k
  case isFalse=>cases k
  rename_i f;rw [GD h o];obtain ⟨A,s,u,t,l,_⟩:=S.um _ _ o;have d:decide (C.H.n0≤C.φ b)=true:=by simp [l]
  cases i:ur y es with
  |none=>simp [i]at k
  |some q=>
   rcases BB u t i with⟨rfl,e⟩|⟨p,v,rfl,e,c⟩
   ·simp only [i,apH]at k
    subst k;exact ⟨m,by simp [iU,s,f,l,e,←a],n⟩
   ·simp only [i,apH]at k
    subst k;refine ⟨(bif ok then Value.tuple #[v,.bool true]else v),by simp [iU,s,f,l,e],?_⟩;cases ok
    ·exact c
    ·exact .kG (xs:=[v,.bool true]) (.cons c (.cons (.v _) .nil))
 ·cases k
theorem PA (S:eu C) {kk:Nat} {p q r:PV} {x y z:Value} {i:PH} (h:RV C p x) (g:RV C q y) (f:RV C r z) (k:Gx kk C.h p q r=some i) (t:∀b,p= .mp b→W b):∃H',qL kk C.H x y z=some H'∧eu ⟨C.F,H',C.φ,i⟩∧dR C.h.length W C ⟨C.F,H',C.φ,i⟩:=by
 unfold Gx at k;split at k
 ·rename_i b D
  cases g;split at k
  case h_2=>cases k
  rename_i es d;split at k
  case isFalse=>cases k
  rename_i j;rw [GD h d];obtain ⟨w,o,n,l,m,_⟩:=S.um _ _ d
  cases e:zU y r es with
  |none=>simp [e]at k
  |some E=>
   simp only [e,Option.map_some,apH]at k;subst k;obtain ⟨v,a,u,c⟩:=GC f n l e;obtain ⟨A,B⟩:=S.aeb (t _ rfl) d u c;refine ⟨_,?_,A,B⟩;obtain ⟨cs,s⟩:=aqi.1 j.2;simp [qL,o,j.1,m,a,(jm f s).2]
 ·cases k
theorem GF (S:eu C) (W:Nat→Prop) {z:Nat} {cs:List PV} {vs:List Value} (h:cK C cs vs):pq C W (some (.pointer (some ⟨C.H.nx,0,none⟩),C.H.alloc (.cells z vs))) (.ref C.h.length 0 cs.length) (C.h++[.cells z cs]):=by
 obtain ⟨A,B⟩:=S.new (P:=.cells z cs) (B:=.cells z vs) W (.inl ⟨_,_,_,rfl,rfl,h⟩);refine ⟨_,_,_,rfl,.ref rfl (by simp) ?_ (fun _=>by simp [gZ]),A,B⟩;intro c b a;rw [show(C.h++[PB.cells z cs])[C.h.length]?=_ from lq _ _]at a;cases a;exact apK _
theorem BC (S:eu C) (W:Nat→Prop) {sz len:Nat} {cs:List PV} {vs:List Value} (h:cK C cs vs) (b:cs.length=len*sz) (g:0<sz):pq C W (some (.slice (some ⟨C.H.nx,0,none⟩) len len,C.H.alloc (.cells sz vs))) (.sl sz C.h.length 0 len len) (C.h++[.cells sz cs]):=by
 obtain ⟨A,B⟩:=S.new (P:=.cells sz cs) (B:=.cells sz vs) W (.inl ⟨_,_,_,rfl,rfl,h⟩);refine ⟨_,_,_,rfl,.sl ⟨_,_,rfl⟩ (by simp) ?_ (fun _=>?_),A,B⟩
 ·intro f d a
  rw [show(C.h++[PB.cells sz cs])[C.h.length]?=_ from lq _ _]at a;cases a;simp [b]
 ·by_cases c:len=0
  ·subst c;exact .inl ⟨rfl,rfl,_,rfl,by rintro e ⟨⟩;rfl⟩
  ·exact .inr ⟨by omega,by simp [gZ]⟩
theorem GG:∀{ps:List PV} {l xs:List Value},Pu ps=some l→cK C ps xs→xs=l
 |[],l,xs,h,g=>by cases g;cases h;rfl
 |p::ps,l,xs,h,g=>by
  cases g with|cons b a=>
  cases p with
  |v x=>
   cases b;simp only [Pu]at h
   cases h2:Pu ps with
   |none=>simp [h2]at h
   |some m=>
    simp only [h2,Option.map_some,apH]at h;rw [←h,GG h2 a]
  |_=>simp [Pu]at h
theorem BD {cs ds:List PV} {xs ys:List Value} (h:cK C cs xs) (g:cK C ds ys):∀{offs:List (Nat×Nat)} {b:Bool},Dc cs ds offs=some b→du xs ys offs=some b
 |[],b,e=>e
 |(o,kk)::l,b,e=>by
  simp only [Dc]at e;split at e
  case h_2=>cases e
  rename_i a m k h2;obtain ⟨x,i,rx⟩:=h.get k;obtain ⟨y,f,d⟩:=g.get h2;cases rx;cases d;split at e
  case isFalse=>cases e
  rename_i j;simp only [du,i,f,j,cond_true];split at e
  ·rename_i c;rw [c];exact BD h g e
  ·rename_i c;rw [c];exact e
  ·cases e
theorem Mr {f:Value→List Value→Option Value} {p r:PV} {x:Value} {ps:List PV} {xs:List Value} (h:RV C p x) (g:cK C ps xs) (k:VF f p ps=some r):∃y,f x xs=some y∧RV C r y:=by
 unfold VF at k;split at k
 ·rename_i c b e
  cases h;rw [GG e g]
  cases a:f x b with
  |none=>simp [a]at k
  |some y=>simp only [a,Option.map_some,apH]at k;subst k;exact ⟨y,rfl,.v _⟩
 ·cases k
def up (r:Option (Value×AH)):Option (jI×AH):=r.map fun q=>(.v q.1,q.2)
theorem KH (o n:Nat) (c:Bool) (vs:List Value) (H:AH):DU (.HR o n c) vs H=(R8 (.HR o n c) vs).map fun v=>(v,H):=by
 match vs with
 |[]=>rfl
 |[a]=>cases a<;>rfl
 |a::b::l=>cases a<;>rfl
theorem KI (len n:Nat) (d:Bool) (vs:List Value) (H:AH):DU (.HS len n d) vs H=(R8 (.HS len n d) vs).map fun v=>(v,H):=by
 match vs with
 |[]=>rfl
 |[a]=>cases a<;>rfl
 |[a,b]=>
  cases a<;>first|rfl|skip
  cases b<;>first|rfl|skip
  simp only [DU,R8];split<;>rfl
 |a::b::c::l=>cases a<;>first|rfl|(cases b<;>rfl)
theorem BE {C:Cx} {ps:List PV} {vs:List Value} {n:Nat} {c:Bool} {q:PV} (h:cK C ps vs) (e:xT ps n c=some q):∃y,qf vs n c=some y∧RV C q y:=by
 unfold xT at e;split at e
 case isFalse=>cases e
 rename_i f;have d:vs.length=n:=by rw [←h.length];exact f
 unfold qf;rw [nb,decide_eq_true d,cond_true]
 cases c with
 |true=>
  simp only [cond_true,apH]at e;subst e;exact ⟨_,rfl,.agg h⟩
 |false=>
  simp only [cond_false]at e⊢;split at e
  ·cases e
   cases h with|cons a b=>
   cases b;exact ⟨_,rfl,a⟩
  ·cases e
theorem eo {C:Cx} (S:eu C) {p:PV} {h':PH} {r:Option PV} {r':Option Value} {a:Option (jI×AH)} (f:a=r'.map fun v=>(.v v,C.H)) (k:(r.map fun v=>(v,C.h))=some (p,h')) (e:∀q,r=some q→∃y,r'=some y∧RV C q y):∃b,a=up b∧pq C W b p h':=by
 cases c:r with
 |none=>simp [c]at k
 |some q=>
  simp only [c,Option.map_some,apH,apO]at k;obtain ⟨rfl,rfl⟩:=k;obtain ⟨y,d,g⟩:=e q c;refine ⟨some (y,C.H),by rw [f,d];rfl,pq.val S g rfl⟩
theorem PD {H:AH} {b:X→Value} {sz:Nat} {x i:X}:aA (.ia sz x i) b H=(LW sz (b x) (b i)).map fun v=>(.v v,H):=by
 simp only [aA]
 cases b x with
 |slice a len c=>
  cases a with
  |none=>rfl
  |some a=>
   cases b i<;>first
    |rfl
    |(simp only [LW];split<;>first|rfl|(cases a.spot.isNone<;>rfl))
 |_=>rfl
theorem KJ {H:AH} {b:X→Value} {len sz:Nat} {x i:X}:aA (.wz len sz x i) b H=(xf len sz (b x) (b i)).map fun v=>(.v v,H):=by
 simp only [aA]
 cases b x with
 |pointer a=>
  cases a with
  |none=>rfl
  |some a=>
   cases b i<;>first
    |rfl
    |(simp only [xf];split<;>first|rfl|(cases a.spot.isNone<;>rfl))
 |_=>rfl
theorem EU {H:AH} {a:X→Value} {x i:X}:aA (.ix x i) a H=(DC (a x) (a i)).map fun v=>(.v v,H):=by
 simp only [aA]
 cases a x with
 |string s=>
  cases a i<;>first
   |rfl
   |(simp only [DC];rename_i n;cases s[n.toNat]?<;>(split<;>rfl))
 |_=>rfl
theorem GH {H:AH} {a:X→Value} {kk:Nat} {z:Value} {x c:X} {ok:Bool}:aA (.look kk z x c ok) a H=(iU kk z H (a x) (a c) ok).map fun v=>(.v v,H):=by
 simp only [aA,iU]
 cases a x with
 |map r=>
  cases r with
  |none=>dsimp only;cases cO kk (a c)<;>rfl
  |some r=>
   dsimp only
   cases H.get r with
   |none=>rfl
   |some b=>
    cases b with
    |cells=>rfl
    |map es=>
     dsimp only;cases cO kk (a c)&&decide (H.n0≤r)
     ·rfl
     ·cases gk (a c) es with
      |none=>rfl
      |some q=>cases q<;>rfl
 |_=>rfl
theorem KL {H:AH} {c:X→Value} {neg:Bool} {offs:List (Nat×Nat)} {x y:X}:aA (.eqs neg offs x y) c H=(xh neg offs (c x) (c y)).map fun v=>(.v v,H):=by
 simp only [aA]
 cases c x<;>cases c y<;>first
  |rfl
  |(simp only [xh];rename_i a b;cases du a.toList b.toList offs<;>rfl)
theorem PE {C:Cx} (S:eu C) {o:cQ} {G:X→PV} {u:X→Value} {p:PV} {h':PH} (h:∀x,RV C (G x) (u x)) (k:pop o G C.h=some (p,h')):∃b,aA o u C.H=up b∧pq C (· ∈xU o G) b p h':=by
 cases o with
 |mv x=>cases k;exact ⟨some (u x,C.H),rfl,pq.val S (h x) rfl⟩
 |pick c a b=>
  refine eo S (r':=xe (u c) (u a) (u b)) (by simp only [aA];cases u c<;>rfl) k fun q j=> ?_
  have I:=h c;revert j I;generalize G c=pc;intro j I
  cases pc<;>first
   |(cases j;done)
   |skip
  rename_i w
  cases w<;>first
   |(cases j;done)
   |skip
  rename_i t;cases j;rw [I.pk];refine ⟨_,rfl, ?_⟩;cases t
  · exact h b
  · exact h a
 |alloc z=>
  cases k;refine ⟨some (.pointer (some ⟨C.H.nx,0,none⟩),C.H.alloc (.cells z.length z)),rfl, ?_⟩;have:=GF S (· ∈xU (.alloc z) G) (z:=z.length) (cK.lits z);rw [List.length_map]at this;exact this
 |box x=>
  simp only [pop,KA]at k;split at k
  case h_2=>cases k
  rename_i cs I;cases k;obtain ⟨a,b⟩:=jm (h x) I;refine ⟨some (.pointer (some ⟨C.H.nx,0,none⟩),C.H.alloc (.cells (aW (u x)).length (aW (u x)))),by simp [aA,b,up], ?_⟩;rw [←a.length];exact GF S _ a
 |build z ps=>
  cases R:po (z.map .v) (ps.map fun p=>(p.1,p.2.1,G p.2.2))with
  |none=>simp [pop,R]at k
  |some d=>
   simp only [pop,R,Option.map_some,apH,apO]at k;obtain ⟨rfl,rfl⟩:=k;obtain ⟨Q,e,g⟩:=Bx (KB.of h ps) (cK.lits z) R;exact ⟨some (.agg Q.toArray,C.H),by simp [aA,e,up],pq.val S (.agg g) rfl⟩
 |bsl len sz z ps=>
  simp only [pop,Kz]at k;split at k
  case h_2=>cases k
  rename_i d R;split at k
  case isFalse=>cases k
  rename_i I;cases k;obtain ⟨Q,e,g⟩:=Bx (KB.of h ps) (cK.lits z) R;exact ⟨some (.slice (some ⟨C.H.nx,0,none⟩) len len,C.H.alloc (.cells sz Q)),by simp [aA,e,up],BC S _ g I.1 I.2⟩
 |ld x=>exact eo S (r':=Rq C.H (u x)) (by
   simp only [aA]
   cases u x with
   |pointer a=>cases a<;>rfl
   |_=>rfl) k fun q j=>Mq S (h x) j
 |ldn n x=>exact eo S (r':=tB n C.H (u x)) (by
   simp only [aA]
   cases u x with
   |pointer a=>
    cases a with
    |none=>rfl
    |some a=>simp only [tB];cases C.H.ldn a n<;>rfl
   |_=>rfl) k fun q j=>zX S (h x) j
 |st n x v=>
  cases J:Po n C.h (G x) (G v)with
  |none=>simp [pop,J]at k
  |some h2=>
   simp only [pop,J,Option.map_some,apH,apO]at k;obtain ⟨rfl,rfl⟩:=k;obtain ⟨N,e,A,B⟩:=VG (W:=(· ∈xU (.st n x v) G)) S (h x) (h v) J (fun b o t e=>by simp [xU,e]);refine ⟨some (undef,N), ?_,undef,N,C.φ,rfl, .v _,A,B⟩
   have:aA (.st n x v) u C.H=(Fp n C.H (u x) (u v)).map fun N=>(.v undef,N):=by
    simp only [aA]
    cases u x with
    |pointer a=>
     cases a with
     |none=>rfl
     |some a=>simp only [Fp];cases (Nat.beq (aW (u v)).length n&& !cN (u v))<;>simp
    |_=>rfl
   rw [this,e];rfl
 |bB x=>
  refine eo S (r':=tO (u x)) (by
   simp only [aA]
   cases u x with
   |pointer a=>cases a<;>rfl
   |_=>rfl) k fun q j=> ?_
  obtain ⟨a,b⟩:=KD (h x) j;exact ⟨_,a,b⟩
 |bin op x y=>
  refine eo S (r':=de op (u x) (u y)) rfl k fun q j=> ?_
  have D:=h x;have K:=h y;unfold Gv at j;split at j
  · rename_i a b E M
    rw [E]at D;rw [M]at K;rw [D.pk,K.pk]
    cases F:de op a b with
    |none=>simp [F]at j
    |some w=>simp only [F,Option.map_some,apH]at j;subst j;exact ⟨w,rfl, .v _⟩
  · cases j
 |eqk kk neg x y=>
  cases J:Kw C.h kk (G x) (G y)with
  |none=>simp [pop,J]at k
  |some b=>
   simp only [pop,J,Option.map_some,apH,apO]at k;obtain ⟨rfl,rfl⟩:=k;exact ⟨some (.bool (bif neg then !b else b),C.H),by simp only [aA];rw [KC (h x) (h y) J];rfl,pq.val S (.v _) rfl⟩
 |un op x=>
  refine eo S (r':=DT op (u x)) rfl k fun q j=> ?_
  have D:=h x;unfold pun at j;split at j
  · rename_i a E
    rw [E]at D;rw [D.pk]
    cases F:DT op a with
    |none=>simp [F]at j
    |some w=>simp only [F,Option.map_some,apH]at j;subst j;exact ⟨w,rfl, .v _⟩
  · cases j
 |B9 kk x=>
  refine eo S (r':=Fs kk (u x)) (by simp only [aA];cases u x<;>rfl) k fun q j=> ?_
  have D:=h x;unfold Pp at j;split at j
  · rename_i V n E
    rw [E]at D;rw [D.pk];cases j;exact ⟨_,rfl, .v _⟩
  · cases j
 |QH x=>
  refine eo S (r':=TM (u x)) (by simp only [aA];cases u x<;>rfl) k fun q j=> ?_
  have D:=h x;unfold Pq at j;split at j
  · rename_i V n E
    rw [E]at D;rw [D.pk];cases j;exact ⟨_,rfl, .v _⟩
  · cases j
 |mkf f first cap=>cases k;exact ⟨some (.func (.func f) (first.map u).toArray (cap.map u).toArray,C.H),rfl,pq.val S (.fn (cK.of h first) (cK.of h cap)) rfl⟩
 |mkmap=>
  cases k;obtain ⟨A,B⟩:=S.new (P:= .map []) (B:= .map []) (· ∈xU .mkmap G) (.inr ⟨[],[],rfl,rfl,rfl, .nil⟩);exact ⟨some (.map (some C.H.nx),C.H.alloc (.map [])),rfl,_,_,_,rfl, .mp rfl (by simp) (fun _=>by simp [gZ]),A,B⟩
 |mksl sz bytes z x=>
  have D:=h x;simp only [pop]at k;unfold Gy at k;split at k
  · rename_i V n E
    rw [E]at D;split at k
    case isFalse=>cases k
    rename_i I;cases k;refine ⟨some (.slice (some ⟨C.H.nx,0,none⟩) n.toNat n.toNat,C.H.alloc (.cells sz (List.replicate n.toNat z).flatten)), ?_,BC S _ ((cK.lits z).VD _) ?_ I.2.2.2.2⟩
    · have d3:decide ((bytes:Int)*n≤2^47)=true:=decide_eq_true I.2.2.1
      simp only [aA,D.pk,decide_eq_true I.1,decide_eq_true I.2.1,d3,Bool.and_self,cond_true];rfl
    · have Y:=I.2.2.2.1
      clear I D E
      induction n.toNat with
      |zero=>simp
      |succ m ih=>simp only [List.replicate_succ,List.flatten_cons,apP,List.length_map,ih,Nat.succ_mul];omega
  · cases k
 |sl sz x lo hi mx=>exact ⟨_,by simp only [aA,up,Option.map_map];rfl,VN S h (h x) k⟩
 |fa off x=>
  refine eo S (r':=LV off (u x)) ?_ k fun q j=>VI (h x) j
  simp only [aA]
  cases u x with
  |pointer a=>
   cases a with
   |none=>rfl
   |some a=>simp only [LV];cases a.spot.isNone<;>rfl
  |_=>rfl
 |ia sz x i=>exact eo S PD k fun q j=>VJ (h x) (h i) j
 |wz len sz x i=>exact eo S KJ k fun q j=>Px (h x) (h i) j
 |ix x i=>
  refine eo S EU k fun q j=> ?_
  have D:=h x;have K:=h i;unfold pix at j;split at j
  · rename_i a b E M
    rw [E]at D;rw [M]at K;rw [D.pk,K.pk]
    cases F:DC a b with
    |none=>simp [F]at j
    |some w=>simp only [F,Option.map_some,apH]at j;subst j;exact ⟨w,rfl, .v _⟩
  · cases j
 |look kk z x L ok=>exact eo S GH k fun q j=>KG S (h x) (h L) j
 |qg kk x L v=>
  cases J:Gx kk C.h (G x) (G L) (G v)with
  |none=>simp [pop,J]at k
  |some h2=>
   simp only [pop,J,Option.map_some,apH,apO]at k;obtain ⟨rfl,rfl⟩:=k;obtain ⟨N,e,A,B⟩:=PA (W:=(· ∈xU (.qg kk x L v) G)) S (h x) (h L) (h v) J (fun b e=>by simp [xU,e]);refine ⟨some (undef,N), ?_,undef,N,C.φ,rfl, .v _,A,B⟩
   have:aA (.qg kk x L v) u C.H=(qL kk C.H (u x) (u L) (u v)).map fun N=>(.v undef,N):=by
    simp only [aA,qL]
    cases u x with
    |map r=>
     cases r with
     |none=>rfl
     |some r=>
      dsimp only
      cases C.H.get r with
      |none=>rfl
      |some b=>
       cases b with
       |cells=>rfl
       |map es=>
        dsimp only;cases (cO kk (u L)&&decide (C.H.n0≤r)&& !cN (u v))
        · rfl
        · simp only [cond_true]
          cases lV (u L) (u v) es<;>rfl
    |_=>rfl
   rw [this,e];rfl
 |ext x i=>
  refine eo S (r':=xg (u x) i) (by
   simp only [aA]
   cases u x with
   |tuple vs=>simp only [xg];cases vs.toList[i]?<;>rfl
   |_=>rfl) k fun q j=> ?_
  have D:=h x;unfold Pt at j;split at j
  · rename_i ps i' E
    rw [E]at D;revert D;generalize u x=y;intro D
    cases D with|kG g=>
    obtain ⟨z,Y,gz⟩:=g.get j;exact ⟨z,by simpa [xg]using Y,gz⟩
  · cases j
 |xt Z l=>
  have O:=cK.of h l
  cases Z with
  |bad=>simp only [pop,R7]at k;cases k
  |tD=>simp only [pop,R7]at k;cases k
  |HR o n T=>
   refine eo S (r':=R8 (.HR o n T) (l.map u)) (by simp only [aA,KH,Option.map_map];rfl) k fun q j=> ?_
   unfold R7 at j;split at j
   case h_2=>cases ‹XK.HR o n T=XK.HS _ _ _›
   case h_3=>cases j
   rename_i o' n' U cs E M;cases E;rw [M]at O;generalize l.map u=Q at O
   cases O with|cons a b=>
   cases b
   cases a with|agg g=>
   obtain ⟨v,e,r⟩:=BE ((g.drop o).take n) j;exact ⟨v,e,r⟩
  |HS len n T=>
   refine eo S (r':=R8 (.HS len n T) (l.map u)) (by simp only [aA,KI,Option.map_map];rfl) k fun q j=> ?_
   unfold R7 at j;split at j
   case h_1=>cases ‹XK.HS len n T=XK.HR _ _ _›
   case h_3=>cases j
   rename_i am9 n' U cs ki i E M;cases E;rw [M]at O;generalize l.map u=Q at O
   cases O with|cons a b=>
   cases b with|cons b c=>
   cases c;cases b
   cases a with|agg g=>
   split at j
   · rename_i hi
     obtain ⟨v,e,r⟩:=BE ((g.drop (i.toNat*n)).take n) j;refine ⟨v, ?_,r⟩;simp only [R8,if_pos hi];exact e
   · cases j
 |call f «as»=>cases k
 |callv x «as»=>cases k
 |app sz bytes s x=>exact ⟨_,rfl,Py S (h s) (h x) k (fun sz b o n c e=>by simp [xU,e])⟩
 |copy sz d s=>exact ⟨_,rfl,KE S (h d) (h s) k (fun sz b o n c e=>by simp [xU,e])⟩
 |lens x=>
  refine eo S (r':=sk (u x)) (by simp only [aA];cases u x<;>rfl) k fun q j=> ?_
  have D:=h x;unfold Gw at j;split at j
  · rename_i a E
    rw [E]at D;rw [D.pk]
    cases F:sk a with
    |none=>simp [F]at j
    |some w=>simp only [F,Option.map_some,apH]at j;subst j;exact ⟨w,rfl, .v _⟩
  · cases j
 |eQ x=>
  refine eo S (r':=sn (u x)) (by simp only [aA];cases u x<;>rfl) k fun q j=> ?_
  have D:=h x;unfold Bu at j;split at j
  · rename_i a E
    rw [E]at D;rw [D.pk]
    cases F:sn a with
    |none=>simp [F]at j
    |some w=>simp only [F,Option.map_some,apH]at j;subst j;exact ⟨w,rfl, .v _⟩
  · rename_i sz b o n c E
    rw [E]at D;cases j;revert D;generalize u x=y;intro D
    cases D with|sl hn _ _ _=>
    obtain ⟨_,_,rfl⟩:=hn;exact ⟨_,rfl, .v _⟩
  · rename_i sz rows E
    rw [E]at D;cases j;revert D;generalize u x=y;intro D
    cases D with|fs g=>
    cases g;exact ⟨_,rfl, .v _⟩
  · cases j
 |QI t x=>cases k;exact ⟨some (.iface t (u x),C.H),rfl,pq.val S (.pj (h x)) rfl⟩
 |mxl x l=>exact eo S (r':=HQ (u x) (l.map u)) rfl k fun q j=>Mr (h x) (cK.of h l) j
 |mnl x l=>exact eo S (r':=Lp (u x) (l.map u)) rfl k fun q j=>Mr (h x) (cK.of h l) j
 |eqs neg offs x y=>
  refine eo S KL k fun q j=> ?_
  have D:=h x;have K:=h y;unfold Pv at j;split at j
  · rename_i cs ds E M
    rw [E]at D;rw [M]at K;revert D K;generalize u x=a;generalize u y=b;intro D K
    cases D with|agg gx=>
    cases K with|agg gy=>
    cases F:Dc cs ds offs with
    |none=>simp [F]at j
    |some w=>
     simp only [F,Option.map_some,apH]at j;subst j;exact ⟨_,by simp only [xh,List.toList_toArray];rw [BD gx gy F];rfl, .v _⟩
  · cases j
end P
namespace P
open Go Go.RowKit
structure PF where
 g:Nat→PV
def PF.get (f:PF) (n:Nat):PV:=f.g n
def PF.put (f:PF) (n:Nat) (p:PV):PF:=⟨fun m=>if m=n then p else f.g m⟩
def PF.bg (f:PF) (d:Option Nat) (p:PV):PF:=match d with|some n=>f.put n p|none=>f
def PF.of (l:List PV):PF:=⟨fun n=>l.getD n .any⟩
theorem PF.bR (f:PF) (n m:Nat) (p:PV):(f.put n p).get m=if m=n then p else f.get m:=rfl
theorem PF.fQ (l:List PV) (n:Nat):(PF.of l).get n=l.getD n .any:=rfl
def ie (f:PF):X→PV
 | .t n=>f.get n
 | .k v=>wx v
 | .f n=>.fn n [] []
def m7 (C:Cx) (fr:PF) (af:Fr):Prop:=∀t,RV C (fr.get t) (af.get t)
theorem m7.ev {C:Cx} {a:PF} {b:Fr} (h:m7 C a b):∀x,RV C (ie a x) (X.ev b x)
 | .t n=>h n
 | .k v=>zW v
 | .f n=>.fn (xs:=[]) (ys:=[]) .nil .nil
theorem m7.put {C:Cx} {a:PF} {b:Fr} (h:m7 C a b) {p:PV} {x:Value} (k:RV C p x) (n:Nat):m7 C (a.put n p) (b.put n x):=by
 intro t;rw [PF.bR,Fr.bR];split
 ·exact k
 ·exact h t
theorem m7.bg {C:Cx} {a:PF} {b:Fr} (h:m7 C a b) {p:PV} {x:Value} (k:RV C p x) (d:Option Nat):m7 C (a.bg d p) (b.bg d x):=by
 cases d with
 |none=>exact h
 |some n=>exact h.put k n
theorem m7.step {W:Nat→Prop} {C D:Cx} {a:PF} {af:Fr} (h:m7 C a af) (T:dR C.h.length W C D):m7 D a af:=fun t=>(h t).step T
theorem m7.of {C:Cx} {ps:List PV} {xs:List Value} (h:cK C ps xs):m7 C (PF.of ps) (Fr.of xs):=by
 intro t;rw [PF.fQ,Fr.fQ];rw [List.getD_eq_getElem?_getD,List.getD_eq_getElem?_getD]
 cases e:ps[t]? with
 |none=>exact .any _
 |some p=>
  obtain ⟨x,a,r⟩:=h.get e;rw [a];exact r
def PI:PV→Bool
 | .v x=>Ku x
 | .ref _ _ _| .sl _ _ _ _ _| .mp _| .fs _ _| .fp _=>true
 |_=>false
def GI (o:AO) (fr:PF):Bool:=match o.g with
 |none=>true
 |some (t,b)=>match fr.get t with| .v x=>eW b x|_=>true
def De (n:Nat) (p:PV) (h:PH) (W:List Nat):Bool:=match p with
 | .ref b o t=>match h[b]? with
   |some (.cells _ cs)=>decide (cs.length=t)&&decide (o+n≤t)&&decide (0<t)&& !W.contains b&&((cs.drop o).take n).all PI
   |_=>false
 | .fp cells=>decide (n≤cells.length)&&(cells.take n).all PI
 |_=>false
def PJ (o:cQ) (fr:PF) (h:PH) (W:List Nat):Bool:=match o with
 | .ld x=>De 1 (ie fr x) h W
 | .ldn n x=>De n (ie fr x) h W
 |_=>false
def KM (b:Nat) (h:PH) (W:List Nat):Bool:=!W.contains b&&(match h[b]? with
 |some (.cells _ (c::cs))=>PI c&&cs.all PI
 |some (.map [])=>true
 |_=>false)
def xX (o:cQ) (fr:PF) (h:PH):Option (Option Nat):=match o with
 | .st _ x _| .ld x| .ldn _ x=>match ie fr x with
   | .ref b _ t=>if df h b=some t∧0<t then some (some b)else none
   | .fp _=>some none
   |_=>none
 | .look _ _ x _ _=>match ie fr x with
   | .mp b=>match h[b]? with|some (.map _)=>some (some b)|_=>none
   |_=>none
 | .sl _ x _ _ _=>match ie fr x with
   | .sl sz b o n c=>if iP h (.sl sz b o n c)=true∧0<c∧0<sz then some (some b)else none
   |_=>none
 |_=>none
def vM:Option (Option Nat)→Option (Option Nat)→Bool
 |some (some b),some (some c)=>!Nat.beq b c
 |some none,some (some _)=>true
 |_,_=>false
def Y6 (k p q:Nat):Option AO→Option (PF×PH×List Nat)→Option (PF×PH×List Nat)→Option AO→Option (PF×PH×List Nat)→Option (PF×PH×List Nat)→Bool
 |some op,some (fp,hp,_),some (_,PL,_),some oq,some (fq,hq,_),some (_,_,W)=>
  decide (p<q)&&(!GI op fp|| !GI oq fq||(match k with
   |0=>PJ op.o fp hp W
   |1=>!op.o.bl&&KM hp.length PL W
   |_=>vM (xX op.o fp hp) (xX oq.o fq hq)))
 |_,_,_,_,_,_=>false
def VP (l:List AO) (ck:List (Nat×Nat×Nat)) (acc:List (PF×PH×List Nat)):Bool:=
 ck.all fun c=>Y6 c.1 c.2.1 c.2.2 (nth l c.2.1) (nth acc.reverse c.2.1) (nth acc.reverse (c.2.1+1)) (nth l c.2.2) (nth acc.reverse c.2.2) (nth acc.reverse (c.2.2+1))
inductive nU (l0:List AO):List (PF×PH×List Nat)→List (Fr×AH)→Cx→List Nat→Prop
 |one {C:Cx} {fr:PF} {af:Fr}:eu C→m7 C fr af→nU l0 [(fr,C.h,[])] [(af,C.H)] C []
 |cons {C D:Cx} {acc:List (PF×PH×List Nat)} {fj:List (Fr×AH)} {fr:PF} {af:Fr} {V W:List Nat}:nU l0 acc fj C W→dR 0 (· ∈V) C D→eu D→m7 D fr af→(∀o,nth l0 (acc.length- 1)=some o→o.o.bl=false→D.H.nx≤C.H.nx+1)→nU l0 ((fr,D.h,V++W)::acc) ((af,D.H)::fj) D (V++W)
theorem nU.length {d:List AO} {W:List Nat} {acc:List (PF×PH×List Nat)} {c:List (Fr×AH)} {C:Cx} (h:nU d acc c C W):acc.length=c.length∧0<acc.length:=by
 induction h with
 |one a b=>exact ⟨rfl,Nat.one_pos⟩
 |cons _ T S R e ih=>simp [ih.1]
theorem sY {α:Type} (l:List α) (x:α) (i:Nat):nth (l++[x]) i=if i<l.length then nth l i else if i=l.length then some x else none:=by
 rw [tP,tP];split
 ·rw [apT (by assumption)]
 ·rw [apX (by omega)]
  split
  ·rename_i h;subst h;simp
  ·rw [aql (by simp;omega)]
theorem nU.Sa {l:List AO} {W:List Nat} {acc:List (PF×PH×List Nat)} {k:List (Fr×AH)} {D:Cx} (h:nU l acc k D W):∃(cs:Nat→Cx) («as»:Nat→Fr),
 (∀i s,nth acc.reverse i=some s→(cs i).h=s.2.1∧nth k.reverse i=some («as» i,(cs i).H)∧eu (cs i)∧m7 (cs i) s.1 («as» i))∧
 (∀i j s,i≤j→nth acc.reverse j=some s→dR 0 (· ∈s.2.2) (cs i) (cs j))∧
 (∀i o,i+1<acc.length→nth l i=some o→o.o.bl=false→(cs (i+1)).H.nx≤(cs i).H.nx+1)∧cs (acc.length- 1)=D∧∀i,i<acc.length→dR 0 (· ∈W) (cs i) D:=by
 induction h with
 | @one C y g a b=>
  refine ⟨fun _=>C,fun _=>g,fun i s e=>?_,fun _ _ _ _ _=>dR.refl _ _ _,fun i o hi=>by simp at hi,rfl,fun _ _=>dR.refl _ _ _⟩
  cases i with
  |zero=>simp only [List.reverse_singleton,TR,apH]at e;subst e;exact ⟨rfl,rfl,a,b⟩
  |succ i=>simp [nth]at e
 | @cons C D acc k y g V W H0 T S R r ih=>
  obtain ⟨cs,«as»,x,h2,w,v,u⟩:=ih;have t:=H0.length;have n:∀i,i<acc.length→dR 0 (· ∈V++W) (cs i) D:=fun i hi=>(u i hi).trans T (ap8 _) (fun _ q=>List.mem_append_right _ q) (fun _ q=>List.mem_append_left _ q)
  refine ⟨fun i=>if i<acc.length then cs i else D,fun i=>if i<acc.length then «as» i else g,fun i s e=>?_,fun i j s f e=>?_,fun i o hi m p=>?_,by simp,fun i hi=>?_⟩
  ·rw [List.reverse_cons,sY,List.length_reverse]at e
   rw [List.reverse_cons,sY,List.length_reverse,←t.1];split at e
   ·rename_i hi
    simp only [if_pos hi];exact x i s e
   ·rename_i hi
    split at e
    case isFalse=>cases e
    rename_i c;cases e;simp only [if_neg hi,if_pos c];exact ⟨trivial,trivial,S,R⟩
  ·rw [List.reverse_cons,sY,List.length_reverse]at e
   split at e
   ·rename_i d
    simp only [if_pos d,if_pos (show i<acc.length by omega)];exact h2 i j s f e
   ·rename_i d
    split at e
    case isFalse=>cases e
    cases e;simp only [if_neg d];by_cases hi:i<acc.length
    ·simp only [if_pos hi];exact n i hi
    ·simp only [if_neg hi];exact dR.refl _ _ _
  ·simp only [List.length_cons]at hi
   by_cases c:i+1<acc.length
   ·simp only [if_pos c,if_pos (show i<acc.length by omega)]
    exact w i o c m p
   ·simp only [if_neg c,if_pos (show i<acc.length by omega)]
    have e:i=acc.length- 1:=by omega
    have:=r o (by rw [←e];exact m) p;rw [e,v];exact this
  ·by_cases c:i<acc.length
   ·simp only [if_pos c];exact n i c
   ·simp only [if_neg c];exact dR.refl _ _ _
theorem PN {α:Type} {l:List α} {i:Nat} {x:α} (h:nth l i=some x):i<l.length:=by
 rw [tP]at h;exact (apM.1 h).1
theorem GJ {x:Value} (h:Ku x=true):dz x x=true:=by
 cases x<;>first
  |(simp [Ku]at h;done)
  |simp [dz]
theorem PQ {C:Cx} {p:PV} {x:Value} (h:RV C p x) (k:PI p=true):dz x x=true:=by
 apply GJ
 cases p with
 |v y=>cases h;exact k
 |ref=>cases h;assumption
 |sl=>cases h with|sl a _ _ _=>exact a.sm
 |mp=>cases h;assumption
 |fs=>cases h with|fs q=>cases q;rfl
 |fp=>cases h;rfl
 |_=>cases k
theorem vN {C:Cx}:∀{ps:List PV} {xs:List Value},cK C ps xs→ps.all PI=true→eG xs xs=true
 |_,_,.nil,_=>rfl
 |_,_,.cons a b,h=>by
  simp only [List.all_cons,apJ]at h;simp only [eG,apJ];exact ⟨PQ a h.1,vN b h.2⟩
theorem GK {C:Cx} {a:PF} {c:Fr} (h:m7 C a c) {o:AO} (k:o.wanted c=true):GI o a=true:=by
 obtain ⟨g,d,p⟩:=o
 cases g with
 |none=>rfl
 |some q=>
  obtain ⟨t,b⟩:=q;simp only [GI];have:=h t;split
  ·rename_i x e
   rw [e]at this;rw [mJ,this.pk]at k;exact k
  ·rfl
theorem GL {C:Cx} (S:eu C) {W:List Nat} {b:Nat} (hs:aY C.h b) (d:b∉W):¬ im C (· ∈W) (C.φ b):=by
 rintro ⟨f,c,a,e⟩;exact d (S.inj _ _ a hs e▸c)
theorem GM {C D:Cx} {W:List Nat} (S:eu C) (T:dR 0 (· ∈W) C D) {n:Nat} {p:PV} {x:Value} (h:RV C p x) (k:De n p C.h W=true):
 ∃a l,x= .pointer (some a)∧C.H.ldn a n=some l∧sameAt D.H (a,l)=true:=by
 cases p with
 |ref b o t=>
  simp only [De]at k;split at k
  case h_2=>cases k
  rename_i z cs r;simp only [apJ,apS,Bool.not_eq_true',List.contains_eq_mem,decide_eq_false_iff_not]at k;obtain ⟨⟨⟨⟨s,V⟩,U⟩,F⟩,E⟩:=k;obtain ⟨c,J,f,N⟩:=S.cells (t:=t) r (by omega);have X:=f.length;have G:=sV h (t:=t) (by unfold df;rw [r];simp [s]);have d:C.H.ldn ⟨C.φ b,o,none⟩ n=some ((c.drop o).take n):=bM J N (by omega);have u:=cn r (by intro e;subst e;simp at s;omega);have M:=T.out _ (S.lt u) (GL S u F);refine ⟨_,_,G,d,?_⟩;rw [xi,eS M T.n0,show((c.drop o).take n).length=n by simp;omega,d];exact vN ((f.drop o).take n) E
 |fp cells=>
  simp only [De,apJ,apS]at k;have O:=h
  cases h with| @fp _ b o c K d L=>
  have A:C.H.ldn ⟨b,o,none⟩ n=some (c.take n):=by
   have:=zX S O (n:=n) (q:=.agg (cells.take n)) (by simp [vJ,k.1]);obtain ⟨y,m,Y⟩:=this;simp only [Og]at m
   cases i:C.H.ldn ⟨b,o,none⟩ n with
   |none=>rw [i]at m;cases m
   |some l=>
    have P:l=c.take n:=by
     have Q:∀(j:Nat) (v:Value),l[j]?=some v→(c.take n)[j]?=some v:=by
      intro j v g;have Z:=(dF i).2;have I:=(apM.1 g).1;have R:=aL i g;have f:j<c.length:=by have:=(dF d).2;omega
      have B:=aL d (j:=j) (apG f);rw [R]at B;rw [aqf,if_pos (by omega),apG f];exact B.symm
     have w:l.length=(c.take n).length:=by
      have:=(dF i).2;have:=(dF d).2;simp;omega
     apply List.ext_getElem?;intro j;by_cases g:j<l.length
     ·rw [Q j _ (apG g),apG g]
     ·rw [aql (by omega),aql (by omega)]
    rw [P]
  refine ⟨⟨b,o,none⟩,c.take n,rfl,A,?_⟩;rw [xi,eS (T.fz _ K).2 T.n0,show(c.take n).length=n by have:=(dF d).2;simp;omega,A];exact vN (L.take n).pk k.2
 |_=>cases k
theorem PR {C D:Cx} {W:List Nat} (S:eu C) (T:dR 0 (· ∈W) C D) {o:AO} {f:PF} {i:Fr} (h:m7 C f i) (k:PJ o.o f C.h W=true):∃x,ff o i C.H=some x∧sameAt D.H x=true:=by
 obtain ⟨g,d,p⟩:=o
 cases p<;>first
  |(cases k;done)
  |skip
 ·obtain ⟨a,l,e,c,b⟩:=GM S T (h.ev _) k
  exact ⟨(a,l),by simp only [ff,e,c];rfl,b⟩
 ·obtain ⟨a,l,e,c,b⟩:=GM S T (h.ev _) k
  exact ⟨(a,l),by simp only [ff,e,c];rfl,b⟩
theorem GN {z:Nat} {vs:List Value} (h:eG vs vs=true):m9 (some (.cells z vs)) (some (.cells z vs))=true:=by simp [m9,h,nb]
theorem GO {C X D:Cx} {V W:List Nat} (S:eu C) (g:eu X) (T:dR 0 (· ∈V) C X) (p:dR 0 (· ∈W) X D) (s:X.H.nx≤C.H.nx+1) (k:KM C.h.length X.h W=true):m9 (X.H.get C.H.nx) (D.H.get C.H.nx)=true:=by
 simp only [KM,apJ,Bool.not_eq_true',List.contains_eq_mem,decide_eq_false_iff_not]at k;obtain ⟨m,i⟩:=k
 have key:∀(d:aY X.h C.h.length),X.φ C.h.length=C.H.nx∧D.H.get C.H.nx=X.H.get C.H.nx:=by
  intro d
  have e:X.φ C.h.length=C.H.nx:=by
   rcases T.loc _ d with q|⟨q,_⟩
   ·have:=g.lt d;omega
   ·exact absurd (bu q) (Nat.lt_irrefl _)
  refine ⟨e,?_⟩;have:=p.out _ (g.lt d) (GL g d m);rwa [e]at this
 split at i
 ·rename_i z c cs f
  obtain ⟨a,b⟩:=key (cn f (by simp));obtain ⟨r,j,n,_⟩:=g.cells (t:=0) f (by simp);rw [b,←a,j];exact GN (vN n (by simpa using i))
 ·rename_i f
  obtain ⟨a,b⟩:=key (eZ f);obtain ⟨l,j,o,_⟩:=g.um _ _ f;rw [b,←a,j]
  cases l with
  |nil=>rfl
  |cons=>simp at o
 ·cases i
theorem rm {C:Cx} (S:eu C) {o:AO} {m:PF} {l:Fr} (h:m7 C m l) {r:Option Nat} (k:xX o.o m C.h=some r):∃a,dq o l=some a∧((∃b,r=some b∧aY C.h b∧a=C.φ b)∨(r=none∧C.F a)):=by
 have go:∀x:X,(match ie m x with| .ref b _ t=>if df C.h b=some t∧0<t then some (some b)else none| .fp _=>some none|_=>none)=some r→
  ∃a,(match x.ev l with| .pointer (some a)=>some a.block|_=>none)=some a∧((∃b,r=some b∧aY C.h b∧a=C.φ b)∨(r=none∧C.F a)):=by
  intro x k;have f:=h.ev x;split at k
  ·rename_i b o t e
   rw [e]at f;split at k
   case isFalse=>cases k
   rename_i j;cases k;rw [sV f j.1];refine ⟨_,rfl,.inl ⟨b,rfl,?_,rfl⟩⟩;have:=j.1;unfold df at this;split at this
   ·rename_i z cs i
    cases this;exact cn i (List.length_pos_iff.1 j.2)
   ·cases this
  ·rename_i c e
   rw [e]at f;cases k;revert f;generalize x.ev l=y;intro f;cases f with|fp u _ _=>exact ⟨_,rfl,.inr ⟨rfl,u⟩⟩
  ·cases k
 obtain ⟨g,d,p⟩:=o
 cases p<;>first
  |(cases k;done)
  |exact go _ k
  |skip
 ·rename_i sz x lo hi mx
  simp only [xX]at k;have f:=h.ev x;split at k
  case h_2=>cases k
  rename_i v b o n c e;rw [e]at f;split at k
  case isFalse=>cases k
  rename_i s;cases k;obtain ⟨z,cs,i,j⟩:=xV s.1;rcases sW f i j.symm with⟨q,_⟩|⟨_,q⟩
  ·omega
  ·refine ⟨C.φ b,by simp only [dq,q];rfl,.inl ⟨b,rfl,cn i ?_,rfl⟩⟩
   intro e;subst e;have:=Nat.mul_pos (show 0<o+c by omega) s.2.2;simp at j;omega
 ·rename_i kk z x w ok
  simp only [xX]at k;have f:=h.ev x;split at k
  case h_2=>cases k
  rename_i b e;rw [e]at f;split at k
  case h_2=>cases k
  rename_i es i;cases k;exact ⟨C.φ b,by simp only [dq,GD f i],.inl ⟨b,rfl,eZ i,rfl⟩⟩
theorem GP {C D:Cx} {W:Nat→Prop} (S:eu C) (p:eu D) (T:dR 0 W C D) {o q:AO} {s r:PF} {u t:Fr} (h:m7 C s u) (g:m7 D r t) (k:vM (xX o.o s C.h) (xX q.o r D.h)=true):
 (match dq o u,dq q t with|some b,some b'=>!Nat.beq b b'|_,_=>true)=true:=by
 unfold vM at k;split at k
 ·rename_i b c n m
  obtain ⟨x,l,j⟩:=rm S h n;obtain ⟨y,i,f⟩:=rm p g m;rcases j with⟨A,e,d,rfl⟩|⟨e,_⟩<;>cases e;rcases f with⟨z,e,a,rfl⟩|⟨e,_⟩<;>cases e;rw [l,i];simp only [nb,Bool.not_eq_true',decide_eq_false_iff_not]at k⊢;intro e;rcases T.loc _ a with q|⟨q,w⟩
  ·have:=S.lt d;omega
  ·exact k (S.inj _ _ d q (e.trans w))
 ·rename_i c n m
  obtain ⟨x,l,j⟩:=rm S h n;obtain ⟨y,i,f⟩:=rm p g m;rcases j with⟨A,e,d,rfl⟩|⟨e,v⟩<;>cases e;rcases f with⟨z,e,a,rfl⟩|⟨e,_⟩<;>cases e;rw [l,i];simp only [nb,Bool.not_eq_true',decide_eq_false_iff_not];intro e;exact (p.old a).2 (e▸(T.fz _ v).1)
 ·cases k
theorem PT {d:List AO} {W:List Nat} {acc:List (PF×PH×List Nat)} {w:List (Fr×AH)} {D:Cx} (h:nU d acc w D W) {k p q:Nat}
 (e:Y6 k p q (nth d p) (nth acc.reverse p) (nth acc.reverse (p+1)) (nth d q) (nth acc.reverse q) (nth acc.reverse (q+1))=true):ko d w.reverse (k,p,q)=true:=by
 unfold Y6 at e;split at e
 case h_2=>cases e
 rename_i op Y V Wp K U N F X S Z J H W' v M u L t f;simp only [apJ,apS]at e;obtain ⟨T,e⟩:=e;obtain ⟨cs,«as»,a,h2,I,_⟩:=h.Sa;obtain ⟨c,E,l,j⟩:=a _ _ M;obtain ⟨n,A,z,R⟩:=a _ _ u;obtain ⟨s,C,B,r⟩:=a _ _ t;obtain ⟨Q,y,P,O⟩:=a _ _ f;have G:=PN f;rw [List.length_reverse]at G;simp only [ko,v,E,A,L,C,y];by_cases i:op.wanted («as» p)=true
 case neg=>simp [i]
 by_cases g:F.wanted («as» q)=true
 case neg=>simp [g]
 have m:=GK j i;have b:=GK r g;simp only at m b c s n;rw [m,b]at e;simp only [Bool.not_true,Bool.false_or]at e;rw [i,g];simp only [Bool.not_true,Bool.false_or]
 match k with
 |0=>
  simp only at e⊢;rw [←c]at e;obtain ⟨x,a,h2⟩:=PR (o:=op) l (h2 p (q+1) _ (by omega) f) j e;rw [a];exact h2
 |1=>
  simp only [apJ,Bool.not_eq_true']at e⊢;rw [←c,←n]at e;exact GO l z (h2 p (p+1) _ (by omega) u) (h2 (p+1) (q+1) _ (by omega) f) (I p op (by omega) v e.1) e.2
 |k+2=>
  simp only at e⊢;rw [←c,←s]at e;exact GP l B (h2 p q _ (by omega) t) j r e
theorem nU.chn {e:List AO} {W:List Nat} {acc:List (PF×PH×List Nat)} {d:List (Fr×AH)} {D:Cx} (h:nU e acc d D W):chain d.reverse=true:=by
 have snoc:∀(l:List (Fr×AH)) (a b:Fr×AH),chain (l++[a])=true→a.2.n0=b.2.n0→a.2.nx≤b.2.nx→chain (l++[a]++[b])=true:=by
  intro l
  induction l with
  |nil=>intro a b _ c h2;simp [A.chain,c,h2]
  |cons x l ih=>
   intro a b h c h2
   cases l with
   |nil=>simp only [List.cons_append,List.nil_append,A.chain,Bool.and_true,apJ]at h⊢;refine ⟨h,?_⟩;simp [c,h2]
   |cons y l=>
    simp only [List.cons_append,A.chain,apJ]at h⊢;exact ⟨h.1,by simpa using ih a b h.2 c h2⟩
 induction h with
 |one=>rfl
 | @cons C D acc d g i V W H0 T S R f ih=>
  cases H0 with
  |one=>simp [A.chain,T.n0,T.nx]
  |cons=>
   simp only [List.reverse_cons]at ih⊢;exact snoc _ _ _ ih T.n0.symm T.nx
theorem GQ {a:List AO} {W:List Nat} {acc:List (PF×PH×List Nat)} {b:List (Fr×AH)} {D:Cx} (h:nU a acc b D W) {ck:List (Nat×Nat×Nat)} (e:VP a ck acc=true):tt a ck b=true:=by
 unfold tt;rw [apJ];refine ⟨h.chn,?_⟩;unfold VP at e;rw [apW]at e⊢;rintro ⟨k,p,q⟩ c;exact PT h (e _ c)
open Go Go.RowKit
theorem qd {H H':AH} {a:Addr} {vs:List Value} (h:H.st a vs=some H'):H'.nx=H.nx:=by
 unfold AH.st at h;split at h
 ·obtain ⟨_,h⟩:=aP h
  cases h;rfl
 ·cases h
theorem PU {o:cQ} {m:X→Value} {H:AH} {b:Option (Value×AH)} {x:Value} {H':AH} (e:aA o m H=up b) (n:b=some (x,H')):H'.nx≤H.nx+1:=by
 subst n;simp only [up,Option.map_some]at e
 have app:∀{sz bytes:Nat} {s y z:Value} {H':AH},bL sz bytes H s y=some (z,H')→H'.nx≤H.nx+1:=by
  intro sz bytes s y z H' h;unfold bL at h;split at h
  case h_2=>cases h
  split at h
  ·obtain ⟨_,h⟩:=aP h;cases h;omega
  ·split at h
   ·cases h
   ·obtain ⟨_,h⟩:=aP h
    split at h
    ·split at h
     ·obtain ⟨_,h⟩:=aP h
      rename_i a _ _;obtain ⟨l,h2,f⟩:=apQ.1 h;cases f;have:=qd h2;omega
     ·cases h
    ·split at h
     ·obtain ⟨_,h⟩:=aP h;cases h;exact apK _
     ·split at h
      ·obtain ⟨_,h⟩:=aP h
       obtain ⟨l,h2,f⟩:=apQ.1 h;cases f;exact apK _
      ·cases h
 have g:∀{sz:Nat} {s y z:Value} {H':AH},lU sz H s y=some (z,H')→H'.nx≤H.nx+1:=by
  intro sz s y z H' h;unfold lU at h;split at h
  case h_2=>cases h
  obtain ⟨c,d,h⟩:=apR.1 h;split at h
  ·simp only [Bool.cond_eq_ite]at h
   split at h
   ·cases h;exact ap7 _
   ·obtain ⟨l,h2,f⟩:=apQ.1 h
    cases f;have:=qd h2;omega
  ·cases h;exact ap7 _
 have i:∀{k:XK} {j:List Value} {z:Value} {H':AH},DU k j H=some (z,H')→H'.nx≤H.nx+1:=by
  intro k j z H' h;unfold DU at h;split at h
  ·obtain ⟨_,_,e⟩:=apQ.1 h;cases e;exact ap7 _
  ·split at h
   ·obtain ⟨_,_,e⟩:=apQ.1 h;cases e;exact ap7 _
   ·cases h
  ·cases h;exact apK _
  ·cases h
 cases o<;>simp only [aA]at e
 all_goals first
  |(simp only [apH,apO,jI.v.injEq,reduceCtorEq,false_and]at e;done)
  |skip
 all_goals first
  |(simp only [apH,apO]at e;obtain ⟨_,rfl⟩:=e;first|exact ap7 _|exact apK _)
  |(obtain ⟨r,d,h2⟩:=apQ.1 e;simp only [apO]at h2;obtain ⟨_,rfl⟩:=h2;first|exact ap7 _|exact apK _)
  |skip
 all_goals first
  |(obtain ⟨r,d,h2⟩:=apQ.1 e;simp only [apO]at h2;obtain ⟨_,rfl⟩:=h2;exact i d)
  |skip
 all_goals try simp only [Bool.cond_eq_ite]at e
 all_goals try(repeat' split at e)
 all_goals first
  |(cases e;done)
  |(simp only [apH,apO]at e;obtain ⟨_,rfl⟩:=e;first|exact ap7 _|exact apK _)
  |(obtain ⟨r,d,h2⟩:=apQ.1 e;simp only [apO]at h2;obtain ⟨_,rfl⟩:=h2;first|exact ap7 _|(have:=qd d;omega)|exact app d|exact g d|exact i d)
  |skip
inductive Kp where
 |seq (c:AC)
 |aU (i:Nat)
 |lp (I:Nat→PF→PH→Prop) (k:Nat)
inductive Mp where
 |pl
 |d0
 |dr (l0:List AO) (ck:List (Nat×Nat×Nat)) (acc:List (PF×PH×List Nat)) (W:List Nat)
def Mp.up:Mp→List Nat→PF→PH→Mp
 | .pl,_,_,_=>.pl
 | .d0,_,_,_=>.d0
 | .dr l0 ck acc W,V,fr,h=>.dr l0 ck ((fr,h,V++W)::acc) (V++W)
inductive Cf where
 |code (c:AC) (ks:List Kp)
 |ops (m:Mp) (l:List AO) (ks:List Kp)
 |done (ex:Ex) (ks:List Kp)
def Df (E:Env) (O:kl) (f:Nat) (args:List PV) (h:PH) (W:Nat→Prop) (R:PV→PH→Prop):Prop:=
 ∀F H φ vs,eu ⟨F,H,φ,h⟩→cK ⟨F,H,φ,h⟩ args vs→Ca E O f vs H (fun x H'=>∃r h' F' dE,R r h'∧RV ⟨F',H',dE,h'⟩ r x∧eu ⟨F',H',dE,h'⟩∧dR h.length W ⟨F,H,φ,h⟩ ⟨F',H',dE,h'⟩)
abbrev lS:Nat→Prop:=fun _=>True
abbrev jH (E:Env) (O:kl) (f:Nat) (args:List PV) (h:PH) (R:PV→PH→Prop):Prop:=Df E O f args h lS R
def Gh (n:Nat) (fr:PF) (h:PH) (gi:PF) (h2:PH):Prop:=
 ∀F H φ af,eu ⟨F,H,φ,h⟩→m7 ⟨F,H,φ,h⟩ fr af→∃F' dE,eu ⟨F',H,dE,h2⟩∧m7 ⟨F',H,dE,h2⟩ gi af∧∀C0:Cx,C0.h.length=n→dR n lS C0 ⟨F,H,φ,h⟩→dR n lS C0 ⟨F',H,dE,h2⟩
theorem Gh.refl (n:Nat) (a:PF) (h:PH):Gh n a h a h:=fun F H b c S R=>⟨F,b,S,R,fun _ _ k=>k⟩
variable(E:Env) (O:kl) (n:Nat) (Q:Ex→PF→PH→Prop)
inductive PK:Cf→PF→PH→Prop where
 |skip {ks:List Kp} {fr:PF} {h:PH}:PK (.done .normal ks) fr h→PK (.code .skip ks) fr h
 |ret {ks:List Kp} {fr:PF} {h:PH}:PK (.done .ret ks) fr h→PK (.code .ret ks) fr h
 |exit {i:Nat} {ks:List Kp} {fr:PF} {h:PH}:PK (.done (.exit i) ks) fr h→PK (.code (.exit i) ks) fr h
 |cL {l:List AO} {ks:List Kp} {fr:PF} {h:PH}:PK (.ops .pl l ks) fr h→PK (.code (.cL l) ks) fr h
 |bO {l:List AO} {c:Nat×Nat×Nat} {ck:List (Nat×Nat×Nat)} {ks:List Kp} {fr:PF} {h:PH}:PK (.ops (.dr l (c::ck) [(fr,h,[])] []) l ks) fr h→PK (.code (.bO l (c::ck)) ks) fr h
 |BF {l:List AO} {ks:List Kp} {fr:PF} {h:PH}:PK (.ops .d0 l ks) fr h→PK (.code (.bO l []) ks) fr h
 |seq {a b:AC} {ks:List Kp} {fr:PF} {h:PH}:PK (.code a (.seq b::ks)) fr h→PK (.code (.seq a b) ks) fr h
 |block {i:Nat} {a:AC} {ks:List Kp} {fr:PF} {h:PH}:PK (.code a (.aU i::ks)) fr h→PK (.code (.block i a) ks) fr h
 |cond {x:X} {a b:AC} {t:Bool} {ks:List Kp} {fr:PF} {h:PH}:ie fr x= .v (.bool t)→PK (.code (bif t then a else b) ks) fr h→PK (.code (.cond x a b) ks) fr h
 |loop {a:AC} {ks:List Kp} {fr gi:PF} {h h2:PH} (I:Nat→PF→PH→Prop) (k:Nat):(∀k fr h,I k fr h→PK (.code a (.lp I k::ks)) fr h)→Gh n fr h gi h2→I k gi h2→PK (.code (.loop a) ks) fr h
 |KN {ks:List Kp} {fr:PF} {h:PH}:PK (.done .normal ks) fr h→PK (.ops .pl [] ks) fr h
 |BG {ks:List Kp} {fr:PF} {h:PH}:PK (.done .normal ks) fr h→PK (.ops .d0 [] ks) fr h
 |xY {l0:List AO} {ck:List (Nat×Nat×Nat)} {acc:List (PF×PH×List Nat)} {W:List Nat} {ks:List Kp} {fr:PF} {h:PH}:VP l0 ck acc=true→PK (.done .normal ks) fr h→PK (.ops (.dr l0 ck acc W) [] ks) fr h
 |op {m:Mp} {d:Option Nat} {p:cQ} {l:List AO} {ks:List Kp} {fr:PF} {h h':PH} {v:PV}:pop p (ie fr) h=some (v,h')→PK (.ops (m.up (xU p (ie fr)) (fr.bg d v) h') l ks) (fr.bg d v) h'→PK (.ops m (⟨none,d,p⟩::l) ks) fr h
 |VQ {m:Mp} {t:Nat} {b:Bool} {x:Value} {d:Option Nat} {p:cQ} {l:List AO} {ks:List Kp} {fr:PF} {h:PH}:fr.get t= .v x→eW b x=true→PK (.ops m (⟨none,d,p⟩::l) ks) fr h→PK (.ops m (⟨some (t,b),d,p⟩::l) ks) fr h
 |GR {m:Mp} {t:Nat} {b:Bool} {x:Value} {d:Option Nat} {p:cQ} {l:List AO} {ks:List Kp} {fr:PF} {h:PH}:fr.get t= .v x→eW b x=false→PK (.ops (m.up [] (fr.bg d (.v undef)) h) l ks) (fr.bg d (.v undef)) h→PK (.ops m (⟨some (t,b),d,p⟩::l) ks) fr h
 |call {m:Mp} {f:Nat} {«as»:List X} {d:Option Nat} {l:List AO} {ks:List Kp} {fr:PF} {h:PH} {W:List Nat} {R:PV→PH→Prop}:Df E O f («as».map (ie fr)) h (· ∈W) R→(∀r h',R r h'→PK (.ops (m.up W (fr.bg d r) h') l ks) (fr.bg d r) h')→PK (.ops m (⟨none,d,.call f «as»⟩::l) ks) fr h
 |callv {m:Mp} {f:Nat} {x:X} {first cap:List PV} {«as»:List X} {d:Option Nat} {l:List AO} {ks:List Kp} {fr:PF} {h:PH} {W:List Nat} {R:PV→PH→Prop}:ie fr x= .fn f first cap→Df E O f (first++«as».map (ie fr)++cap) h (· ∈W) R→(∀r h',R r h'→PK (.ops (m.up W (fr.bg d r) h') l ks) (fr.bg d r) h')→PK (.ops m (⟨none,d,.callv x «as»⟩::l) ks) fr h
 |KO {ex:Ex} {fr:PF} {h:PH}:Q ex fr h→PK (.done ex []) fr h
 |Y7 {b:AC} {ks:List Kp} {fr:PF} {h:PH}:PK (.code b ks) fr h→PK (.done .normal (.seq b::ks)) fr h
 |Y8 {i:Nat} {ks:List Kp} {fr:PF} {h:PH}:PK (.done .normal ks) fr h→PK (.done .normal (.aU i::ks)) fr h
 |VR {I:Nat→PF→PH→Prop} {k j:Nat} {ks:List Kp} {fr gi:PF} {h h2:PH}:j<k→Gh n fr h gi h2→I j gi h2→PK (.done .normal (.lp I k::ks)) fr h
 |Y9 {i:Nat} {b:AC} {ks:List Kp} {fr:PF} {h:PH}:PK (.done (.exit i) ks) fr h→PK (.done (.exit i) (.seq b::ks)) fr h
 |GS {i:Nat} {ks:List Kp} {fr:PF} {h:PH}:PK (.done .normal ks) fr h→PK (.done (.exit i) (.aU i::ks)) fr h
 |KP {i j:Nat} {ks:List Kp} {fr:PF} {h:PH}:j≠i→PK (.done (.exit j) ks) fr h→PK (.done (.exit j) (.aU i::ks)) fr h
 |del {I:Nat→PF→PH→Prop} {k i:Nat} {ks:List Kp} {fr:PF} {h:PH}:PK (.done (.exit i) ks) fr h→PK (.done (.exit i) (.lp I k::ks)) fr h
 |KQ {k:Kp} {ks:List Kp} {fr:PF} {h:PH}:PK (.done .ret ks) fr h→PK (.done .ret (k::ks)) fr h
variable{E O n Q}
def Live (C0:Cx) (C:Cx):Prop:=eu C∧dR C0.h.length lS C0 C
theorem Live.step {C0 C D:Cx} (h:Live C0 C) {W:Nat→Prop} (S:eu D) (T:dR C.h.length W C D):Live C0 D:=
 ⟨S,h.2.trans (T.mono (h.2.len (apK _)) (fun _ _=>trivial) fun _=>ap2 (h.2.len (apK _)) (T.len (apK _))) (apK _) (fun _ h=>h) fun _ h=>h⟩
def UP (E:Env) (O:kl) (C0:Cx) (Q:Ex→PF→PH→Prop):Ex→List Kp→Fr→AH→Prop
 |ex,[],af,H=>∃fr F φ h,Q ex fr h∧Live C0 ⟨F,H,φ,h⟩∧m7 ⟨F,H,φ,h⟩ fr af
 | .normal,.seq b::ks,af,H=>Wp E O b af H (fun ex rp H'=>UP E O C0 Q ex ks rp H')
 | .normal,.aU _::ks,af,H=>UP E O C0 Q .normal ks af H
 | .normal,.lp I k::ks,af,H=>∃j,j<k∧∃fr F φ h,I j fr h∧Live C0 ⟨F,H,φ,h⟩∧m7 ⟨F,H,φ,h⟩ fr af
 | .exit j,.seq _::ks,af,H=>UP E O C0 Q (.exit j) ks af H
 | .exit j,.aU i::ks,af,H=>if j=i then UP E O C0 Q .normal ks af H else UP E O C0 Q (.exit j) ks af H
 | .exit j,.lp _ _::ks,af,H=>UP E O C0 Q (.exit j) ks af H
 | .ret,_::ks,af,H=>UP E O C0 Q .ret ks af H
def Sb (l1 l:List AO):Prop:=l1=l∨∃g d p t,l=⟨none,d,p⟩::t∧l1=⟨g,d,p⟩::t
theorem Sb.head {a t:List AO} {g:Option (Nat×Bool)} {d:Option Nat} {p:cQ} (h:Sb a (⟨g,d,p⟩::t)):∃b,a=⟨b,d,p⟩::t:=by
 rcases h with rfl|⟨b,i,f,c,e,rfl⟩
 ·exact ⟨_,rfl⟩
 ·cases e;exact ⟨_,rfl⟩
def Ms (E:Env) (O:kl) (C0:Cx) (Q:Ex→PF→PH→Prop) (cf:Cf) (fr:PF) (h:PH):Prop:=∀F H φ af,Live C0 ⟨F,H,φ,h⟩→m7 ⟨F,H,φ,h⟩ fr af→match cf with
 | .code c ks=>Wp E O c af H (fun ex rp H'=>UP E O C0 Q ex ks rp H')
 | .ops .pl l ks=>Wo E O l af H (fun rp H'=>UP E O C0 Q .normal ks rp H')
 | .ops .d0 l ks=>∀l0 acc fj W,nU l0 acc fj ⟨F,H,φ,h⟩ W→Sb (l0.drop (acc.length- 1)) l→Wt E O l af H (fun ss=>tt l0 [] (ss.reverse++fj)=true∧UP E O C0 Q .normal ks (ig (af,H) ss).1 (ig (af,H) ss).2)
 | .ops (.dr l0 ck acc W) l ks=>∀fj,nU l0 acc fj ⟨F,H,φ,h⟩ W→Sb (l0.drop (acc.length- 1)) l→Wt E O l af H (fun ss=>tt l0 ck (ss.reverse++fj)=true∧UP E O C0 Q .normal ks (ig (af,H) ss).1 (ig (af,H) ss).2)
 | .done ex ks=>UP E O C0 Q ex ks af H
theorem Ms.step {C0:Cx} {m:Mp} {g:Option (Nat×Bool)} {d:Option Nat} {p:cQ} {l:List AO} {J:List Kp} {K:PF} {h:PH} (one:∀F H φ v,Live C0 ⟨F,H,φ,h⟩→m7 ⟨F,H,φ,h⟩ K v→qI E O ⟨g,d,p⟩ v H (fun f H'=>∃t s r i V,Live C0 ⟨s,H',r,i⟩∧m7 ⟨s,H',r,i⟩ t f∧dR 0 (· ∈V) ⟨F,H,φ,h⟩ ⟨s,H',r,i⟩∧(p.bl=false→H'.nx≤H.nx+1)∧Ms E O C0 Q (.ops (m.up V t i) l J) t i)):
 Ms E O C0 Q (.ops m (⟨g,d,p⟩::l) J) K h:=by
 intro F H φ v L R
 have mono:∀{M Q2:Fr→AH→Prop},(∀a b,M a b→Q2 a b)→qI E O ⟨g,d,p⟩ v H M→qI E O ⟨g,d,p⟩ v H Q2:=fun k ⟨a,b,c,e,q⟩=>⟨a,b,c,e,k _ _ q⟩
 cases m with
 |pl=>
  refine Wo.cons (mono ?_ (one F H φ v L R));rintro f H' ⟨t,s,r,i,V,x,w,_,_,k⟩;exact k s H' r f x w
 |d0=>
  intro u acc B W C j;rw [ju];refine mono ?_ (one F H φ v L R);rintro f H' ⟨t,s,r,i,V,x,w,T,D,k⟩;have N:=C.length.2
  have y:nU u ((t,i,V++W)::acc) ((f,H')::B) ⟨s,H',r,i⟩ (V++W):=
   .cons C T x.1 w (fun o z I=>by
    obtain ⟨A,j⟩:=j.head
    have:u[acc.length- 1]?=some ⟨A,d,p⟩:=by
     have:=congrArg List.head? j
     simpa [List.head?_drop]using this
    rw [tP,this]at z;cases z
    exact D I)
  have G:Sb (u.drop (((t,i,V++W)::acc).length- 1)) l:=by
   obtain ⟨A,j⟩:=j.head;left;simp only [List.length_cons,Nat.add_sub_cancel];rw [show acc.length=acc.length- 1+1 by omega,←List.drop_drop,j];rfl
  have:=k s H' r f x w u _ ((f,H')::B) _ y G;refine (fun⟨a,b,e,q⟩=>⟨a,b,e,?_⟩:Wt E O l f H' _→Wt E O l f H' _) this
  simpa [ig]using q
 |dr u P acc W=>
  intro B C j;rw [ju];refine mono ?_ (one F H φ v L R);rintro f H' ⟨t,s,r,i,V,x,w,T,D,k⟩;have N:=C.length.2
  have y:nU u ((t,i,V++W)::acc) ((f,H')::B) ⟨s,H',r,i⟩ (V++W):=
   .cons C T x.1 w (fun o z I=>by
    obtain ⟨A,j⟩:=j.head
    have:u[acc.length- 1]?=some ⟨A,d,p⟩:=by
     have:=congrArg List.head? j
     simpa [List.head?_drop]using this
    rw [tP,this]at z;cases z
    exact D I)
  have G:Sb (u.drop (((t,i,V++W)::acc).length- 1)) l:=by
   obtain ⟨A,j⟩:=j.head;left;simp only [List.length_cons,Nat.add_sub_cancel];rw [show acc.length=acc.length- 1+1 by omega,←List.drop_drop,j];rfl
  have:=k s H' r f x w ((f,H')::B) y G;refine (fun⟨a,b,e,q⟩=>⟨a,b,e,?_⟩:Wt E O l f H' _→Wt E O l f H' _) this
  simpa [ig]using q
theorem PK.sound {C0:Cx} (K:n=C0.h.length):∀{cf:Cf} {u:PF} {h:PH},PK E O n Q cf u h→Ms E O C0 Q cf u h:=by
 intro cf u h k
 induction k with
 |skip _ ih=>exact fun F H s o L R=>Wp.skip (ih F H s o L R)
 |ret _ ih=>exact fun F H s o L R=>Wp.ret (ih F H s o L R)
 |exit _ ih=>exact fun F H s o L R=>Wp.exit (ih F H s o L R)
 |cL _ ih=>exact fun F H s o L R=>Wp.cL (ih F H s o L R)
 | @bO l c ck z u h _ ih=>
  intro F H s o L R;have:=ih F H s o L R [(o,H)] (.one L.1 R) (.inl rfl);refine Wp.bO ?_;obtain ⟨a,ss,e,C,h2⟩:=this;unfold tt at C;simp only [List.reverse_append,List.reverse_cons,List.reverse_nil,List.nil_append,List.reverse_reverse,List.cons_append,apJ]at C;exact ⟨a,ss,e,C,h2⟩
 | @BF l z u h _ ih=>
  intro F H s o L R;have:=ih F H s o L R l _ [(o,H)] _ (.one L.1 R) (.inl rfl);refine Wp.bO ?_;obtain ⟨a,ss,e,C,h2⟩:=this;unfold tt at C;simp only [List.reverse_append,List.reverse_cons,List.reverse_nil,List.nil_append,List.reverse_reverse,List.cons_append,apJ]at C;exact ⟨a,ss,e,C,h2⟩
 | @seq a b z u h _ ih=>
  intro F H s o L R;refine Wp.seq ((ih F H s o L R).mono ?_);intro ex cB U q;cases ex<;>exact q
 | @block i a z u h _ ih=>
  intro F H s o L R;refine Wp.block ((ih F H s o L R).mono ?_);intro ex cB U q;cases ex<;>exact q
 | @cond x a b t z u h e _ ih=>
  intro F H s o L R;have w:=R.ev x;rw [e]at w
  exact Wp.cond w.pk (by
   have:=ih F H s o L R
   cases t<;>exact this)
 | @loop a z u gi h h2 I k _ g N ih=>
  intro F H s o L R;obtain ⟨F',M,S',A,T'⟩:=g F H s o L.1 R;refine Wp.loop (fun k o H=>∃u F s h,I k u h∧Live C0 ⟨F,H,s,h⟩∧m7 ⟨F,H,s,h⟩ u o) ?_ k ⟨gi,F',M,h2,N,⟨S',K▸T' C0 K.symm (K▸L.2)⟩,A⟩;rintro k o H ⟨u,F,s,h,N,L,R⟩;refine (ih k u h N F H s o L R).mono ?_;intro ex rp U q;cases ex<;>exact q
 |KN _ ih=>exact fun F H s o L R=>Wo.nil (ih F H s o L R)
 |BG _ ih=>exact fun F H s o L R V acc P W J B=>Wt.nil ⟨by have:=GQ J (ck:=[]) rfl;simpa using this,ih F H s o L R⟩
 | @xY V ck acc W z u h ok _ ih=>
  intro F H s o L R P J B;exact Wt.nil ⟨by simpa using GQ J ok,ih F H s o L R⟩
 | @op m d p l z u h D v e _ ih=>
  refine Ms.step fun F H s o L R=>?_
  obtain ⟨b,Y,x,U,M,rfl,w,S,T⟩:=PE L.1 (R.ev) e;refine qI.val rfl Y ?_;exact ⟨_,F,M,D,_,L.step S T,(R.step T).bg w d,T.mono (ap8 _) (fun _ h=>h) (fun _=>ap8 _),fun _=>PU Y rfl,ih⟩
 | @VQ m t b x d p l z u h e hw _ ih=>
  have eqv:∀{o:Fr} {H:AH} {Q:Fr→AH→Prop},AO.wanted ⟨some (t,b),d,p⟩ o=true→qI E O ⟨none,d,p⟩ o H Q→qI E O ⟨some (t,b),d,p⟩ o H Q:=by
   intro o H Q C h2;rw [gv _ _ _ _ C];rwa [gv _ _ _ _ rfl]at h2
  intro F H s o L R;have w:=R t;rw [e]at w;have PW:AO.wanted ⟨some (t,b),d,p⟩ o=true:=by rw [mJ,w.pk];exact hw
  have:=ih F H s o L R
  cases m with
  |pl=>
   refine Wo.cons (eqv PW ?_);exact (iq _ _ _ _ _).1 this
  |d0=>
   intro V acc P W J B;rw [ju];obtain ⟨g',B⟩:=B.head;exact eqv PW ((ju _ _ _ _ _).1 (this V acc P W J (.inr ⟨g',d,p,l,rfl,B⟩)))
  |dr V ck acc W=>
   intro P J B;rw [ju];obtain ⟨g',B⟩:=B.head;exact eqv PW ((ju _ _ _ _ _).1 (this P J (.inr ⟨g',d,p,l,rfl,B⟩)))
 | @GR m t b x d p l z u h e hw _ ih=>
  refine Ms.step fun F H s o L R=>?_
  have w:=R t;rw [e]at w;refine qI.off (by rw [mJ,w.pk];exact hw) ?_;exact ⟨_,F,s,h,[],L,R.bg (.v _) d,dR.refl _ _ _,fun _=>ap7 _,ih⟩
 | @call m f «as» d l z u h W R hc _ ih=>
  refine Ms.step fun F H s o L A=>?_
  refine qI.call rfl rfl ?_;refine (hc F H s _ L.1 (cK.of A.ev «as»)).mono ?_;rintro x U ⟨r,D,F2,Z,hR,w,S2,G⟩;exact ⟨_,F2,Z,D,W,L.step S2 G,(A.step G).bg w d,G.mono (ap8 _) (fun _ h=>h) (fun _=>ap8 _),(fun q=>by cases q),ih r D hR⟩
 | @callv m f x first cap «as» d l z u h W R hf hc _ ih=>
  refine Ms.step fun F H s o L A=>?_
  have w:=A.ev x;rw [hf]at w;revert w;generalize hy:X.ev o x=y;intro w
  cases w with| @fn _ _ _ xs ys ha Y=>
  refine qI.call rfl (f:=f) («as»:=xs++«as».map (X.ev o)++ys) (H1:=H) (by simp only [aA,hy]) ?_;refine (hc F H s _ L.1 ((ha.append (cK.of A.ev «as»)).append Y)).mono ?_;rintro x U ⟨r,D,F2,Z,hR,w,S2,G⟩;exact ⟨_,F2,Z,D,W,L.step S2 G,(A.step G).bg w d,G.mono (ap8 _) (fun _ h=>h) (fun _=>ap8 _),(fun q=>by cases q),ih r D hR⟩
 | @KO ex u h q=>
  intro F H s o L R;simp only [UP];exact ⟨u,F,s,h,q,L,R⟩
 |Y7 _ ih=>exact fun F H s o L R=>ih F H s o L R
 |Y8 _ ih=>exact fun F H s o L R=>ih F H s o L R
 | @VR I k j z u gi h h2 hj g N=>
  intro F H s o L R;obtain ⟨F',M,S',A,T'⟩:=g F H s o L.1 R;exact ⟨j,hj,gi,F',M,h2,N,⟨S',K▸T' C0 K.symm (K▸L.2)⟩,A⟩
 |Y9 _ ih=>exact fun F H s o L R=>ih F H s o L R
 | @GS i z u h _ ih=>
  intro F H s o L R;show(if i=i then _ else _);rw [if_pos rfl];exact ih F H s o L R
 | @KP i j z u h hj _ ih=>
  intro F H s o L R;show(if j=i then _ else _);rw [if_neg hj];exact ih F H s o L R
 |del _ ih=>exact fun F H s o L R=>ih F H s o L R
 | @KQ k z u h _ ih=>
  intro F H s o L R;cases k<;>exact ih F H s o L R
end P
namespace P
open Go Go.RowKit
section
variable{E:Env} {O:kl} {n:Nat} {Q:Ex→PF→PH→Prop} {ks:List Kp} {fr:PF} {h:PH}
theorem Df.mono {f:Nat} {args:List PV} {W:Nat→Prop} {R R':PV→PH→Prop} (k:Df E O f args h W R) (i:∀r c,R r c→R' r c):Df E O f args h W R':=fun F H e g S j=>
 (k F H e g S j).mono fun x m ⟨r,c,l,d,a,b⟩=>⟨r,c,l,d,i _ _ a,b⟩
def vO.get (fr:PF) (h:PH):RS→Option PV
 | .tmp t=>some (fr.get t)
 | .cell t _=>Mn h (fr.get t)
 | .cells t n=>vJ n h (fr.get t)
def vO.all (fr:PF) (h:PH):List RS→Option (List PV)
 |[]=>some []
 |r::l=>match vO.get fr h r,vO.all fr h l with|some v,some vs=>some (v::vs)|_,_=>none
def mB:List PV→PV
 |[v]=>v
 |vs=>.kG vs
def BH (n:Nat) (r:PV) (h:PH) (r2:PV) (h2:PH):Prop:=
 ∀F H φ x,eu ⟨F,H,φ,h⟩→RV ⟨F,H,φ,h⟩ r x→∃F' dE,eu ⟨F',H,dE,h2⟩∧RV ⟨F',H,dE,h2⟩ r2 x∧∀C0:Cx,C0.h.length=n→dR n lS C0 ⟨F,H,φ,h⟩→dR n lS C0 ⟨F',H,dE,h2⟩
def PX (n:Nat) (res:List RS) (R:PV→PH→Prop):Ex→PF→PH→Prop
 | .exit _,_,_=>False
 |_,fr,h=>∃vs,vO.all fr h res=some vs∧∃r2 h2,BH n (mB vs) h r2 h2∧R r2 h2
theorem Mu {C:Cx} (S:eu C) {fr:PF} {d:Fr} (R:m7 C fr d):∀{res:List RS} {ps:List PV},vO.all fr C.h res=some ps→∃xs,RS.all d C.H res=some xs∧cK C ps xs
 |[],ps,e=>by cases e;exact ⟨[],rfl,.nil⟩
 |r::l,ps,e=>by
  simp only [vO.all]at e;split at e
  case h_2=>cases e
  rename_i p q g h2;cases e;obtain ⟨xs,o,k⟩:=Mu S R h2
  obtain ⟨x,j,i⟩:∃x,RS.get d C.H r=some x∧RV C p x:=by
   cases r with
   |tmp t=>cases g;exact ⟨_,rfl,R t⟩
   |cell t _=>
    obtain ⟨y,b,f⟩:=Mq S (R t) g;refine ⟨y,?_,f⟩;simp only [RS.get]
    cases c:d.get t with
    |pointer a=>rw [c]at b;cases a<;>exact b
    |_=>rw [c]at b;cases b
   |cells t m=>
    obtain ⟨y,b,f⟩:=zX S (R t) g;refine ⟨y,?_,f⟩;simp only [RS.get]
    cases c:d.get t with
    |pointer a=>rw [c]at b;cases a<;>exact b
    |_=>rw [c]at b;cases b
  exact ⟨x::xs,by simp only [RS.all,o,j],.cons i k⟩
theorem PY {C:Cx} {ps:List PV} {xs:List Value} (h:cK C ps xs):RV C (mB ps) (qh xs):=by
 cases h with
 |nil=>exact .kG (xs:=[]) .nil
 |cons a b=>
  cases b with
  |nil=>exact a
  |cons b c=>exact .kG (xs:=_::_::_) (.cons a (.cons b c))
theorem jH.body {f:Nat} {F:AF} {args:List PV} {R:PV→PH→Prop} (y:O f=none) (A:E f=some F) (z:args.length=F.np) (k:PK E O h.length (PX h.length F.res R) (.code F.body []) (PF.of args) h):jH E O f args h R:=by
 intro Fz H c a S u;refine Ca.body y A (by rw [←u.length,z]) ?_
 have L:Live ⟨Fz,H,c,h⟩ ⟨Fz,H,c,h⟩:=⟨S,dR.refl _ _ _⟩
 refine (k.sound (C0:=⟨Fz,H,c,h⟩) rfl Fz H c (Fr.of a) L (m7.of u)).mono ?_;intro ex B m q;simp only [UP]at q;obtain ⟨fr,M,K,t,q,p,I⟩:=q
 have key:∀a,vO.all fr t F.res=some a→∀b h2,BH h.length (mB a) t b h2→R b h2→∃j,RS.all B m F.res=some j∧∃r l s o,R r l∧RV ⟨s,m,o,l⟩ r (qh j)∧eu ⟨s,m,o,l⟩∧dR h.length lS ⟨Fz,H,c,h⟩ ⟨s,m,o,l⟩:=by
  intro a e b h2 g d;obtain ⟨j,x,w⟩:=Mu p.1 I e;obtain ⟨J,v,D,G,C⟩:=g _ _ _ _ p.1 (PY w);exact ⟨j,x,b,h2,J,v,d,G,D,C _ rfl p.2⟩
 cases ex with
 |exit i=>exact q.elim
 |normal=>obtain ⟨a,e,b,h2,g,d⟩:=q;exact key a e b h2 g d
 |ret=>obtain ⟨a,e,b,h2,g,d⟩:=q;exact key a e b h2 g d
@[simp]theorem VS (f:PF) (a b:Nat) (p:PV):(f.put a p).get b=if b=a then p else f.get b:=rfl
@[simp]theorem Za (l:List PV) (a:Nat):(PF.of l).get a=l.getD a .any:=rfl
@[simp]theorem aej (f:PF) (a:Nat) (p:PV):f.bg (some a) p=f.put a p:=rfl
@[simp]theorem aek (f:PF) (p:PV):f.bg none p=f:=rfl
@[simp]theorem ah1 (f:PF) (a:Nat):ie f (.t a)=f.get a:=rfl
@[simp]theorem ah2 (f:PF) (v:Value):ie f (.k v)=wx v:=rfl
@[simp]theorem ah3 (f:PF) (a:Nat):ie f (.f a)= .fn a [] []:=rfl
@[simp]theorem Zb (k:IntKind) (a:Int):wx (.int k a)= .v (.int k a):=rfl
@[simp]theorem VT (a:Bool):wx (.bool a)= .v (.bool a):=rfl
@[simp]theorem Zc (a:ByteArray):wx (.string a)= .v (.string a):=rfl
@[simp]theorem ael (a:Option Addr) (b c:Nat):wx (.slice a b c)= .v (.slice a b c):=rfl
@[simp]theorem Zd (a:Option Addr):wx (.pointer a)= .v (.pointer a):=rfl
@[simp]theorem Ze (a:Option Nat):wx (.map a)= .v (.map a):=rfl
@[simp]theorem aem:wx .nilFunc= .v .nilFunc:=rfl
@[simp]theorem aen:wx .nilIface= .v .nilIface:=rfl
@[simp]theorem Zf (a:Array Value):wx (.agg a)= .agg (a.toList.map .v):=rfl
@[simp]theorem aeo (V:List Nat) (fr:PF) (h:PH):Mp.up .pl V fr h= .pl:=rfl
@[simp]theorem aep (V:List Nat) (fr:PF) (h:PH):Mp.up .d0 V fr h= .d0:=rfl
@[simp]theorem aer (a:List AO) (ck:List (Nat×Nat×Nat)) (acc:List (PF×PH×List Nat)) (W V:List Nat) (fr:PF) (h:PH):Mp.up (.dr a ck acc W) V fr h= .dr a ck ((fr,h,V++W)::acc) (V++W):=rfl
@[simp]theorem Zg:PK E O n Q (.code .skip ks) fr h↔PK E O n Q (.done .normal ks) fr h:=⟨fun k=>by cases k;assumption,.skip⟩
@[simp]theorem aes:PK E O n Q (.code .ret ks) fr h↔PK E O n Q (.done .ret ks) fr h:=⟨fun k=>by cases k;assumption,.ret⟩
@[simp]theorem Zh (i:Nat):PK E O n Q (.code (.exit i) ks) fr h↔PK E O n Q (.done (.exit i) ks) fr h:=⟨fun k=>by cases k;assumption,.exit⟩
@[simp]theorem aet (l:List AO):PK E O n Q (.code (.cL l) ks) fr h↔PK E O n Q (.ops .pl l ks) fr h:=⟨fun k=>by cases k;assumption,.cL⟩
@[simp]theorem Zi (l:List AO) (c:Nat×Nat×Nat) (ck:List (Nat×Nat×Nat)):PK E O n Q (.code (.bO l (c::ck)) ks) fr h↔PK E O n Q (.ops (.dr l (c::ck) [(fr,h,[])] []) l ks) fr h:=⟨fun k=>by cases k;assumption,.bO⟩
@[simp]theorem VU (l:List AO):PK E O n Q (.code (.bO l []) ks) fr h↔PK E O n Q (.ops .d0 l ks) fr h:=⟨fun k=>by cases k;assumption,.BF⟩
@[simp]theorem aeu (a b:AC):PK E O n Q (.code (.seq a b) ks) fr h↔PK E O n Q (.code a (.seq b::ks)) fr h:=⟨fun k=>by cases k;assumption,.seq⟩
@[simp]theorem VV (i:Nat) (a:AC):PK E O n Q (.code (.block i a) ks) fr h↔PK E O n Q (.code a (.aU i::ks)) fr h:=⟨fun k=>by cases k;assumption,.block⟩
def PC (E:Env) (O:kl) (n:Nat) (Q:Ex→PF→PH→Prop) (p:PV) (a b:AC) (ks:List Kp) (fr:PF) (h:PH):Prop:=∃t,p= .v (.bool t)∧PK E O n Q (.code (bif t then a else b) ks) fr h
@[simp]theorem Zj (x:X) (a b:AC):PK E O n Q (.code (.cond x a b) ks) fr h↔PC E O n Q (ie fr x) a b ks fr h:=⟨fun k=>by cases k with|cond e q=>exact ⟨_,e,q⟩,fun⟨t,e,q⟩=>.cond e q⟩
@[simp]theorem anf (t:Bool) (a b:AC):PC E O n Q (.v (.bool t)) a b ks fr h↔br (t=true) (PK E O n Q (.code a ks) fr h) (PK E O n Q (.code b ks) fr h):=by
 unfold PC;cases t
 ·simp only [reduceCtorEq,Od]
  exact ⟨fun⟨t,e,q⟩=>by cases e;exact q,fun q=>⟨_,rfl,q⟩⟩
 ·simp only [Oa]
  exact ⟨fun⟨t,e,q⟩=>by cases e;exact q,fun q=>⟨_,rfl,q⟩⟩
@[simp]theorem aev (ex:Ex):PK E O n Q (.done ex []) fr h↔Q ex fr h:=⟨fun k=>by cases k;assumption,.KO⟩
@[simp]theorem ah4 (b:AC):PK E O n Q (.done .normal (.seq b::ks)) fr h↔PK E O n Q (.code b ks) fr h:=⟨fun k=>by cases k;assumption,.Y7⟩
@[simp]theorem ah5 (i:Nat):PK E O n Q (.done .normal (.aU i::ks)) fr h↔PK E O n Q (.done .normal ks) fr h:=⟨fun k=>by cases k;assumption,.Y8⟩
@[simp]theorem ah6 (i:Nat) (b:AC):PK E O n Q (.done (.exit i) (.seq b::ks)) fr h↔PK E O n Q (.done (.exit i) ks) fr h:=⟨fun k=>by cases k;assumption,.Y9⟩
@[simp]theorem aew (i:Nat):PK E O n Q (.done (.exit i) (.aU i::ks)) fr h↔PK E O n Q (.done .normal ks) fr h:=⟨fun k=>by cases k with|GS q=>exact q|KP q=>exact absurd rfl q,.GS⟩
@[simp]theorem ah7 (i k:Nat) (I:Nat→PF→PH→Prop):PK E O n Q (.done (.exit i) (.lp I k::ks)) fr h↔PK E O n Q (.done (.exit i) ks) fr h:=⟨fun k=>by cases k;assumption,.del⟩
@[simp]theorem ang (k:Kp):PK E O n Q (.done .ret (k::ks)) fr h↔PK E O n Q (.done .ret ks) fr h:=⟨fun k=>by cases k;assumption,.KQ⟩
def VW (n:Nat) (I:Nat→PF→PH→Prop) (k:Nat) (fr:PF) (h:PH):Prop:=∃j,j<k∧∃gi h2,Gh n fr h gi h2∧I j gi h2
@[simp]theorem ah8 (I:Nat→PF→PH→Prop) (k:Nat):PK E O n Q (.done .normal (.lp I k::ks)) fr h↔VW n I k fr h:=
 ⟨fun q=>by cases q with|VR a b c=>exact ⟨_,a,_,_,b,c⟩,fun⟨_,a,_,_,b,c⟩=>.VR a b c⟩
def GU (I:Nat→PF→PH→Prop) (N:Nat):Nat→PF→PH→Prop:=fun k fr h=>k≤N∧I (N- k) fr h
theorem VW.for {I:Nat→PF→PH→Prop} {N i:Nat} (hi:i<N) (a:I (i+1) fr h):VW n (GU I N) (N- i) fr h:=
 ⟨N- (i+1),by omega,fr,h,Gh.refl _ _ _,by omega,by rw [show N- (N- (i+1))=i+1 by omega];exact a⟩
theorem VW.VX {I:Nat→PF→PH→Prop} {N i:Nat} {a:PF} {h2:PH} (hi:i<N) (g:Gh n fr h a h2) (b:I (i+1) a h2):VW n (GU I N) (N- i) fr h:=
 ⟨N- (i+1),by omega,a,h2,g,by omega,by rw [show N- (N- (i+1))=i+1 by omega];exact b⟩
theorem GW {a:AC} {b:PF} {h2:PH} (I:Nat→PF→PH→Prop) (k:Nat) (g:Gh n fr h b h2) (c:I k b h2) (step:∀k fr h,I k fr h→PK E O n Q (.code a (.lp I k::ks)) fr h):PK E O n Q (.code (.loop a) ks) fr h:=.loop I k step g c
theorem vP {a:AC} {c:PF} {h2:PH} (I:Nat→PF→PH→Prop) (N:Nat) (g:Gh n fr h c h2) (d:I 0 c h2) (step:∀i fr h,i≤N→I i fr h→PK E O n Q (.code a (.lp (GU I N) (N- i)::ks)) fr h):PK E O n Q (.code (.loop a) ks) fr h:=
 GW (GU I N) N g ⟨apK _,by rw [Nat.sub_self];exact d⟩ fun k fr h b=>by
  have:=step (N- k) fr h (by omega) b.2;rwa [show N- (N- k)=k by have:=b.1;omega]at this
theorem PZ {a:AC} (I:Nat→PF→PH→Prop) (N:Nat) (b:I 0 fr h) (step:∀i fr h,i≤N→I i fr h→PK E O n Q (.code a (.lp (GU I N) (N- i)::ks)) fr h):PK E O n Q (.code (.loop a) ks) fr h:=vP I N (Gh.refl _ _ _) b step
@[simp]theorem aex (res:List RS) (R:PV→PH→Prop):PX n res R .normal fr h=∃vs,vO.all fr h res=some vs∧∃a h2,BH n (mB vs) h a h2∧R a h2:=rfl
@[simp]theorem aey (res:List RS) (R:PV→PH→Prop):PX n res R .ret fr h=∃vs,vO.all fr h res=some vs∧∃a h2,BH n (mB vs) h a h2∧R a h2:=rfl
variable{m:Mp} {l:List AO} {d:Option Nat}
@[simp]theorem aez:PK E O n Q (.ops .pl [] ks) fr h↔PK E O n Q (.done .normal ks) fr h:=⟨fun k=>by cases k;assumption,.KN⟩
@[simp]theorem Zk:PK E O n Q (.ops .d0 [] ks) fr h↔PK E O n Q (.done .normal ks) fr h:=⟨fun k=>by cases k;assumption,.BG⟩
@[simp]theorem Zl (c:List AO) (ck:List (Nat×Nat×Nat)) (acc:List (PF×PH×List Nat)) (W:List Nat):PK E O n Q (.ops (.dr c ck acc W) [] ks) fr h↔VP c ck acc=true∧PK E O n Q (.done .normal ks) fr h:=⟨fun k=>by cases k with|xY a b=>exact ⟨a,b⟩,fun⟨a,b⟩=>.xY a b⟩
def PG (E:Env) (O:kl) (n:Nat) (Q:Ex→PF→PH→Prop) (g:PV) (b:Bool) (m:Mp) (d:Option Nat) (p:cQ) (l:List AO) (ks:List Kp) (fr:PF) (h:PH):Prop:=∃x,g= .v x∧br (eW b x=true) (PK E O n Q (.ops m (⟨none,d,p⟩::l) ks) fr h) (PK E O n Q (.ops (m.up [] (fr.bg d (.v undef)) h) l ks) (fr.bg d (.v undef)) h)
@[simp]theorem anh (t:Nat) (b:Bool) (p:cQ):PK E O n Q (.ops m (⟨some (t,b),d,p⟩::l) ks) fr h↔PG E O n Q (fr.get t) b m d p l ks fr h:=by
 constructor
 ·intro k
  cases k with
  |VQ e w q=>exact ⟨_,e,fun _=>q,fun k=>absurd w k⟩
  |GR e w q=>exact ⟨_,e,fun k=>(Bool.noConfusion (w.symm.trans k)),fun _=>q⟩
 ·rintro ⟨x,e,q⟩
  cases w:eW b x with
  |true=>exact .VQ e w (q.1 w)
  |false=>exact .GR e w (q.2 (by simp [w]))
@[simp]theorem ani (t:Bool) (p:cQ):PG E O n Q (.v (.bool t)) false m d p l ks fr h↔br (t=true) (PK E O n Q (.ops (m.up [] (fr.bg d (.v undef)) h) l ks) (fr.bg d (.v undef)) h) (PK E O n Q (.ops m (⟨none,d,p⟩::l) ks) fr h):=by
 unfold PG;refine ⟨fun⟨x,e,q⟩=>?_,fun q=>⟨_,rfl,?_⟩⟩
 ·cases e;cases t<;>simpa using q
 ·cases t<;>simpa using q
def PO (E:Env) (O:kl) (n:Nat) (Q:Ex→PF→PH→Prop) (r:Option (PV×PH)) (V:List Nat) (d:Option Nat) (m:Mp) (l:List AO) (ks:List Kp) (fr:PF):Prop:=∃v h',r=some (v,h')∧PK E O n Q (.ops (m.up V (fr.bg d v) h') l ks) (fr.bg d v) h'
@[simp]theorem aeA (v:PV) (h':PH) (V:List Nat):PO E O n Q (some (v,h')) V d m l ks fr↔PK E O n Q (.ops (m.up V (fr.bg d v) h') l ks) (fr.bg d v) h':=⟨fun⟨_,_,e,q⟩=>by cases e;exact q,fun q=>⟨_,_,rfl,q⟩⟩
@[simp]theorem anj (V:List Nat):PO E O n Q none V d m l ks fr↔False:=⟨fun⟨_,_,e,_⟩=>(by cases e),False.elim⟩
def P1 (E:Env) (O:kl) (n:Nat) (Q:Ex→PF→PH→Prop) (r:Option PV) (d:Option Nat) (m:Mp) (l:List AO) (ks:List Kp) (fr:PF) (h:PH):Prop:=∃v,r=some v∧PK E O n Q (.ops (m.up [] (fr.bg d v) h) l ks) (fr.bg d v) h
@[simp]theorem ank (v:PV):P1 E O n Q (some v) d m l ks fr h↔PK E O n Q (.ops (m.up [] (fr.bg d v) h) l ks) (fr.bg d v) h:=⟨fun⟨_,e,q⟩=>by cases e;exact q,fun q=>⟨_,rfl,q⟩⟩
@[simp]theorem anl:P1 E O n Q none d m l ks fr h↔False:=⟨fun⟨_,e,_⟩=>(by cases e),False.elim⟩
@[simp]theorem ah9 (c:Prop) [Decidable c] (r:Option PV):P1 E O n Q (if c then r else none) d m l ks fr h↔c∧P1 E O n Q r d m l ks fr h:=by by_cases h:c<;>simp [h]
def PS (E:Env) (O:kl) (n:Nat) (Q:Ex→PF→PH→Prop) (r:Option PH) (V:List Nat) (d:Option Nat) (m:Mp) (l:List AO) (ks:List Kp) (fr:PF):Prop:=∃h',r=some h'∧PK E O n Q (.ops (m.up V (fr.bg d (.v undef)) h') l ks) (fr.bg d (.v undef)) h'
@[simp]theorem ann (h':PH) (V:List Nat):PS E O n Q (some h') V d m l ks fr↔PK E O n Q (.ops (m.up V (fr.bg d (.v undef)) h') l ks) (fr.bg d (.v undef)) h':=⟨fun⟨_,e,q⟩=>by cases e;exact q,fun q=>⟨_,rfl,q⟩⟩
@[simp]theorem ano (V:List Nat):PS E O n Q none V d m l ks fr↔False:=⟨fun⟨_,e,_⟩=>(by cases e),False.elim⟩
@[simp]theorem aia (c:Prop) [Decidable c] (r:Option PH) (V:List Nat):PS E O n Q (if c then r else none) V d m l ks fr↔c∧PS E O n Q r V d m l ks fr:=by by_cases h:c<;>simp [h]
theorem qE {p:cQ} (a:p.bl=false):PK E O n Q (.ops m (⟨none,d,p⟩::l) ks) fr h↔PO E O n Q (pop p (ie fr) h) (xU p (ie fr)) d m l ks fr:=by
 constructor
 ·intro k
  cases k with
  |op e q=>exact ⟨_,_,e,q⟩
  |call=>cases a
  |callv=>cases a
 ·exact fun⟨_,_,e,q⟩=>.op e q
theorem P3 (r:Option PV):PO E O n Q (r.map fun v=>(v,h)) [] d m l ks fr↔P1 E O n Q r d m l ks fr h:=by cases r<;>simp
theorem KR (r:Option PH) (V:List Nat):PO E O n Q (r.map fun a=>(.v undef,a)) V d m l ks fr↔PS E O n Q r V d m l ks fr:=by cases r<;>simp
theorem xZ {p:cQ} {r:Option PV} (a:p.bl=false) (e:pop p (ie fr) h=r.map fun v=>(v,h)) (w:xU p (ie fr)=[]):PK E O n Q (.ops m (⟨none,d,p⟩::l) ks) fr h↔P1 E O n Q r d m l ks fr h:=by rw [qE a,e,w,P3]
@[simp]theorem aib (x:X):PK E O n Q (.ops m (⟨none,d,.mv x⟩::l) ks) fr h↔PK E O n Q (.ops (m.up [] (fr.bg d (ie fr x)) h) l ks) (fr.bg d (ie fr x)) h:=by rw [qE rfl];simp [pop,xU]
@[simp]theorem Zm (c a b:X):PK E O n Q (.ops m (⟨none,d,.pick c a b⟩::l) ks) fr h↔P1 E O n Q (Gu (ie fr c) (ie fr a) (ie fr b)) d m l ks fr h:=xZ rfl rfl rfl
@[simp]theorem VY (z:List Value):PK E O n Q (.ops m (⟨none,d,.alloc z⟩::l) ks) fr h↔PK E O n Q (.ops (m.up [] (fr.bg d (.ref h.length 0 z.length)) (h++[.cells z.length (z.map .v)])) l ks) (fr.bg d (.ref h.length 0 z.length)) (h++[.cells z.length (z.map .v)]):=by rw [qE rfl];simp [pop,xU]
@[simp]theorem aeB (x:X):PK E O n Q (.ops m (⟨none,d,.box x⟩::l) ks) fr h↔PO E O n Q (KA h (ie fr x)) [] d m l ks fr:=qE rfl
@[simp]theorem VZ (z:List Value) (ps:List (Nat×Nat×X)):PK E O n Q (.ops m (⟨none,d,.build z ps⟩::l) ks) fr h↔P1 E O n Q ((po (z.map .v) (ps.map fun p=>(p.1,p.2.1,ie fr p.2.2))).map .agg) d m l ks fr h:=xZ rfl (by simp [pop,Option.map_map];rfl) rfl
@[simp]theorem aeC (len sz:Nat) (z:List Value) (ps:List (Nat×Nat×X)):PK E O n Q (.ops m (⟨none,d,.bsl len sz z ps⟩::l) ks) fr h↔PO E O n Q (Kz len sz z h (ps.map fun p=>(p.1,p.2.1,ie fr p.2.2))) [] d m l ks fr:=qE rfl
@[simp]theorem aic (x:X):PK E O n Q (.ops m (⟨none,d,.ld x⟩::l) ks) fr h↔P1 E O n Q (Mn h (ie fr x)) d m l ks fr h:=xZ rfl rfl rfl
@[simp]theorem aeD (k:Nat) (x:X):PK E O n Q (.ops m (⟨none,d,.ldn k x⟩::l) ks) fr h↔P1 E O n Q (vJ k h (ie fr x)) d m l ks fr h:=xZ rfl rfl rfl
@[simp]theorem aid (k:Nat) (x v:X):PK E O n Q (.ops m (⟨none,d,.st k x v⟩::l) ks) fr h↔PS E O n Q (Po k h (ie fr x) (ie fr v)) (xU (.st k x v) (ie fr)) d m l ks fr:=by rw [qE rfl];exact KR _ _
@[simp]theorem aeE (op:BinOp) (x y:X):PK E O n Q (.ops m (⟨none,d,.bin op x y⟩::l) ks) fr h↔P1 E O n Q (Gv op (ie fr x) (ie fr y)) d m l ks fr h:=xZ rfl rfl rfl
@[simp]theorem aie (sz:Nat) (x:X) (lo hi mx:Option X):PK E O n Q (.ops m (⟨none,d,.sl sz x lo hi mx⟩::l) ks) fr h↔PO E O n Q (Mo sz h (ie fr x) (lo.map (ie fr)) (hi.map (ie fr)) (mx.map (ie fr))) [] d m l ks fr:=qE rfl
@[simp]theorem aif (off:Nat) (x:X):PK E O n Q (.ops m (⟨none,d,.fa off x⟩::l) ks) fr h↔P1 E O n Q (RZ h off (ie fr x)) d m l ks fr h:=xZ rfl rfl rfl
@[simp]theorem aih (sz:Nat) (x i:X):PK E O n Q (.ops m (⟨none,d,.ia sz x i⟩::l) ks) fr h↔P1 E O n Q (VE h sz (ie fr x) (ie fr i)) d m l ks fr h:=xZ rfl rfl rfl
@[simp]theorem aeF (sz bytes:Nat) (s x:X):PK E O n Q (.ops m (⟨none,d,.app sz bytes s x⟩::l) ks) fr h↔PO E O n Q (zV sz bytes h (ie fr s) (ie fr x)) (xU (.app sz bytes s x) (ie fr)) d m l ks fr:=qE rfl
@[simp]theorem Zn (x:X):PK E O n Q (.ops m (⟨none,d,.eQ x⟩::l) ks) fr h↔P1 E O n Q (Bu h (ie fr x)) d m l ks fr h:=xZ rfl rfl rfl
theorem kI {f:Nat} {«as»:List X} {args:List PV} {W:List Nat} (b:«as».map (ie fr)=args) (k:Df E O f args h (· ∈W) (fun r a=>PK E O n Q (.ops (m.up W (fr.bg d r) a) l ks) (fr.bg d r) a)):PK E O n Q (.ops m (⟨none,d,.call f «as»⟩::l) ks) fr h:=
 .call (b▸k) fun _ _ q=>q
end
theorem GY {sz bytes b n k:Nat} {h:PH} {x:PV} {cs new:List PV} (a:h[b]?=some (.cells sz cs)) (c:n*sz=cs.length) (r:0<sz) (o:qc x=some k) (g:kf h sz k x=some new) (m:new.length=k*sz) (j:iP h x=true) (p:(n+k)*bytes≤2^47) (q:n+k<2^62):
 zV sz bytes h (.sl sz b 0 n n) x=some (.sl sz b 0 (n+k) (n+k),h.set b (.cells sz (cs++new))):=by
 have l:=(apM.1 a).1;unfold zV;rw [o];simp only;by_cases f:k=0
 ·subst f
  have:new=[]:=ap9.1 (by simpa using m);subst this
  have e:h.set b (.cells sz cs)=h:=by
   apply List.ext_getElem?;intro i;rw [List.getElem?_set];by_cases hi:b=i
   ·subst hi;rw [if_pos rfl,if_pos l,a]
   ·rw [if_neg hi]
  simp [j,a,c,e]
 ·rw [if_neg f,g]
  simp only [a];rw [if_pos ⟨trivial,trivial,r,by simpa using c,apK _,p,q⟩];by_cases d:n=0
  ·subst d
   have:cs=[]:=ap9.1 (by simpa using c.symm);subst this;simp
  ·rw [if_neg d,if_neg (by omega),if_pos trivial,apN (by omega)]
theorem fm {E:Env} {O:kl} {n:Nat} {Q:Ex→PF→PH→Prop} {a:List Kp} {fr:PF} {m:Mp} {l:List AO} {d:Option Nat} {V:List Nat} {sz bytes b j k:Nat} {h:PH} {x:PV} {cs new:List PV} (p:h[b]?=some (.cells sz cs)) (i:qc x=some k) (c:kf h sz k x=some new) (f:j*sz=cs.length) (r:0<sz) (g:new.length=k*sz) (e:iP h x=true) (o:(j+k)*bytes≤2^47) (q:j+k<2^62)
 (next:PK E O n Q (.ops (m.up V (fr.bg d (.sl sz b 0 (j+k) (j+k))) (h.set b (.cells sz (cs++new)))) l a) (fr.bg d (.sl sz b 0 (j+k) (j+k))) (h.set b (.cells sz (cs++new)))):PO E O n Q (zV sz bytes h (.sl sz b 0 j j) x) V d m l a fr:=by
 rw [GY p f r i c g e o q];exact (aeA _ _ _).2 next
attribute [simp] xT R7 Gu Mn vJ Po Bt Gv Kv Kw vK pun Pp Pq RZ df VE Kx pix Pt Gw qc Bu Bv Gx Ky Mo kf Bw Gy Kz Pu VF Dc Pv KA dU po vI xU iP ur zU vO.all vO.get mB
end P
namespace P
open Go Go.RowKit
def add (F:Nat→Prop) (h:PH) (φ:Nat→Nat) (A:Nat→Prop):Nat→Prop:=fun y=>F y∨∃b,A b∧aY h b∧φ b=y
def Vz (A:Nat→Prop) (h:PH) (p q:PV):Prop:=∀F H φ x,eu ⟨F,H,φ,h⟩→RV ⟨F,H,φ,h⟩ p x→RF (add F h φ A) H q x
def DN (A:Nat→Prop) (h:PH):List PV→List PV→Prop
 |[],[]=>True
 |p::ps,q::qs=>Vz A h p q∧DN A h ps qs
 |_,_=>False
def Vg (A:Nat→Prop) (σ:Nat→Nat) (h bs:PH) (p q:PV):Prop:=∀F H φ x,eu ⟨F,H,φ,h⟩→RV ⟨F,H,φ,h⟩ p x→RV ⟨add F h φ A,H,fun i=>φ (σ i),bs⟩ q x
def ny (A:Nat→Prop) (σ:Nat→Nat) (h bs:PH):List PV→List PV→Prop
 |[],[]=>True
 |p::ps,q::qs=>Vg A σ h bs p q∧ny A σ h bs ps qs
 |_,_=>False
variable{A:Nat→Prop} {σ:Nat→Nat} {h bs:PH}
theorem DN.ok:∀{ps qs:List PV},DN A h ps qs→∀{F H φ xs},eu ⟨F,H,φ,h⟩→cK ⟨F,H,φ,h⟩ ps xs→gg (add F h φ A) H qs xs
 |[],[],_,F,H,φ,_,S,.nil=>.nil
 |p::ps,q::qs,⟨a,b⟩,F,H,φ,_,S,.cons r s=>.cons (a F H φ _ S r) (DN.ok b S s)
theorem ny.ok:∀{ps qs:List PV},ny A σ h bs ps qs→∀{F H φ xs},eu ⟨F,H,φ,h⟩→cK ⟨F,H,φ,h⟩ ps xs→cK ⟨add F h φ A,H,fun i=>φ (σ i),bs⟩ qs xs
 |[],[],_,F,H,φ,_,S,.nil=>.nil
 |p::ps,q::qs,⟨a,b⟩,F,H,φ,_,S,.cons r s=>.cons (a F H φ _ S r) (ny.ok b S s)
theorem GZ {F:Nat→Prop} {H:AH} {φ:Nat→Nat} (x:Nat) (a:F x):add F h φ A x∧H.get x=H.get x:=⟨.inl a,rfl⟩
theorem x7 (x:Value):Vz A h (.v x) (.v x):=fun F H a y S R=>by cases R;exact .v _
theorem Mv (sz:Nat) (rows:List (List PV)):Vz A h (.fs sz rows) (.fs sz rows):=fun F H a y S R=>by cases R with|fs q=>exact q.mono rfl GZ
theorem ll.of_flat {F:Nat→Prop} {H:AH} {sz:Nat}:∀{rows:List (List PV)} {ys:List Value},gg F H rows.flatten ys→(∀r∈rows,r.length=sz)→∃rs,ll F H rows rs∧rs.flatten=ys∧∀r∈rs,r.length=sz
 |[],ys,h,_=>by cases h;exact ⟨[],.nil,rfl,by simp⟩
 |r::rows,ys,h,e=>by
  rw [List.flatten_cons]at h;have f:gg F H r (ys.take sz):=by have:=h.take r.length;rwa [List.take_left,e r (by simp)]at this
  have h2:gg F H rows.flatten (ys.drop sz):=by have:=h.drop r.length;rwa [List.drop_left,e r (by simp)]at this
  obtain ⟨rs,a,b,c⟩:=ll.of_flat h2 fun q d=>e q (by simp [d])
  refine ⟨ys.take sz::rs,.cons f a,by rw [List.flatten_cons,b,List.take_append_drop],fun q d=>?_⟩;rcases apY.1 d with rfl|d
  ·rw [←f.length,e r (by simp)]
  ·exact c q d
theorem G0 {sz b o n c z:Nat} {cs:List PV} {rows:List (List PV)} (C:A b) (a:h[b]?=some (.cells z cs)) (j:(o+c)*sz=cs.length) (f:0<sz) (u:sz≤z) (B:n≤c) (k:rows.length=n) (y:∀r∈rows,r.length=sz) (v:DN A h ((cs.drop (o*sz)).take (n*sz)) rows.flatten):Vz A h (.sl sz b o n c) (.fs sz rows):=fun F H K x S R=>by
 rcases sW R a j with⟨rfl,rfl,d,rfl,Q⟩|⟨T,rfl⟩
 ·obtain rfl:rows=[]:=ap9.1 k
  exact .fs (rows:=[]) (rs:=[]) ⟨_,_,rfl,by simp⟩ (ap8 _) (fun e m=>⟨.inr rfl,.inl rfl⟩) .nil
 ·have p:cs≠[]:=by
   rintro rfl;have:=Nat.mul_pos (show 0<o+c by omega) f;simp at j;omega
  obtain ⟨L,l,g,D⟩:=S.cells (t:=0) a (List.length_pos_iff.2 p);have N:=g.length;obtain ⟨rs,q,J,I⟩:=ll.of_flat (v.ok S ((g.drop (o*sz)).take (n*sz))) y;have w:=q.length;have G:(o+c)*sz=o*sz+c*sz:=Nat.add_mul ..;rw [←k];refine .fs (rs:=rs) ⟨_,_,by rw [w],fun i r hi=>⟨_,_,rfl,?_⟩⟩ (by omega) (fun e m=>?_) q
  ·obtain ⟨E,U⟩:=jc I hi
   have P:=(apM.1 hi).1;have s:(i+1)*sz≤n*sz:=Nat.mul_le_mul_right _ (by omega);have M:n*sz≤c*sz:=Nat.mul_le_mul_right _ B;rw [Nat.succ_mul]at s;rw [bM l D (by omega),←E,J,List.drop_take,List.drop_drop,List.take_take,Nat.min_eq_left (by omega)]
  ·cases m
   refine ⟨.inl rfl,?_⟩;by_cases O:n=0
   ·left;omega
   ·right
    refine ⟨.inr ⟨b,C,cn a p,rfl⟩,?_⟩;unfold AH.lz;rw [l];simp [u]
theorem x8 {p q:PV} (k:Vz A h p q):Vg A σ h bs p q:=fun F H a x S R=>(k F H a x S R).pk (C:=⟨_,_,_,_⟩)
theorem P4 (p:PV):Vg A σ h bs p .any:=fun F H a x S R=>.any x
@[simp]theorem aeG (x:Value):Vg A σ h bs (.v x) (.v x)↔True:=⟨fun _=>trivial,fun _=>x8 (x7 x)⟩
@[simp]theorem G3 (sz:Nat) (rows:List (List PV)):Vg A σ h bs (.fs sz rows) (.fs sz rows)↔True:=⟨fun _=>trivial,fun _=>x8 (Mv sz rows)⟩
@[simp]theorem Zo:DN A h [] []↔True:=Iff.rfl
@[simp]theorem V0 (p q:PV) (ps qs:List PV):DN A h (p::ps) (q::qs)↔Vz A h p q∧DN A h ps qs:=Iff.rfl
@[simp]theorem Zp:ny A σ h bs [] []↔True:=Iff.rfl
@[simp]theorem V1 (p q:PV) (ps qs:List PV):ny A σ h bs (p::ps) (q::qs)↔Vg A σ h bs p q∧ny A σ h bs ps qs:=Iff.rfl
@[simp]theorem V2 (cells:List PV):Vg A σ h bs (.fp cells) (.fp cells)↔True:=⟨fun _=>trivial,fun _ F H d x S R=>by
 cases R with|fp a b c=>exact .fp (.inl a) b (c.mono rfl GZ)⟩
theorem G4 {ps qs:List PV} (k:ny A σ h bs ps qs):Vg A σ h bs (.agg ps) (.agg qs):=fun F H a x S R=>by cases R with|agg r=>exact .agg (k.ok S r)
theorem G5 {ps qs:List PV} (k:ny A σ h bs ps qs):Vg A σ h bs (.kG ps) (.kG qs):=fun F H a x S R=>by cases R with|kG r=>exact .kG (k.ok S r)
theorem V3 {f:Nat} {ps qs ps' a:List PV} (k:ny A σ h bs ps qs) (c:ny A σ h bs ps' a):Vg A σ h bs (.fn f ps ps') (.fn f qs a):=fun F H d x S R=>by cases R with|fn r b=>exact .fn (k.ok S r) (c.ok S b)
theorem P5 {t:Nat} {p q:PV} (k:Vg A σ h bs p q):Vg A σ h bs (.pj t p) (.pj t q):=fun F H a x S R=>by cases R with|pj r=>exact .pj (k F H a _ S r)
theorem lr {h:PH} {b T t:Nat} (e:df h b=some T):At h b t↔T=t:=by
 unfold df at e;split at e
 ·rename_i z cs a
  cases e;constructor
  ·rintro ⟨c,d,e,rfl⟩;rw [a]at e;cases e;rfl
  ·rintro rfl;exact ⟨z,cs,a,rfl⟩
 ·cases e
theorem lu {h:PH} {b T t:Nat} (e:df h b=some T):Le h b t↔t≤T:=by
 unfold df at e;split at e
 ·rename_i z cs a
  cases e;exact ⟨fun k=>k z cs a,fun k c d e=>by rw [a]at e;cases e;exact k⟩
 ·cases e
theorem vQ {h:PH} {b T:Nat} (e:df h b=some T):b<h.length:=by
 unfold df at e;split at e
 ·rename_i z cs a;exact (apM.1 a).1
 ·cases e
theorem P6 {b i o t T:Nat} (c:df h b=some T) (h2:df bs i=some T) (hs:σ i=b):Vg A σ h bs (.ref b o t) (.ref i o t):=fun F H f x S R=>by
 cases R with|ref a g d e=>
 subst hs;refine .ref a (vQ h2) ((lu h2).2 ((lu c).1 d)) fun k=>?_
 exact e ((lr c).2 ((lr h2).1 k))
theorem Mw {b i sz o n c T:Nat} (d:df h b=some T) (h2:df bs i=some T) (hs:σ i=b):Vg A σ h bs (.sl sz b o n c) (.sl sz i o n c):=fun F H g x S R=>by
 cases R with|sl a j e f=>
 subst hs;refine .sl a (vQ h2) ((lu h2).2 ((lu d).1 e)) fun k=>?_
 exact f ((lr d).2 ((lr h2).1 k))
theorem BI {sz i z:Nat} (h2:bs[i]?=some (.cells z [])):Vg A σ h bs (.v (.slice none 0 0)) (.sl sz i 0 0 0):=fun F H a x S R=>by
 cases R;have e:df bs i=some 0:=by unfold df;rw [h2];rfl
 exact .sl ⟨_,_,rfl⟩ (vQ e) ((lu e).2 (by simp)) fun _=>.inl ⟨rfl,rfl,none,rfl,by simp⟩
def qF (A:Nat→Prop) (σ:Nat→Nat) (h bs:PH) (o:Option PB):PB→Prop
 | .cells z qs=>qs=[]∨∃ps,o=some (.cells z ps)∧ny A σ h bs ps qs
 | .map fs=>∃es,o=some (.map es)∧es.map (·.1)=fs.map (·.1)∧ny A σ h bs (es.map (·.2)) (fs.map (·.2))
 | .dead=>True
structure iQ (A:Nat→Prop) (σ:Nat→Nat) (h bs:PH):Prop where
 aU:∀i P,bs[i]?=some P→qF A σ h bs h[σ i]? P
 inj:∀i j,i<bs.length→j<bs.length→aY bs i→aY bs j→σ i=σ j→i=j
 off:∀i,i<bs.length→aY bs i→¬ A (σ i)
theorem ny.length:∀{ps qs:List PV},ny A σ h bs ps qs→ps.length=qs.length
 |[],[],_=>rfl
 |_::_,_::_,⟨_,b⟩=>by simp [ny.length b]
theorem iQ.aY (K:iQ A σ h bs) {i:Nat} (s:P.aY bs i):P.aY h (σ i):=by
 rcases kH s with⟨es,e⟩|⟨z,cs,e,b⟩
 ·obtain ⟨d,a,_⟩:=K.aU i _ e
  exact eZ a
 ·rcases K.aU i _ e with q|⟨ps,a,c⟩
  ·exact absurd q b
  ·exact cn a (by rintro rfl;have:=c.length;exact b (ap9.1 this.symm))
theorem iQ.ok (K:iQ A σ h bs) {F:Nat→Prop} {H:AH} {φ:Nat→Nat} (S:eu ⟨F,H,φ,h⟩):eu ⟨add F h φ A,H,fun i=>φ (σ i),bs⟩where
 wf:=S.wf
 fz:=fun x l=>by
  rcases l with l|⟨b,_,f,rfl⟩
  ·exact S.fz x l
  ·exact S.lt f
 inj:=fun i j s t e=>K.inj i j (bu s) (bu t) s t (S.inj _ _ (K.aY s) (K.aY t) e)
 aU:=fun i z y e m=>by
  have s:=cn e m;rcases K.aU i _ e with q|⟨ps,p,k⟩
  ·exact absurd q m
  obtain ⟨u,a,b,c,d⟩:=S.aU (σ i) z ps p (by rintro rfl;have:=k.length;exact m (ap9.1 this.symm));refine ⟨u,a,k.ok S b,c,?_⟩;rintro (q|⟨w,n,f,o⟩)
  ·exact d q
  ·exact K.off i (bu s) s (S.inj _ _ f (K.aY s) o▸n)
 um:=fun i B e=>by
  have s:=eZ e;obtain ⟨es,p,v,k⟩:=K.aU i _ e;obtain ⟨r,a,b,c,d,g⟩:=S.um (σ i) es p;refine ⟨r,a,v.symm.trans b,k.ok S c,d,?_⟩;rintro (q|⟨w,n,f,o⟩)
  ·exact g q
  ·exact K.off i (bu s) s (S.inj _ _ f (K.aY s) o▸n)
theorem iQ.none (A:Nat→Prop) (σ:Nat→Nat) (h:PH):iQ A σ h []:=⟨fun i P e=>by simp at e,fun i j hi=>by simp at hi,fun i hi=>by simp at hi⟩
mutual
def sh (k:Nat):PV→PV
 | .ref b o t=>.ref (b+k) o t
 | .sl sz b o n c=>.sl sz (b+k) o n c
 | .mp b=>.mp (b+k)
 | .agg cs=>.agg (yG k cs)
 | .kG cs=>.kG (yG k cs)
 | .fn f a b=>.fn f (yG k a) (yG k b)
 | .pj t p=>.pj t (sh k p)
 | .v x=>.v x
 | .fs sz rows=>.fs sz rows
 | .fp cells=>.fp cells
 | .any=>.any
def yG (k:Nat):List PV→List PV
 |[]=>[]
 |p::ps=>sh k p::yG k ps
end
def sZ (k:Nat):PB→PB
 | .cells z cs=>.cells z (yG k cs)
 | .map es=>.map (es.map fun e=>(e.1,sh k e.2))
 | .dead=>.dead
theorem jE (k:Nat):∀l:List PV,(yG k l).length=l.length
 |[]=>rfl
 |_::l=>by simp [yG,jE k l]
theorem BJ (k:Nat):∀es:List (Value×PV),(es.map fun e=>(e.1,sh k e.2)).map (·.2)=yG k (es.map (·.2))
 |[]=>rfl
 |_::l=>by simp only [List.map_cons,yG,BJ k l]
theorem pr {h bs:PH} (b:Nat):(h++bs.map (sZ h.length))[b+h.length]?=(bs[b]?).map (sZ h.length):=by
 rw [apX (by omega),Nat.add_sub_cancel,aqa]
theorem G6 {h bs:PH} {b t:Nat}:At (h++bs.map (sZ h.length)) (b+h.length) t↔At bs b t:=by
 unfold At;rw [pr];constructor
 ·rintro ⟨z,cs,e,rfl⟩
  obtain ⟨P,a,e⟩:=apQ.1 e
  cases P with
  |cells d c=>cases e;exact ⟨_,c,a,(jE _ _).symm⟩
  |_=>cases e
 ·rintro ⟨z,cs,e,rfl⟩
  exact ⟨z,yG h.length cs,by rw [e];rfl,jE _ _⟩
theorem Mx {h bs:PH} {b t:Nat}:Le (h++bs.map (sZ h.length)) (b+h.length) t↔Le bs b t:=by
 unfold Le;rw [pr];constructor
 ·intro k z cs e
  have:=k z (yG h.length cs) (by rw [e];rfl);rwa [jE]at this
 ·intro k z cs e
  obtain ⟨P,a,e⟩:=apQ.1 e
  cases P with
  |cells d c=>cases e;rw [jE];exact k _ c a
  |_=>cases e
theorem x9 {h bs:PH} {b:Nat}:db (h++bs.map (sZ h.length)) (b+h.length)↔db bs b:=by
 unfold db;rw [pr];constructor
 ·rintro ⟨es,e⟩
  obtain ⟨P,c,e⟩:=apQ.1 e
  cases P with
  |map a=>exact ⟨a,c⟩
  |_=>cases e
 ·rintro ⟨es,e⟩
  exact ⟨_,by rw [e];rfl⟩
theorem G7 {h bs:PH} {b:Nat}:aY (h++bs.map (sZ h.length)) (b+h.length)↔aY bs b:=by
 unfold aY;simp only [x9,G6]
def join (h:PH) (φ ψ:Nat→Nat):Nat→Nat:=fun b=>if b<h.length then φ b else ψ (b- h.length)
theorem rq (h:PH) (φ ψ:Nat→Nat) (b:Nat):join h φ ψ (b+h.length)=ψ b:=by
 unfold join;rw [if_neg (by omega),Nat.add_sub_cancel]
theorem vR {h:PH} {φ ψ:Nat→Nat} {b:Nat} (a:b<h.length):join h φ ψ b=φ b:=if_pos a
theorem G8 {h bs:PH} {b:Nat} (a:b<bs.length):b+h.length<(h++bs.map (sZ h.length)).length:=by
 rw [apP,List.length_map];omega
mutual
theorem BK {F:Nat→Prop} {H:AH} {φ ψ:Nat→Nat} {h bs:PH}:∀{p:PV} {x:Value},RV ⟨F,H,ψ,bs⟩ p x→RV ⟨F,H,join h φ ψ,h++bs.map (sZ h.length)⟩ (sh h.length p) x
 |_,_, .v x=> .v x
 |_,_, .ref a d f e=> .ref a (G8 d) (Mx.2 f) fun k=>by
  have:=e (G6.1 k)
  simpa [rq]using this
 |_,_, .sl a d f e=> .sl a (G8 d) (Mx.2 f) fun k=>by
  have:=e (G6.1 k)
  simpa [rq]using this
 |_,_, .mp a d e=> .mp a (G8 d) fun k=>by
  have:=e (x9.1 k)
  simpa [rq]using this
 |_,_, .fs k=> .fs k
 |_,_, .fp a b c=> .fp a b c
 |_,_, .agg k=> .agg (nV k)
 |_,_, .kG k=> .kG (nV k)
 |_,_, .fn a b=> .fn (nV a) (nV b)
 |_,_, .pj a=> .pj (BK a)
 |_,_, .any x=> .any x
theorem nV {F:Nat→Prop} {H:AH} {φ ψ:Nat→Nat} {h bs:PH}:∀{p:List PV} {x:List Value},cK ⟨F,H,ψ,bs⟩ p x→cK ⟨F,H,join h φ ψ,h++bs.map (sZ h.length)⟩ (yG h.length p) x
 |_,_, .nil=> .nil
 |_,_, .cons a b=> .cons (BK a) (nV b)
end
end P
namespace P
open Go Go.RowKit
variable{E:Env} {O:kl}
def cH (h:PH):List Nat→PH
 |[]=>h
 |b::L=>cH (h.set b .dead) L
theorem gJ:∀(L:List Nat) (h:PH),(cH h L).length=h.length
 |[],h=>rfl
 |b::L,h=>by rw [cH,gJ L];simp
theorem kJ:∀(L:List Nat) (h:PH) (c:Nat),(cH h L)[c]?=if c∈L∧c<h.length then some .dead else h[c]?
 |[],h,c=>by simp [cH]
 |b::L,h,c=>by
  rw [cH,kJ L];by_cases d:c<h.length
  ·by_cases a:c∈L
   ·simp [a,d]
   ·by_cases h2:c=b
    ·subst h2;simp [a,d]
    ·rw [if_neg (fun q=>a q.1),if_neg (fun q=>(apY.1 q.1).elim h2 a),fy h2]
  ·rw [if_neg (by simp;omega),if_neg (by simp;omega),aql (by simp;omega),aql (by omega)]
theorem jF {h:PH} {L:List Nat} {b:Nat} (s:aY (cH h L) b):aY h b∧b∉L:=by
 have d:=bu s;rw [gJ]at d;have e:=kJ L h b;by_cases a:b∈L
 ·rw [if_pos ⟨a,d⟩]at e
  rcases kH s with⟨es,c⟩|⟨z,cs,c,_⟩<;>rw [e]at c<;>cases c
 ·rw [if_neg (fun q=>a q.1)]at e
  exact ⟨(dx e).1 s,a⟩
theorem uv {F:Nat→Prop} {H:AH} {φ:Nat→Nat} {h:PH} (S:eu ⟨F,H,φ,h⟩) (L:List Nat):eu ⟨add F h φ (· ∈L),H,φ,cH h L⟩∧dR h.length (fun _=>False) ⟨F,H,φ,h⟩ ⟨add F h φ (· ∈L),H,φ,cH h L⟩:=by
 have same:∀b,b∉L→(cH h L)[b]?=h[b]?:=fun b f=>by rw [kJ,if_neg (fun q=>f q.1)]
 have dead:∀b,b∈L→b<h.length→(cH h L)[b]?=some .dead:=fun b f g=>by rw [kJ,if_pos ⟨f,g⟩]
 have T:dR h.length (fun _=>False) ⟨F,H,φ,h⟩ ⟨add F h φ (· ∈L),H,φ,cH h L⟩:={
  n0:=rfl
  nx:=apK _
  fz:=fun x i=>⟨.inl i,rfl⟩
  fo:=fun x i hi n=>by
   rcases n with n|⟨b,_,s,rfl⟩
   ·exact n
   ·exact absurd ⟨b,trivial,s,rfl⟩ hi
  out:=fun _ _ _=>rfl
  loc:=fun b f=>.inr ⟨(jF f).1,rfl⟩
  len:=fun k=>by rw [gJ];exact k
  le:=fun b _ g t v=>by
   by_cases f:b∈L
   ·intro z cs e;rw [dead b f g]at e;cases e
   ·exact (qA (same b f)).2 v
  uq:=fun b _ g t _ j=>by
   by_cases f:b∈L
   ·obtain ⟨z,cs,e,_⟩:=j;rw [dead b f g]at e;cases e
   ·exact ⟨(qz (same b f)).1 j,rfl⟩
  vH:=fun b _ g j=>by
   by_cases f:b∈L
   ·obtain ⟨es,e⟩:=j;rw [dead b f g]at e;cases e
   ·exact ⟨(fx (same b f)).1 j,rfl⟩}
 have o:∀b,aY h b→b∉L→¬ add F h φ (· ∈L) (φ b):=by
  rintro b s f (q|⟨l,w,m,e⟩)
  ·exact (S.old s).2 q
  ·exact f (S.inj _ _ m s e▸w)
 refine ⟨⟨S.wf,fun x i=>?_,fun b l s m e=>S.inj _ _ (jF s).1 (jF m).1 e,fun b z cs e p=>?_,fun b es e=>?_⟩,T⟩
 ·rcases i with i|⟨b,_,s,rfl⟩
  ·exact S.fz x i
  ·exact S.lt s
 ·obtain ⟨s,f⟩:=jF (cn e p)
  rw [show(cH h L)[b]?=_ from same b f]at e;obtain ⟨u,a,l,c,_⟩:=S.aU b z cs e p;exact ⟨u,a,l.step T,c,o b s f⟩
 ·obtain ⟨s,f⟩:=jF (eZ e)
  rw [show(cH h L)[b]?=_ from same b f]at e;obtain ⟨r,a,l,c,d,_⟩:=S.um b es e;exact ⟨r,a,l,c.step T,d,o b s f⟩
theorem BL {F p:Nat→Prop} {H H':AH} {φ ψ:Nat→Nat} {h f:PH} {W:Nat→Prop} (S:eu ⟨F,H,φ,h⟩) (v:eu ⟨p,H',ψ,f⟩) (T:dR 0 lS ⟨F,H,φ,[]⟩ ⟨p,H',ψ,f⟩):
 eu ⟨p,H',join h φ ψ,h++f.map (sZ h.length)⟩∧dR h.length W ⟨F,H,φ,h⟩ ⟨p,H',join h φ ψ,h++f.map (sZ h.length)⟩:=by
 have M:∀{V:Nat→Prop} {x:Nat},¬ im ⟨F,H,φ,[]⟩ V x:=by
  rintro V x ⟨b,_,s,_⟩;have:=bu s;simp at this
 have same:∀x,x<H.nx→H'.get x=H.get x:=fun x m=>T.out x m M
 have fo:∀x,x<H.nx→p x→F x:=fun x m B=>T.fo x m M B
 have lo:∀{b},b<h.length→(h++f.map (sZ h.length))[b]?=h[b]?:=fun d=>apT d
 have new:∀b,aY f b→H.nx≤ψ b:=fun b s=>by
  rcases T.loc b s with q|⟨q,_⟩
  ·exact q
  ·have:=bu q;simp at this
 have split:∀b,aY (h++f.map (sZ h.length)) b→(b<h.length∧aY h b∧join h φ ψ b=φ b)∨∃c,b=c+h.length∧aY f c∧join h φ ψ b=ψ c:=by
  intro b s;by_cases d:b<h.length
  ·exact .inl ⟨d,(dx (lo d)).1 s,vR d⟩
  ·refine .inr ⟨b- h.length,by omega,?_,?_⟩
   ·rw [show b=(b- h.length)+h.length by omega]at s
    exact G7.1 s
   ·rw [show b=(b- h.length)+h.length by omega,rq,Nat.add_sub_cancel]
 have K:dR h.length W ⟨F,H,φ,h⟩ ⟨p,H',join h φ ψ,h++f.map (sZ h.length)⟩:={
  n0:=T.n0
  nx:=T.nx
  fz:=T.fz
  fo:=fun x m _ B=>fo x m B
  out:=fun x m _=>same x m
  loc:=fun b d=>by
   rcases split b d with⟨r,h2,a⟩|⟨c,rfl,h2,a⟩
   ·exact .inr ⟨h2,a⟩
   ·left;show _≤join h φ ψ _;rw [a];exact new c h2
  len:=fun _=>by simp
  le:=fun b d _ t Q=>(qA (lo d)).2 Q
  uq:=fun b d _ t _ D=>⟨(qz (lo d)).1 D,vR d⟩
  vH:=fun b d _ D=>⟨(fx (lo d)).1 D,vR d⟩}
 refine ⟨⟨v.wf,v.fz,fun b J s L e=>?_,fun b z cs e C=>?_,fun b es e=>?_⟩,K⟩
 ·dsimp only at e
  rcases split b s with⟨r,h2,a⟩|⟨c,rfl,h2,a⟩
  ·rcases split J L with⟨R,o,n⟩|⟨N,rfl,o,n⟩
   ·rw [a,n]at e;exact S.inj _ _ h2 o e
   ·rw [a,n]at e
    have X:φ b<H.nx:=S.lt h2;have:=new N o;omega
  ·rcases split J L with⟨R,o,n⟩|⟨N,rfl,o,n⟩
   ·rw [a,n]at e
    have X:φ J<H.nx:=S.lt o;have:=new c h2;omega
   ·rw [a,n]at e
    rw [v.inj _ _ h2 o e]
 ·rcases split b (cn e C)with⟨r,h2,a⟩|⟨c,rfl,h2,a⟩
  ·have g:=e
   rw [show(h++f.map (sZ h.length))[b]?=_ from lo r]at g;obtain ⟨y,l,k,j,i⟩:=S.aU b z cs g C;dsimp only;rw [a];exact ⟨y,(same _ (S.lt h2)).trans l,k.step K,T.n0▸j,fun q=>i (fo _ (S.lt h2) q)⟩
  ·have g:=e
   rw [show(h++f.map (sZ h.length))[c+h.length]?=_ from pr c]at g;obtain ⟨P,G,u⟩:=apQ.1 g
   cases P with
   |cells Y U=>
    cases u;obtain ⟨y,l,k,j,i⟩:=v.aU c _ U G (by rintro rfl;exact C rfl);dsimp only;rw [a];exact ⟨y,l,nV k,j,i⟩
   |_=>cases u
 ·rcases split b (eZ e)with⟨r,h2,a⟩|⟨c,rfl,h2,a⟩
  ·have g:=e
   rw [show(h++f.map (sZ h.length))[b]?=_ from lo r]at g;obtain ⟨w,l,k,j,i,A⟩:=S.um b es g;dsimp only;rw [a];exact ⟨w,(same _ (S.lt h2)).trans l,k,j.step K,T.n0▸i,fun q=>A (fo _ (S.lt h2) q)⟩
  ·have g:=e
   rw [show(h++f.map (sZ h.length))[c+h.length]?=_ from pr c]at g;obtain ⟨P,G,u⟩:=apQ.1 g
   cases P with
   |map I=>
    cases u;obtain ⟨w,l,k,j,i,A⟩:=v.um c I G;dsimp only;rw [a];refine ⟨w,l,?_,?_,i,A⟩
    ·rw [←k];simp [List.map_map,Function.comp_def]
    ·rw [BJ];exact nV j
   |_=>cases u
theorem jH.pure {f:Nat} {args d:List PV} {h:PH} (L:List Nat) {R:PV→PH→Prop} (k:jH E O f d [] R) (j:ny (· ∈L) id h [] args d):
 Df E O f args h (· ∈[]) (fun r n=>∃a b,R a b∧r=sh h.length a∧n=cH h L++b.map (sZ h.length)):=by
 intro F H φ i S u;obtain ⟨s,o⟩:=uv S L;have t:=(iQ.none (· ∈L) id h).ok S;refine (k _ H _ i t (j.ok S u)).mono ?_;rintro x y ⟨a,b,v,w,m,l,p,T⟩;obtain ⟨g,e⟩:=BL (W:=(· ∈[])) s p T;have c:=gJ L h;rw [c]at g e;refine ⟨_,_,v,_,⟨a,b,m,rfl,rfl⟩,?_,g,(o.trans e (by exact apK _) (fun _ q=>q.elim) (fun _ q=>q))⟩;have:=BK (φ:=φ) (h:=cH h L) l;rw [c]at this;exact this
mutual
def mC:PV→Bool
 | .v _=>true
 | .agg cs=>iR cs
 | .kG cs=>iR cs
 | .pj _ p=>mC p
 |_=>false
def iR:List PV→Bool
 |[]=>true
 |p::ps=>mC p&&iR ps
end
mutual
theorem ta {C D:Cx}:∀{p:PV} {x:Value},mC p=true→RV C p x→RV D p x
 |_,_,_,.v x=>.v x
 |_,_,k,.agg r=>.agg (mU (by simpa [mC]using k) r)
 |_,_,k,.kG r=>.kG (mU (by simpa [mC]using k) r)
 |_,_,k,.pj r=>.pj (ta (by simpa [mC]using k) r)
theorem mU {C D:Cx}:∀{p:List PV} {x:List Value},iR p=true→cK C p x→cK D p x
 |_,_,_,.nil=>.nil
 |_,_,k,.cons a b=>by
  simp only [iR,apJ]at k;exact .cons (ta k.1 a) (mU k.2 b)
end
theorem jH.flat {f:Nat} {args j:List PV} {h:PH} {R:PV→PH→Prop} (k:jH E O f j [] R) (q:ny lS id h [] args j) (v:∀r d,R r d→mC r=true):
 Df E O f args h (· ∈[]) (fun r w=>(∃d,R r d)∧w=h):=by
 intro F H a n S A;have y:=(iQ.none lS id h).ok S;refine (k _ H _ n y (q.ok S A)).mono ?_;rintro x m ⟨r,d,D,B,i,t,C,T⟩
 have p:∀{V:Nat→Prop} {x:Nat} {F:Nat→Prop} {a:Nat→Nat},¬ im ⟨F,H,a,[]⟩ V x:=by
  rintro V x F a ⟨b,_,s,_⟩;have:=bu s;simp at this
 have same:∀x,x<H.nx→m.get x=H.get x:=fun x c=>T.out x c p
 have l:dR h.length (· ∈[]) ⟨F,H,a,h⟩ ⟨F,m,a,h⟩:={
  n0:=T.n0
  nx:=T.nx
  fz:=fun x c=>⟨c,same x (S.fz x c)⟩
  fo:=fun _ _ _ h=>h
  out:=fun x c _=>same x c
  loc:=fun b u=>.inr ⟨u,rfl⟩
  len:=id
  le:=fun _ _ _ _ h=>h
  uq:=fun _ _ _ _ _ h=>⟨h,rfl⟩
  vH:=fun _ _ _ h=>⟨h,rfl⟩}
 have e:∀{P:PB},h[h.length]?≠some P:=by intro P;simp
 refine ⟨r,h,F,a,⟨⟨d,i⟩,rfl⟩,ta (v r d i) t,S.of l rfl h.length (fun _ _=>⟨rfl,rfl⟩) (fun b _ s=>same _ (S.lt s)) (fun b _ s o=>?_) (fun z cs g=>absurd g e) (fun es g=>absurd g e),l⟩;exact absurd (bu o) (Nat.lt_irrefl _)
def jY (A:Nat→Prop) (σ:Nat→Nat) (h bs:PH):Nat→PH→Prop
 |_,[]=>True
 |i,P::l=>qF A σ h bs h[σ i]? P∧jY A σ h bs (i+1) l
@[simp]theorem Sd (A:Nat→Prop) (a:Nat→Nat) (h b:PH) (i:Nat):jY A a h b i []↔True:=Iff.rfl
@[simp]theorem P7 (A:Nat→Prop) (a:Nat→Nat) (h b:PH) (i:Nat) (P:PB) (l:PH):jY A a h b i (P::l)↔qF A a h b h[a i]? P∧jY A a h b (i+1) l:=Iff.rfl
theorem jY.ok {A:Nat→Prop} {a:Nat→Nat} {h b:PH}:∀{l:PH} {i:Nat},jY A a h b i l→∀j P,l[j]?=some P→qF A a h b h[a (i+j)]? P
 |[],i,_,j,P,e=>by simp at e
 |Q::l,i,k,0,P,e=>by simp at e;subst e;exact k.1
 |Q::l,i,k,j+1,P,e=>by
  have:=jY.ok k.2 j P (by simpa using e);rwa [show i+1+j=i+(j+1) by omega]at this
theorem iQ.Zq {h bs:PH} (k:jY (fun _=>False) id h bs 0 bs):iQ (fun _=>False) id h bs:=
 ⟨fun i P e=>by simpa using k.ok i P e,fun i j _ _ _ _ e=>e,fun _ _ _ q=>q⟩
theorem iQ.at {A:Nat→Prop} {h bs:PH} (L:List Nat) (l:L.length=bs.length) (a:L.Nodup) (g:∀b∈L,¬ A b) (k:jY A (fun i=>L.getD i 0) h bs 0 bs):iQ A (fun i=>L.getD i 0) h bs:=by
 refine ⟨fun i P e=>by simpa using k.ok i P e,fun i j hi c _ _ e=> ?_,fun i hi _=>g _ ?_⟩
 · rw [List.getD_eq_getElem?_getD,List.getD_eq_getElem?_getD,apG (by omega),apG (by omega)]at e
   have f:i<L.length:=by omega
   have d:j<L.length:=by omega
   simp only [Option.getD_some]at e
   have key:∀(L:List Nat),L.Nodup→∀(i j:Nat) (hi:i<L.length) (c:j<L.length),L[i]=L[j]→i=j:=by
    intro L
    induction L with
    |nil=>intro _ i j hi;simp at hi
    |cons x L ih=>
     intro a i j hi c e;rw [List.nodup_cons]at a
     cases i with
     |zero=>cases j with
      |zero=>rfl
      |succ j=>simp only [List.getElem_cons_zero,List.getElem_cons_succ]at e;exact absurd (e▸List.getElem_mem _) a.1
     |succ i=>cases j with
      |zero=>simp only [List.getElem_cons_zero,List.getElem_cons_succ]at e;exact absurd (e▸List.getElem_mem _) a.1
      |succ j=>
       simp only [List.getElem_cons_succ]at e;rw [ih a.2 i j (by simpa using hi) (by simpa using c) e]
   exact key L a i j f d e
 · rw [List.getD_eq_getElem?_getD,apG (by omega)]
   exact List.getElem_mem _
@[simp]theorem My (A:Nat→Prop) (a:Nat→Nat) (h c:PH) (z b:Nat) (ps qs:List PV):qF A a h c (some (.cells z ps)) (.cells b qs)↔qs=[]∨(z=b∧ny A a h c ps qs):=by
 unfold qF;constructor
 ·rintro (q|⟨d,e,k⟩)
  ·exact .inl q
  ·cases e;exact .inr ⟨rfl,k⟩
 ·rintro (q|⟨rfl,k⟩)
  ·exact .inl q
  ·exact .inr ⟨_,rfl,k⟩
@[simp]theorem P8 (A:Nat→Prop) (a:Nat→Nat) (h b:PH) (o:Option PB):qF A a h b o .dead↔True:=Iff.rfl
@[simp]theorem P9 (A:Nat→Prop) (a:Nat→Nat) (h b:PH) (o:Option PB) (z:Nat):qF A a h b o (.cells z [])↔True:=⟨fun _=>trivial,fun _=>.inl rfl⟩
def Im:Option PB→Option PB→Prop
 |some (.cells _ cs),some (.cells _ cz)=>cs.length=cz.length
 |_,_=>False
@[simp]theorem aij (z b:Nat) (cs a:List PV):Im (some (.cells z cs)) (some (.cells b a))↔cs.length=a.length:=Iff.rfl
theorem yd {h g:PH} {A:Nat→Prop} {f:Nat→Nat} (K:iQ A f h g) {F:Nat→Prop} {H:AH} {φ:Nat→Nat} {C0:Cx} (k:C0.h.length=0) (T:dR 0 lS C0 ⟨F,H,φ,h⟩):dR 0 lS C0 ⟨add F h φ A,H,fun i=>φ (f i),g⟩:=by
 have j:C0.h=[]:=ap9.1 k;have no:∀{b:Nat},¬ aY C0.h b:=fun s=>by have:=bu s;omega
 refine ⟨T.n0,T.nx,fun y c=>⟨.inl (T.fz y c).1,(T.fz y c).2⟩,fun y c hi d=>?_,T.out,fun b a=>?_,fun _=>ap8 _,fun b a=>absurd a (ap6 _),fun b a=>absurd a (ap6 _),fun b a=>absurd a (ap6 _)⟩
 ·rcases d with d|⟨b,_,s,e⟩
  ·exact T.fo y c hi d
  ·rcases T.loc b s with q|⟨q,_⟩
   ·dsimp only at q;omega
   ·exact absurd q no
 ·rcases T.loc _ (K.aY a)with q|⟨q,_⟩
  ·exact .inl q
  ·exact absurd q no
theorem tc {r b:PV} {h bs:PH} (A:Nat→Prop) (a:Nat→Nat) (K:iQ A a h bs) (V:Vg A a h bs r b):BH 0 r h b bs:=by
 intro F H c x S R;exact ⟨_,_,K.ok S,V F H c x S R,fun e d T=>yd K d T⟩
theorem G9 {n:Nat} {r u:PV} {h bs:PH} (i:Nat→Nat) (K:iQ (fun _=>False) i h bs) (V:Vg (fun _=>False) i h bs r u) (A:n≤bs.length) (k:∀b,b<n→i b=b∧(df bs b=none∨df bs b=df h b)∧(db bs b→db h b)) (h2:∀b,n≤b→b<bs.length→n≤i b) (B:∀b,b<n→∀t,Le h b t→Le bs b t):BH n r h u bs:=by
 intro F H w x S R;refine ⟨_,_,K.ok S,V F H w x S R,fun G D T=>?_⟩
 have s:∀{h:PH} {b t:Nat},At h b t↔df h b=some t:=by
  intro h b t;constructor
  ·rintro ⟨z,cs,e,rfl⟩;unfold df;rw [e]
  ·intro e;exact (lr e).2 rfl
 refine ⟨T.n0,T.nx,fun y j=>⟨.inl (T.fz y j).1,(T.fz y j).2⟩,fun y j hi o=>?_,T.out,fun b a=>?_,fun _=>A,fun b a f t m=>B b a t (T.le b a f t m),fun b a f t m c=>?_,fun b a f c=>?_⟩
 ·rcases o with o|⟨b,q,_⟩
  ·exact T.fo y j hi o
  ·exact q.elim
 ·rcases T.loc _ (K.aY a)with q|⟨q,e⟩
  ·exact .inl q
  ·by_cases v:b<n
   ·rw [(k b v).1]at q e
    exact .inr ⟨q,by dsimp only;rw [(k b v).1];exact e⟩
   ·have:=h2 b (by omega) (bu a)
    have:=bu q;omega
 ·obtain ⟨p,g,_⟩:=k b a
  rw [s]at c
  have e:df h b=some t:=by
   rcases g with g|g
   ·rw [g]at c;cases c
   ·rw [←g];exact c
  obtain ⟨l,d⟩:=T.uq b a f t m (s.2 e);exact ⟨l,by dsimp only at d⊢;rw [p];exact d⟩
 ·obtain ⟨p,_,C⟩:=k b a
  obtain ⟨l,d⟩:=T.vH b a f (C c);exact ⟨l,by dsimp only at d⊢;rw [p];exact d⟩
def cy (h bs:PH) (b:Nat):Prop:=bs[b]?=some .dead∨Im h[b]? bs[b]?
theorem bX {n:Nat} {r m:PV} {h bs:PH} (L:List Nat) (D:L.length+n=bs.length) (a:L.Nodup) (k:∀b∈L,n≤b) (hs:∀b,b<n→cy h bs b) (K:jY (fun _=>False) (fun i=>if i<n then i else L.getD (i- n) 0) h bs 0 bs) (V:Vg (fun _=>False) (fun i=>if i<n then i else L.getD (i- n) 0) h bs r m):BH n r h m bs:=by
 have getD:∀i,n≤i→i<bs.length→L[i- n]?=some (L.getD (i- n) 0):=fun i d h2=>by
  rw [List.getD_eq_getElem?_getD,apG (by omega)];rfl
 have y:iQ (fun _=>False) (fun i=>if i<n then i else L.getD (i- n) 0) h bs:=by
  refine ⟨fun i P e=>by simpa using K.ok i P e,fun i j hi o _ _ e=> ?_,fun _ _ _ q=>q⟩;by_cases d:i<n
  · rw [if_pos d]at e
    by_cases h2:j<n
    · rwa [if_pos h2]at e
    · rw [if_neg h2]at e
      have:=k _ (apL (getD j (by omega) o));omega
  · rw [if_neg d]at e
    by_cases h2:j<n
    · rw [if_pos h2]at e
      have:=k _ (apL (getD i (by omega) hi));omega
    · rw [if_neg h2]at e
      have p:=getD i (by omega) hi;have w:=getD j (by omega) o;rw [e]at p
      have key:∀(L:List Nat),L.Nodup→∀(i j b:Nat),L[i]?=some b→L[j]?=some b→i=j:=by
       intro L
       induction L with
       |nil=>intro _ i j b e;simp at e
       |cons x L ih=>
        intro a i j b e g;rw [List.nodup_cons]at a
        cases i with
        |zero=>cases j with
         |zero=>rfl
         |succ j=>simp at e g;subst e;exact absurd (apL g) a.1
        |succ i=>cases j with
         |zero=>simp at e g;subst g;exact absurd (apL e) a.1
         |succ j=>rw [ih a.2 i j b (by simpa using e) (by simpa using g)]
      have:=key L a _ _ _ p w;omega
 refine G9 _ y V (by omega) (fun b c=>⟨if_pos c, ?_, ?_⟩) (fun b d h2=> ?_) (fun b c t s=> ?_)
 · rcases hs b c with q|q
   · left;unfold df;rw [q]
   · right
     unfold Im at q;split at q
     · rename_i z cs C F l f
       unfold df;rw [l,f];simp only [q]
     · exact q.elim
 · rintro ⟨es,e⟩
   rcases hs b c with q|q
   · rw [q]at e;cases e
   · rw [e]at q;unfold Im at q;split at q
     · rename_i f;cases f
     · exact q.elim
 · rw [if_neg (by omega)]
   exact k _ (apL (getD b d h2))
 · intro z cs e
   rcases hs b c with q|q
   · rw [q]at e;cases e
   · rw [e]at q
     unfold Im at q;split at q
     · rename_i B v A u l f
       cases f;have:=s _ _ l;omega
     · exact q.elim
theorem Hg {n:Nat} {r k:PV} {h bs:PH} (K:iQ (fun _=>False) id h bs) (V:Vg (fun _=>False) id h bs r k) (m:n≤bs.length) (hs:∀b,b<n→df bs b=df h b∧(db bs b→db h b)):BH n r h k bs:=by
 intro F H l x S R;refine ⟨_,_,K.ok S,V F H l x S R,fun s p T=>?_⟩
 have j:∀{h:PH} {b t:Nat},At h b t↔df h b=some t:=by
  intro h b t;constructor
  ·rintro ⟨z,cs,e,rfl⟩;unfold df;rw [e]
  ·intro e;exact (lr e).2 rfl
 refine ⟨T.n0,T.nx,fun y d=>⟨.inl (T.fz y d).1,(T.fz y d).2⟩,fun y d hi g=>?_,T.out,fun b a=>T.loc b (K.aY a),fun _=>m,fun b a c t f=>?_,fun b a c t f i=>?_,fun b a c i=>T.vH b a c ((hs b a).2 i)⟩
 ·rcases g with g|⟨b,q,_⟩
  ·exact T.fo y d hi g
  ·exact q.elim
 ·intro z cs e
  have o:df bs b=some cs.length:=by unfold df;rw [show bs[b]?=_ from e]
  have:=T.le b a c t f;exact (lu ((hs b a).1▸o)).1 this
 ·exact T.uq b a c t f (j.2 ((hs b a).1▸j.1 i))
theorem KS {n m:Nat} {r:PV} {h:PH} (a:n≤m) (c:m≤h.length) (K:jY (fun _=>False) id h (h.take m) 0 (h.take m)) (V:Vg (fun _=>False) id h (h.take m) r r):BH n r h r (h.take m):=by
 refine Hg (iQ.Zq K) V (by simp;omega) fun b d=>?_
 have e:(h.take m)[b]?=h[b]?:=by rw [aqf,if_pos (by omega)]
 exact ⟨by unfold df;rw [e],fun q=>(fx e).1 q⟩
theorem Qa {r a:PV} {h:PH} (V:Vg lS id h [] r a):BH 0 r h a []:=tc _ _ (iQ.none _ _ _) V
theorem KT {sz b n:Nat} {h:PH} {cs qs:List PV} (a:h[b]?=some (.cells sz cs)) (V:ny (· ≠b) (fun _=>b) h [.cells sz qs] cs qs):BH 0 (.sl sz b 0 n n) h (.sl sz 0 0 n n) [.cells sz qs]:=by
 have c:=V.length;have g:df h b=some cs.length:=by unfold df;rw [a]
 have f:df [PB.cells sz qs] 0=some cs.length:=by unfold df;simp [c]
 refine tc (· ≠b) (fun _=>b) ⟨fun i P e=>?_,fun i j hi d _ _ _=>by simp at hi d;omega,fun i hi s=>by simp⟩ (Mw g f rfl)
 cases i with
 |zero=>simp at e;subst e;exact .inr ⟨cs,a,V⟩
 |succ i=>simp at e
theorem KU (sz:Nat) (h:PH):BH 0 (.v (.slice none 0 0)) h (.sl sz 0 0 0 0) [.cells sz []]:=by
 refine tc (fun _=>False) id ⟨fun i P e=>?_,fun i j hi a _ _ _=>by simp at hi a;omega,fun i hi s=>by simp⟩ (BI rfl)
 cases i with
 |zero=>simp at e;subst e;exact .inl rfl
 |succ i=>simp at e
def PF.KV:List (Nat×PV)→PF
 |[]=>⟨fun _=>.any⟩
 |(t,p)::l=>⟨fun a=>if a=t then p else(PF.KV l).g a⟩
@[simp]theorem Zr (a:Nat):(PF.KV []).get a= .any:=rfl
@[simp]theorem yf (t a:Nat) (p:PV) (l:List (Nat×PV)):(PF.KV ((t,p)::l)).get a=if a=t then p else(PF.KV l).get a:=rfl
def qO (A:Nat→Prop) (σ:Nat→Nat) (h bs:PH) (fr:PF):List (Nat×PV)→Prop
 |[]=>True
 |(t,p)::l=>Vg A σ h bs (fr.get t) p∧qO A σ h bs fr l
@[simp]theorem V4 (A:Nat→Prop) (a:Nat→Nat) (h c:PH) (b:PF):qO A a h c b []↔True:=Iff.rfl
@[simp]theorem Se (A:Nat→Prop) (a:Nat→Nat) (h c:PH) (b:PF) (t:Nat) (p:PV) (l:List (Nat×PV)):qO A a h c b ((t,p)::l)↔Vg A a h c (b.get t) p∧qO A a h c b l:=Iff.rfl
theorem qO.ok {A:Nat→Prop} {b:Nat→Nat} {h d:PH} {c:PF}:∀{l:List (Nat×PV)},qO A b h d c l→∀t,Vg A b h d (c.get t) ((PF.KV l).get t)
 |[],_,t=>P4 _
 |(a,p)::l,k,t=>by
  rw [yf];split
  ·rename_i e;subst e;exact k.1
  ·exact qO.ok k.2 t
theorem Hh {b:PF} {h h2:PH} (A:Nat→Prop) (a:Nat→Nat) (l:List (Nat×PV)) (K:iQ A a h h2) (V:qO A a h h2 b l):Gh 0 b h (PF.KV l) h2:=by
 intro F H c e S R;exact ⟨_,_,K.ok S,fun t=>V.ok t F H c _ S (R t),fun f d T=>yd K d T⟩
end P
namespace P
open Go Go.RowKit
mutual
def nW:PV→Bool
 | .v _=>true
 | .fs _ _=>true
 | .fp _=>true
 | .agg cs=>eN cs
 | .kG cs=>eN cs
 | .fn _ a b=>eN a&&eN b
 | .pj _ p=>nW p
 |_=>false
def eN:List PV→Bool
 |[]=>true
 |p::ps=>nW p&&eN ps
end
attribute [simp] sh yG mC iR
@[simp]theorem aik (x:Value):nW (.v x)=true↔True:=⟨fun _=>trivial,fun _=>rfl⟩
@[simp]theorem aeH (sz:Nat) (rows:List (List PV)):nW (.fs sz rows)=true↔True:=⟨fun _=>trivial,fun _=>rfl⟩
@[simp]theorem Zs (cs:List PV):nW (.agg cs)=true↔eN cs=true:=by rw [nW]
@[simp]theorem Zt (cs:List PV):nW (.kG cs)=true↔eN cs=true:=by rw [nW]
@[simp]theorem Zu (t:Nat) (p:PV):nW (.pj t p)=true↔nW p=true:=by rw [nW]
@[simp]theorem aeI:eN []=true↔True:=⟨fun _=>trivial,fun _=>rfl⟩
@[simp]theorem vT (p:PV) (ps:List PV):eN (p::ps)=true↔nW p=true∧eN ps=true:=by rw [eN,apJ]
theorem mD:∀l:List PV,eN l=l.all nW
 |[]=>rfl
 |p::l=>by simp [eN,mD l]
theorem au (a b:List PV):eN (a++b)=true↔eN a=true∧eN b=true:=by simp [mD]
theorem yg {p:PV} (a:nW p=true):∀{l:List PV} {k:Nat},eN l=true→eN (l.set k p)=true
 |[],k,_=>rfl
 |q::l,0,h=>by rw [vT]at h;exact (vT _ _).2 ⟨a,h.2⟩
 |q::l,k+1,h=>by rw [vT]at h;exact (vT _ _).2 ⟨h.1,yg a h.2⟩
attribute [simp] yg
mutual
theorem zZ (k:Nat):∀{p:PV},nW p=true→sh k p=p
 | .v _,_=>rfl
 | .fs _ _,_=>rfl
 | .fp _,_=>rfl
 | .agg cs,h=>by rw [sh,je k (by simpa using h)]
 | .kG cs,h=>by rw [sh,je k (by simpa using h)]
 | .fn f a b,h=>by
  simp only [nW,apJ]at h;rw [sh,je k h.1,je k h.2]
 | .pj t p,h=>by rw [sh,zZ k (by simpa using h)]
theorem je (k:Nat):∀{l:List PV},eN l=true→yG k l=l
 |[],_=>rfl
 |p::l,h=>by
  simp only [eN,apJ]at h;rw [yG,zZ k h.1,je k h.2]
end
section
variable{A:Nat→Prop} {σ:Nat→Nat} {h bs:PH}
mutual
theorem vU:∀{p:PV},nW p=true→Vg A σ h bs p p
 | .v _,_=>(aeG _).2 trivial
 | .fs _ _,_=>(G3 _ _).2 trivial
 | .fp _,_=>(V2 _).2 trivial
 | .agg cs,h=>G4 (jf (by simpa using h))
 | .kG cs,h=>G5 (jf (by simpa using h))
 | .fn f a b,h=>by
  simp only [nW,apJ]at h;exact V3 (jf h.1) (jf h.2)
 | .pj t p,h=>P5 (vU (by simpa using h))
theorem jf:∀{l:List PV},eN l=true→ny A σ h bs l l
 |[],_=>trivial
 |p::l,h=>by
  simp only [eN,apJ]at h;exact ⟨vU h.1,jf h.2⟩
end
@[simp]theorem V5 {l:List PV} (k:eN l=true):ny A σ h bs l l↔True:=⟨fun _=>trivial,fun _=>jf k⟩
@[simp]theorem Zv {p:PV} (k:nW p=true):Vg A σ h bs p p↔True:=⟨fun _=>trivial,fun _=>vU k⟩
theorem BM {b i:Nat} (k:Im h[b]? bs[i]?):∃T,df h b=some T∧df bs i=some T:=by
 unfold Im at k;split at k
 ·rename_i z cs d e c a
  exact ⟨cs.length,by unfold df;rw [c],by unfold df;rw [a,k]⟩
 ·exact k.elim
@[simp]theorem Qb {b i sz o n c:Nat} (hs:σ i=b) (k:Im h[b]? bs[i]?):Vg A σ h bs (.sl sz b o n c) (.sl sz i o n c)↔True:=⟨fun _=>trivial,fun _=>by
 obtain ⟨T,a,h2⟩:=BM k
 exact Mw a h2 hs⟩
@[simp]theorem Zw {b i o t:Nat} (hs:σ i=b) (k:Im h[b]? bs[i]?):Vg A σ h bs (.ref b o t) (.ref i o t)↔True:=⟨fun _=>trivial,fun _=>by
 obtain ⟨T,a,h2⟩:=BM k
 exact P6 a h2 hs⟩
def isVoid (bs:PH) (i:Nat):Bool:=match bs[i]? with
 |some (.cells _ [])=>true
 |_=>false
@[simp]theorem V6 {sz i:Nat} (k:isVoid bs i=true):Vg A σ h bs (.v (.slice none 0 0)) (.sl sz i 0 0 0)↔True:=⟨fun _=>trivial,fun _=>by
 unfold isVoid at k;split at k
 ·rename_i z e;exact BI e
 ·cases k⟩
@[simp]theorem Zx (ps qs:List PV) (k:ny A σ h bs ps qs):Vg A σ h bs (.agg ps) (.agg qs)↔True:=⟨fun _=>trivial,fun _=>G4 k⟩
def qP:PV→Bool
 | .v _=>true
 | .fs _ _=>true
 |_=>false
theorem Qc {p:PV} (k:qP p=true):Vz A h p p:=by
 cases p<;>first
  |exact x7 _
  |exact Mv _ _
  |cases k
theorem jg:∀{l:List PV},l.all qP=true→DN A h l l
 |[],_=>trivial
 |p::l,k=>by
  simp only [List.all_cons,apJ]at k;exact ⟨Qc k.1,jg k.2⟩
theorem KW {p:PV} (k:qP p=true):nW p=true:=by cases p<;>first|rfl|cases k
theorem td {l:List PV} (k:l.all qP=true):eN l=true:=by
 rw [mD,apW]at*;exact fun p a=>KW (k p a)
end
section
variable{E:Env} {O:kl} {n:Nat} {Q:Ex→PF→PH→Prop} {ks:List Kp} {fr:PF} {h:PH} {m:Mp} {l:List AO} {d:Option Nat}
def Fz (E:Env) (O:kl) (f:Nat) (args:List PV) (r:PV):Prop:=jH E O f args [] (fun r' h'=>r'=r∧h'=[]∧nW r=true)
def Fo (E:Env) (O:kl) (f:Nat) (args:List PV) (sz k:Nat) (cs:List PV):Prop:=jH E O f args [] (fun r' h'=>r'= .sl sz 0 0 k k∧h'=[.cells sz cs]∧eN cs=true∧cs.length=k*sz)
def KX (res:List RS) (r:PV):Ex→PF→PH→Prop
 | .exit _,_,_=>False
 |_,fr,h=>(vO.all fr h res).map mB=some r
@[simp]theorem aeJ (res:List RS) (r:PV):KX res r .normal fr h=((vO.all fr h res).map mB=some r):=rfl
@[simp]theorem aeK (res:List RS) (r:PV):KX res r .ret fr h=((vO.all fr h res).map mB=some r):=rfl
theorem PK.Mz {Q i:Ex→PF→PH→Prop} (j:∀ex fr h,Q ex fr h→i ex fr h) {f:Cf} {fr:PF} {h:PH} (k:PK E O n Q f fr h):PK E O n i f fr h:=by
 induction k with
 |skip _ ih=>exact .skip ih
 |ret _ ih=>exact .ret ih
 |exit _ ih=>exact .exit ih
 |cL _ ih=>exact .cL ih
 |bO _ ih=>exact .bO ih
 |seq _ ih=>exact .seq ih
 |block _ ih=>exact .block ih
 |cond e _ ih=>exact .cond e ih
 |loop I k _ g o ih=>exact .loop I k ih g o
 |KN _ ih=>exact .KN ih
 |xY e _ ih=>exact .xY e ih
 |BF _ ih=>exact .BF ih
 |BG _ ih=>exact .BG ih
 |op e _ ih=>exact .op e ih
 |VQ e w _ ih=>exact .VQ e w ih
 |GR e w _ ih=>exact .GR e w ih
 |call c _ ih=>exact .call c ih
 |callv e c _ ih=>exact .callv e c ih
 |KO q=>exact .KO (j _ _ _ q)
 |Y7 _ ih=>exact .Y7 ih
 |Y8 _ ih=>exact .Y8 ih
 |VR a b c=>exact .VR a b c
 |Y9 _ ih=>exact .Y9 ih
 |GS _ ih=>exact .GS ih
 |KP e _ ih=>exact .KP e ih
 |del _ ih=>exact .del ih
 |KQ _ ih=>exact .KQ ih
theorem Fz.body {f:Nat} {F:AF} {args:List PV} {r:PV} (o:O f=none) (s:E f=some F) (p:args.length=F.np) (c:nW r=true) (k:PK E O 0 (KX F.res r) (.code F.body []) (PF.of args) []):Fz E O f args r:=by
 refine jH.body o s p (PK.Mz ?_ k);intro ex fr h q
 have:∀ex,KX F.res r ex fr h→(∀i,ex≠ .exit i)→∃a,vO.all fr h F.res=some a∧∃b h2,BH 0 (mB a) h b h2∧b=r∧h2=[]∧nW r=true:=by
  intro ex q j
  have g:(vO.all fr h F.res).map mB=some r:=by
   cases ex with
   |exit i=>exact absurd rfl (j i)
   |normal=>exact q
   |ret=>exact q
  obtain ⟨a,e,t⟩:=apQ.1 g;exact ⟨a,e,r,[],by rw [t];exact Qa (vU c),rfl,rfl,c⟩
 cases ex with
 |exit i=>exact q
 |normal=>exact this _ q (fun i=>by simp)
 |ret=>exact this _ q (fun i=>by simp)
def uw (h:PH) (sz k:Nat) (cs:List PV):PV→Prop
 | .sl gO b o n' c=>gO=sz∧o=0∧n'=k∧c=k∧h[b]?=some (.cells sz cs)
 | .v (.slice none 0 0)=>k=0∧cs=[]
 |_=>False
def Qd (res:List RS) (sz k:Nat) (cs:List PV):Ex→PF→PH→Prop
 | .exit _,_,_=>False
 |_,fr,h=>∃vs,vO.all fr h res=some vs∧uw h sz k cs (mB vs)
@[simp]theorem aeL (res:List RS) (sz k:Nat) (cs:List PV):Qd res sz k cs .normal fr h=∃vs,vO.all fr h res=some vs∧uw h sz k cs (mB vs):=rfl
@[simp]theorem aeM (res:List RS) (sz k:Nat) (cs:List PV):Qd res sz k cs .ret fr h=∃vs,vO.all fr h res=some vs∧uw h sz k cs (mB vs):=rfl
theorem Fo.body {f:Nat} {F:AF} {args:List PV} {sz k:Nat} {cs:List PV} (g:O f=none) (r:E f=some F) (j:args.length=F.np) (c:eN cs=true) (s:cs.length=k*sz) (q:PK E O 0 (Qd F.res sz k cs) (.code F.body []) (PF.of args) []):Fo E O f args sz k cs:=by
 refine jH.body g r j (PK.Mz ?_ q);intro ex fr h q
 have key:∀a,uw h sz k cs (mB a)→∃b h2,BH 0 (mB a) h b h2∧b= .sl sz 0 0 k k∧h2=[.cells sz cs]∧eN cs=true∧cs.length=k*sz:=by
  intro a o;refine ⟨_,_,?_,rfl,rfl,c,s⟩;revert o;generalize mB a=p;intro o;unfold uw at o;split at o
  ·obtain ⟨rfl,rfl,rfl,rfl,t⟩:=o
   exact KT t (jf c)
  ·obtain ⟨rfl,rfl⟩:=o
   exact KU _ _
  ·exact o.elim
 cases ex with
 |exit i=>exact q
 |normal=>obtain ⟨a,e,o⟩:=q;exact ⟨a,e,key a o⟩
 |ret=>obtain ⟨a,e,o⟩:=q;exact ⟨a,e,key a o⟩
theorem Fz.call {f:Nat} {args b:List PV} {r:PV} (k:Fz E O f b r) (L:List Nat) (e:ny (· ∈L) id h [] args b):Df E O f args h (· ∈[]) (fun r' a=>r'=r∧a=cH h L):=
 (jH.pure L k e).mono (by
  rintro r' a ⟨g,i,⟨rfl,rfl,c⟩,rfl,rfl⟩
  exact ⟨zZ _ c,by simp⟩)
theorem mE {f:Nat} {«as»:List X} {args:List PV} {r:PV} (k:Fz E O f args r) (b:«as».map (ie fr)=args) (a:eN args=true) (next:PK E O n Q (.ops (m.up [] (fr.bg d r) h) l ks) (fr.bg d r) h):PK E O n Q (.ops m (⟨none,d,.call f «as»⟩::l) ks) fr h:=
 kI (W:=[]) b ((k.call [] (jf a)).mono (by rintro c e ⟨rfl,rfl⟩;exact next))
theorem vV {f:Nat} {«as»:List X} {args:List PV} {r:PV} (k:Fz E O f args r) (b:ny lS id h [] («as».map (ie fr)) args) (c:mC r=true) (next:PK E O n Q (.ops (m.up [] (fr.bg d r) h) l ks) (fr.bg d r) h):PK E O n Q (.ops m (⟨none,d,.call f «as»⟩::l) ks) fr h:=
 kI (W:=[]) rfl ((jH.flat k b (by rintro a g ⟨rfl,_⟩;exact c)).mono (by rintro a e ⟨⟨_,rfl,_⟩,rfl⟩;exact next))
theorem Fo.call {f:Nat} {args b:List PV} {sz k:Nat} {cs:List PV} (q:Fo E O f b sz k cs) (L:List Nat) (e:ny (· ∈L) id h [] args b):Df E O f args h (· ∈[]) (fun r' a=>r'= .sl sz h.length 0 k k∧a=cH h L++[.cells sz cs]):=
 (jH.pure L q e).mono (by
  rintro r' a ⟨g,i,⟨rfl,rfl,c,_⟩,rfl,rfl⟩
  exact ⟨by simp,by simp [sZ,je _ c]⟩)
theorem pv {f:Nat} {«as»:List X} {args:List PV} {sz k:Nat} {cs:List PV} (q:Fo E O f args sz k cs) (b:«as».map (ie fr)=args) (a:eN args=true) (next:PK E O n Q (.ops (m.up [] (fr.bg d (.sl sz h.length 0 k k)) (h++[.cells sz cs])) l ks) (fr.bg d (.sl sz h.length 0 k k)) (h++[.cells sz cs])):PK E O n Q (.ops m (⟨none,d,.call f «as»⟩::l) ks) fr h:=
 kI (W:=[]) b ((q.call [] (jf a)).mono (by rintro c e ⟨rfl,rfl⟩;exact next))
theorem Qe {f:Nat} {«as»:List X} {args:List PV} {sz k:Nat} {cs:List PV} (L:List Nat) (q:Fo E O f args sz k cs) (a:ny (· ∈L) id h [] («as».map (ie fr)) args) (next:PK E O n Q (.ops (m.up [] (fr.bg d (.sl sz h.length 0 k k)) (cH h L++[.cells sz cs])) l ks) (fr.bg d (.sl sz h.length 0 k k)) (cH h L++[.cells sz cs])):PK E O n Q (.ops m (⟨none,d,.call f «as»⟩::l) ks) fr h:=
 kI (W:=[]) rfl ((q.call L a).mono (by rintro b c ⟨rfl,rfl⟩;exact next))
end
@[simp]theorem aeN:IntKind.i64.wrap 0=0:=aj ⟨by omega,by omega⟩
@[simp]theorem aeO:IntKind.i64.wrap 1=1:=aj ⟨by omega,by omega⟩
abbrev pi (n:Int):PV:=.v (.int .i64 n)
abbrev pb (b:Bool):PV:=.v (.bool b)
abbrev ps (s:ByteArray):PV:=.v (.string s)
def ir (l:List Int):List (List PV):=l.map fun n=>[pi n]
@[simp]theorem Sf (l:List Int):(ir l).length=l.length:=by simp [ir]
theorem Hi (l:List Int) (i:Nat):(ir l)[i]?=(l[i]?).map fun n=>[pi n]:=by simp [ir]
@[simp]theorem KY (l:List Int):(ir l).flatten=l.map pi:=by
 induction l with
 |nil=>rfl
 |cons a l ih=>simp_all [ir]
abbrev m8 (l:List Int):PV:=.fs 1 (ir l)
theorem lv {A:Nat→Prop} {h:PH} {sz b n:Nat} {rows:List (List PV)} (j:A b) (f:h[b]?=some (.cells sz rows.flatten)) (g:0<sz) (c:rows.length=n) (a:∀r∈rows,r.length=sz) (d:DN A h rows.flatten rows.flatten):Vz A h (.sl sz b 0 n n) (.fs sz rows):=by
 have e:rows.flatten.length=n*sz:=by
  rw [←c];clear f d c
  induction rows with
  |nil=>simp
  |cons r rows ih=>
   have:=a r (by simp);rw [List.flatten_cons,apP,ih (fun q i=>a q (by simp [i])),List.length_cons,Nat.succ_mul];omega
 exact G0 j f (by rw [Nat.zero_add,e]) g (apK _) (apK _) c a (by rw [Nat.zero_mul,List.drop_zero,←e,List.take_length];exact d)
theorem Aa {A:Nat→Prop} {h:PH} {b:Nat} {l:List Int} (c:A b) (a:h[b]?=some (.cells 1 (l.map pi))):Vz A h (.sl 1 b 0 l.length l.length) (m8 l):=
 lv c (by rw [KY];exact a) Nat.one_pos (by simp) (by simp [ir]) (jg (by simp [qP]))
@[simp]theorem aeP {A:Nat→Prop} {a:Nat→Nat} {h e:PH} {b:Nat} {l:List Int} (d:A b) (c:h[b]?=some (.cells 1 (l.map pi))):Vg A a h e (.sl 1 b 0 l.length l.length) (.fs 1 (ir l))↔True:=⟨fun _=>trivial,fun _=>x8 (Aa d c)⟩
attribute [simp] VP Y6 GI PJ De KM xX vM PI Ku
attribute [simp] isVoid uw
end P
end Go.Proofs.YtppcmpmnglaleaaGreat.A
