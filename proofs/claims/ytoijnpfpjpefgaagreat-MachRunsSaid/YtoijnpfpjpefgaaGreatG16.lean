/- Texts that stand one behind the other: Pm15, Q1, Q2, Q3, Q4, Q5, Q6, Q7, Q8, Q9, Q10, Q11, Q12, Q13. -/
import Derived.Test.YtoijnpfpjpefgaaGreatG15
/- A text without what this claim does not need: Pm15. -/
set_option linter.unusedVariables false
set_option linter.unusedSimpArgs false
namespace Go.Proofs.YtoijnpfpjpefgaaGreat.A.P
open Go Go.RowKit
section
variable {T:Type} {enc:TypeId × Value → T} {P:Program} {W:World}
def F0 (W:World):Nat → Prop:=fun b=>b < W.heap.size
def SlC (v:Value):Prop:=∃ a n c,v = .slice a n c ∧ n ≤ c ∧ (c = 0 ∨ ∀ x,a = some x → x.spot = none)
theorem slc_clean {n0:Nat} {c v:Value} (h:c = .slice none 0 0 ∨ ∃ a len cap,c = .slice (some a) len cap ∧ len ≤ cap) (hc:cleanOld n0 c = some v):SlC v:=by
 rcases h with rfl | ⟨a,len,cap,rfl,hl⟩
 ·simp [cleanOld,flat] at hc; subst hc; exact ⟨_,_,_,rfl,Nat.le_refl _,.inl rfl⟩
 ·simp only [cleanOld] at hc
  cases h1:(decide (a.block < n0) && a.spot.isNone) with
  | true=>rw [h1] at hc; simp only [cond_true,Option.some.injEq] at hc; subst hc; exact ⟨_,_,_,rfl,hl,.inr fun x hx=>by cases hx; simp only [Bool.and_eq_true] at h1; exact Option.isNone_iff_eq_none.1 h1.2⟩
  | false =>
   rw [h1] at hc
   simp only [cond_false] at hc
   cases h2:Nat.beq len 0 with
   | true=>rw [h2] at hc; simp only [cond_true,Option.some.injEq] at hc; subst hc; exact ⟨_,_,_,rfl,Nat.le_refl _,.inl rfl⟩
   | false=>rw [h2] at hc; simp at hc
theorem get0 {b z:Nat} {c:List Value} (h:(H0 W).get b = some (.cells z c)):z = 1048576:=by
 have h2:memOf W b = some (.cells z c):=by
  rw [AH.get_of (AH.get_lt h)] at h
  rw [← H0_raw]; exact h
 unfold memOf at h2
 split at h2
 ·cases h2; rfl
 ·cases h2
theorem ldn0 {b o sz:Nat} {r:List Value} (h:(H0 W).ldn ⟨b,o,none⟩ sz = some r) (hs:sz ≤ 1048576):F0 W b ∧ (H0 W).zok b sz = true:=by
 unfold AH.ldn at h
 split at h
 ·rename_i z c _ e
  have:=get0 e
  refine ⟨AH.get_lt e,?_⟩
  unfold AH.zok
  rw [show (H0 W).get b = _ from e]
  exact decide_eq_true (by omega)
 ·cases h
theorem rfr_of {α : Type} {F : Nat → Prop} {H : AH} {en : α → List PV} {ok : α → Prop} : ∀ {rows : List (List Value)} {ys : List α}, All2 (fun l y => RFC F H (en y) l ∧ ok y) rows ys → RFR F H (ys.map en) rows ∧ ∀ y ∈ ys, ok y
  | _, _, .nil => ⟨.nil, by simp⟩
  | _, _, .cons a b => ⟨.cons a.1 (rfr_of b).1, fun y hy => by
      rcases List.mem_cons.1 hy with rfl | hy
      · exact a.2
      · exact (rfr_of b).2 y hy⟩
theorem rd_fs {α:Type} (en:α → List PV) {ok:α → Prop} {t e:TypeId} {fuel:Nat} {c:Value} {d:DataW T} (ht:P.underlying t = some (.slice e)) (hce:0 < P.cellsOf e) (hcm:P.cellsOf e ≤ 1048576) (hbe:0 < P.bytesOf e)
  (h:Rd enc P W fuel t [c] d) (hw:Wt' P t d) (rd:∀ m cs' d',m < fuel → Rd enc P W m e cs' d' → Wt' P e d' → ∃ l y,cleanL W.heap.size cs' = some l ∧ RFC (F0 W) (H0 W) (en y) l ∧ ok y) :
  ∃ (v:Value) (ys:List α),cleanL W.heap.size [c] = some [v] ∧ RF (F0 W) (H0 W) (.fs (P.cellsOf e) (ys.map en)) v ∧ (∀ y ∈ ys,ok y) ∧ ys.length * P.bytesOf e ≤ reachBytes:=by
 obtain ⟨v,rows,ys,g1,g2,g3,g4⟩:=rd_rows (C:=fun l y=>RFC (F0 W) (H0 W) (en y) l ∧ ok y) ht hce hbe h hw rd
 obtain ⟨r1,r2⟩:=rfr_of g3
 have hs:SlC v:=by
  obtain ⟨ps,h⟩:=h
  simp only [cleanL] at g1
  cases h2:cleanOld W.heap.size c with
  | none=>rw [h2] at g1; simp at g1
  | some x =>
   rw [h2] at g1
   simp only [Option.some.injEq,List.cons.injEq,and_true] at g1
   subst g1
   refine slc_clean ?_ h2
   rcases DataW.trod_slice ht h with ⟨e,_⟩ | ⟨a,len,cap,_,_,_,_,e,_,_,hlc,_⟩
   ·simp only [List.cons.injEq,and_true] at e; exact .inl e
   ·simp only [List.cons.injEq,and_true] at e; exact .inr ⟨a,len,cap,e,hlc⟩
 refine ⟨v,ys,g1,?_,r2,by rw [← g3.length]; exact g4⟩
 obtain ⟨a,n,cp,rfl,hn,hsp⟩:=hs
 have g2':=g2
 obtain ⟨a2,c2,e,k⟩:=g2.is
 cases e
 have hl:(ys.map en).length = rows.length:=by rw [List.length_map,g3.length]
 have:RF (F0 W) (H0 W) (.fs (P.cellsOf e) (ys.map en)) (.slice a (ys.map en).length cp):=by
  refine .fs (by rw [hl]; exact g2') (by rw [hl]; exact hn) (fun d hd=>⟨?_,?_⟩) r1
  ·rcases hsp with q | q
   ·exact .inr q
   ·exact .inl (q d hd)
  ·rw [hl]
   by_cases h0:rows.length = 0
   ·exact .inl h0
   ·obtain ⟨r,hr⟩:∃ r,rows[0]? = some r:=⟨_,List.getElem?_eq_getElem (by omega)⟩
    obtain ⟨b,o,e1,e2⟩:=k 0 r hr
    subst e1
    cases hd
    exact .inr (ldn0 e2 hcm)
 rw [hl] at this
 exact this
end
end Go.Proofs.YtoijnpfpjpefgaaGreat.A.P
/- A text without what this claim does not need: Q1. -/
set_option linter.unusedVariables false
set_option linter.unusedSimpArgs false
set_option maxRecDepth 10000
namespace Go.Proofs.YtoijnpfpjpefgaaGreat.A.P
open Go Go.RowKit
mutual
def encE:Exp → List PV
 | .mk op n cp args=>[pi op,pi n,pi cp,.fs 4 (encEs args)]
def encEs:List Exp → List (List PV)
 | []=>[]
 | e :: l=>encE e :: encEs l
end
mutual
def encS:Stm → List PV
 | .mk op n args thn els=>[pi op,pi n,.fs 4 (encEs args),.fs 5 (encSs thn),.fs 5 (encSs els)]
def encSs:List Stm → List (List PV)
 | []=>[]
 | e :: l=>encS e :: encSs l
end
theorem encEs_map:∀ l:List Exp,encEs l = l.map encE
 | []=>rfl
 | _ :: l=>by simp [encEs,encEs_map l]
theorem encSs_map:∀ l:List Stm,encSs l = l.map encS
 | []=>rfl
 | _ :: l=>by simp [encSs,encSs_map l]
@[simp] theorem encEs_length (l:List Exp):(encEs l).length = l.length:=by simp [encEs_map]
@[simp] theorem encSs_length (l:List Stm):(encSs l).length = l.length:=by simp [encSs_map]
@[simp] theorem encEs_get (l:List Exp) (i:Nat):(encEs l)[i]? = (l[i]?).map encE:=by simp [encEs_map]
@[simp] theorem encSs_get (l:List Stm) (i:Nat):(encSs l)[i]? = (l[i]?).map encS:=by simp [encSs_map]
@[simp] theorem frz_encE (e:Exp):frzL (encE e) = true:=by cases e; rfl
@[simp] theorem encE_length (e:Exp):(encE e).length = 4:=by cases e; rfl
@[simp] theorem encS_length (e:Stm):(encS e).length = 5:=by cases e; rfl
@[simp] theorem encE_take (e:Exp):(encE e).take 4 = encE e:=List.take_of_length_le (by simp)
def encV (v:Vr):List PV:=[ps v.name,pi v.level,pi v.cells]
abbrev encVs (l:List Vr):PV:=.fs 3 (l.map encV)
def encP (p:Prg):List PV:=[pi p.w,encVs p.vars,.fs 5 (encSs p.body)]
def encT (t:Sta):List PV:=[pis t.store,pis t.picks]
abbrev encL (l:List (List Int)):PV:=.fs 1 (l.map fun s=>[pis s])
@[simp] theorem frz_encP (p:Prg):frzL (encP p) = true:=rfl
@[simp] theorem frz_encT (p:Sta):frzL (encT p) = true:=rfl
@[simp] theorem frz_encVs (p:List Vr):frz (encVs p) = true:=rfl
@[simp] theorem frz_encL (p:List (List Int)):frz (encL p) = true:=rfl
mutual
def okE:Exp → Prop
 | .mk op n cp args=>I64 op ∧ I64 n ∧ I64 cp ∧ args.length < 2 ^ 60 ∧ okEs args
def okEs:List Exp → Prop
 | []=>True
 | e :: l=>okE e ∧ okEs l
end
mutual
def okS:Stm → Prop
 | .mk op n args thn els=>I64 op ∧ I64 n ∧ args.length < 2 ^ 60 ∧ thn.length < 2 ^ 60 ∧ els.length < 2 ^ 60 ∧ okEs args ∧ okSs thn ∧ okSs els
def okSs:List Stm → Prop
 | []=>True
 | e :: l=>okS e ∧ okSs l
end
def okPr (p:Prg):Prop:=I64 p.w ∧ VarsOk p.vars ∧ okSs p.body ∧ p.body.length < 2 ^ 60
def okT (t:Sta):Prop:=t.store.length < 2 ^ 60 ∧ t.picks.length < 2 ^ 60 ∧ (∀ n ∈ t.store,I64 n) ∧ ∀ n ∈ t.picks,I64 n
theorem okEs_mem:∀ {l:List Exp},okEs l → ∀ e ∈ l,okE e
 | _ :: _,h,e,he=>by
  rcases List.mem_cons.1 he with rfl | he
  ·exact h.1
  ·exact okEs_mem h.2 e he
section
variable {F:Nat → Prop} {H:AH}
theorem rf_rows {sz:Nat} {rows:List (List PV)} {x:Value} (h:RF F H (.fs sz rows) x):∃ rs,Rows H sz x rs ∧ RFR F H rows rs ∧ ∃ a c,x = .slice a rows.length c:=by
 cases h with | fs hr hl hk hrr=>exact ⟨_,hr,hrr,_,_,rfl⟩
mutual
theorem exc_of:∀ {e:Exp} {c:List Value},okE e → RFC F H (encE e) c → ExC H c e
 | .mk op n cp args,c,ok,h=>by
  simp only [encE] at h
  cases h with | cons h0 h =>
  cases h with | cons h1 h =>
  cases h with | cons h2 h =>
  cases h with | cons h3 h =>
  cases h
  cases h0; cases h1; cases h2
  obtain ⟨rs,hr,hrr,_⟩:=rf_rows h3
  simp only [okE] at ok
  exact .mk ok.1 ok.2.1 ok.2.2.1 ok.2.2.2.1 hr (exl_of' ok.2.2.2.2 hrr)
theorem exl_of':∀ {l:List Exp} {rs:List (List Value)},okEs l → RFR F H (encEs l) rs → ExL H rs l
 | [],rs,_,h=>by cases h; exact .nil
 | e :: l,rs,ok,h=>by
  simp only [encEs] at h
  cases h with | cons a b =>
  exact .cons (exc_of ok.1 a) (exl_of' ok.2 b)
end
mutual
theorem stc_of:∀ {e:Stm} {c:List Value},okS e → RFC F H (encS e) c → StC H c e
 | .mk op n args thn els,c,ok,h=>by
  simp only [encS] at h
  cases h with | cons h0 h =>
  cases h with | cons h1 h =>
  cases h with | cons h2 h =>
  cases h with | cons h3 h =>
  cases h with | cons h4 h =>
  cases h
  cases h0; cases h1
  obtain ⟨ra,ha,hra,_⟩:=rf_rows h2
  obtain ⟨rt,ht,hrt,_⟩:=rf_rows h3
  obtain ⟨re,he,hre,_⟩:=rf_rows h4
  simp only [okS] at ok
  exact .mk ok.1 ok.2.1 ok.2.2.1 ok.2.2.2.1 ok.2.2.2.2.1 ha (exl_of' ok.2.2.2.2.2.1 hra) ht (stl_of' ok.2.2.2.2.2.2.1 hrt) he (stl_of' ok.2.2.2.2.2.2.2 hre)
theorem stl_of':∀ {l:List Stm} {rs:List (List Value)},okSs l → RFR F H (encSs l) rs → StL H rs l
 | [],rs,_,h=>by cases h; exact .nil
 | e :: l,rs,ok,h=>by
  simp only [encSs] at h
  cases h with | cons a b =>
  exact .cons (stc_of ok.1 a) (stl_of' ok.2 b)
end
theorem ints_of {l:List Int} {x:Value} (h:RF F H (pis l) x):Ints H x l:=by
 obtain ⟨rs,hr,hrr,_⟩:=rf_rows h
 have:∀ {l:List Int} {rs:List (List Value)},RFR F H (ir l) rs → rs = l.map fun n=>[.int .i64 n]:=by
  intro l
  induction l with
  | nil=>intro rs h; cases h; rfl
  | cons a l ih =>
   intro rs h
   simp only [ir,List.map_cons] at h
   cases h with | cons a b =>
   cases a with | cons a c =>
   cases a; cases c
   rw [ih b]; rfl
 rw [this hrr] at hr
 exact hr
theorem vars_of' {l:List Vr} {x:Value} (h:RF F H (encVs l) x):Vars H x l:=by
 obtain ⟨rs,hr,hrr,_⟩:=rf_rows h
 have:∀ {l:List Vr} {rs:List (List Value)},RFR F H (l.map encV) rs → rs = l.map Vr.row:=by
  intro l
  induction l with
  | nil=>intro rs h; cases h; rfl
  | cons a l ih =>
   intro rs h
   simp only [encV,List.map_cons] at h
   cases h with | cons h b =>
   cases h with | cons h0 h =>
   cases h with | cons h1 h =>
   cases h with | cons h2 h =>
   cases h
   cases h0; cases h1; cases h2
   rw [ih b]; rfl
 rw [this hrr] at hr
 exact hr
theorem stores_of {l:List (List Int)} {x:Value} (h:RF F H (encL l) x):StoresC H x l:=by
 obtain ⟨rs,hr,hrr,_⟩:=rf_rows h
 refine ⟨rs,hr,?_⟩
 have:∀ {l:List (List Int)} {rs:List (List Value)},RFR F H (l.map fun s=>[pis s]) rs → All2 (fun r s=>∃ v,r = [v] ∧ Ints H v s) rs l:=by
  intro l
  induction l with
  | nil=>intro rs h; cases h; exact .nil
  | cons a l ih =>
   intro rs h
   simp only [List.map_cons] at h
   cases h with | cons h b =>
   cases h with | cons h0 h =>
   cases h
   exact .cons ⟨_,rfl,ints_of h0⟩ (ih b)
 exact this hrr
theorem prg_of {p:Prg} {c:List Value} (ok:okPr p) (h:RFC F H (encP p) c):PrgC H c p:=by
 simp only [encP] at h
 cases h with | cons h0 h =>
 cases h with | cons h1 h =>
 cases h with | cons h2 h =>
 cases h
 cases h0
 obtain ⟨rs,hr,hrr,_⟩:=rf_rows h2
 exact ⟨_,_,_,rfl,ok.1,vars_of' h1,ok.2.1,hr,stl_of' ok.2.2.1 hrr,ok.2.2.2⟩
theorem sta_of {t:Sta} {c:List Value} (ok:okT t) (h:RFC F H (encT t) c):StaC H c t:=by
 simp only [encT] at h
 cases h with | cons h0 h =>
 cases h with | cons h1 h =>
 cases h
 exact ⟨_,_,rfl,ints_of h0,ints_of h1,ok⟩
theorem rvf {C:Cx} {sz:Nat} {rows:List (List PV)} {x:Value} (h:RV C (.fs sz rows) x):RF C.F C.H (.fs sz rows) x:=by cases h; assumption
theorem rvs_f {C:Cx}:∀ {ps:List PV} {xs:List Value},ps.all fzc = true → RVs C ps xs → RFC C.F C.H ps xs
 | [],_,_,.nil=>.nil
 | p :: ps,_,h,.cons a b=>by
  simp only [List.all_cons,Bool.and_eq_true] at h
  refine .cons ?_ (rvs_f h.2 b)
  cases p <;> first
   | (simp [fzc] at h; done)
   | (cases a; exact .v _)
   | exact rvf a
theorem rvagg {C:Cx} {ps:List PV} {x:Value} (hp:ps.all fzc = true) (h:RV C (.agg ps) x):∃ c,x = .agg c.toArray ∧ RFC C.F C.H ps c:=by
 cases h with | agg a=>exact ⟨_,rfl,rvs_f hp a⟩
end
@[simp] theorem fzc_encE (e:Exp):(encE e).all fzc = true:=by cases e; rfl
@[simp] theorem fzc_encS (e:Stm):(encS e).all fzc = true:=by cases e; rfl
@[simp] theorem fzc_encP (p:Prg):(encP p).all fzc = true:=rfl
@[simp] theorem fzc_encT (p:Sta):(encT p).all fzc = true:=rfl
theorem Fz.of_ca {f:Nat} {args:List PV} {y:Value} (k:∀ F H φ vs,H.n0 ≤ H.nx → RVs ⟨F,H,φ,[]⟩ args vs → Ca E O f vs H (fun x H'=>x = y ∧ Ext H H')):Fz E O f args (.v y):=by
 intro F H φ vs S Rv
 refine (k F H φ vs S.wf Rv).mono ?_
 rintro x H' ⟨rfl,X⟩
 have T:Stp 0 All ⟨F,H,φ,[]⟩ ⟨F,H',φ,[]⟩:=⟨X.n0,X.nx,fun x hx=>⟨hx,X.old x (S.fz x hx)⟩,fun _ _ _ h=>h,fun x hx _=>X.old x hx,fun b hb=>absurd (solid_lt hb) (Nat.not_lt_zero _),fun _=>Nat.le_refl _,fun b hb=>absurd hb (Nat.not_lt_zero _),fun b hb=>absurd hb (Nat.not_lt_zero _),fun b hb=>absurd hb (Nat.not_lt_zero _)⟩
 exact ⟨_,[],F,φ,⟨rfl,rfl,rfl⟩,.v _,⟨X.wf S.wf,fun x hx=>Nat.lt_of_lt_of_le (S.fz x hx) X.nx,fun b b' s=>absurd (solid_lt s) (Nat.not_lt_zero _),fun b z cs e=>by simp at e,fun b es e=>by simp at e⟩,T⟩
theorem Fo.of_ca {f:Nat} {args:List PV} {sz:Nat} {rows:List (List Value)} (hz:0 < sz) (k:∀ F H φ vs,H.n0 ≤ H.nx → RVs ⟨F,H,φ,[]⟩ args vs → Ca E O f vs H (fun x H'=>Own H' sz x rows ∧ Ext H H' ∧ ∀ b,blk x b → H.nx ≤ b)):Fo E O f args sz rows.length (rows.flatten.map .v):=by
 intro F H φ vs S Rv
 refine (k F H φ vs S.wf Rv).mono ?_
 rintro x H' ⟨o,X,hb⟩
 have hlen:(rows.flatten.map PV.v).length = rows.length * sz:=by rw [List.length_map,flatten_length o.len]
 obtain ⟨a,ha⟩:∃ a:Nat,(rows ≠ [] → x = .slice (some ⟨a,0,none⟩) rows.length rows.length ∧ H'.get a = some (.cells sz rows.flatten) ∧ H.nx ≤ a ∧ H'.n0 ≤ a):=by
  rcases o.is with ⟨_,rfl⟩ | ⟨a,rfl,h0,hg⟩
  ·exact ⟨0,fun h=>absurd rfl h⟩
  ·exact ⟨a,fun _=>⟨rfl,hg,hb a ((blk_slice _ _ _ _ _).2 rfl),h0⟩⟩
 have one:∀ {b:Nat} {P:PB},[PB.cells sz (rows.flatten.map .v)][b]? = some P → b = 0 ∧ P = .cells sz (rows.flatten.map .v):=by
  intro b P e
  cases b with
  | zero=>simp only [List.getElem?_cons_zero,Option.some.injEq] at e; exact ⟨rfl,e.symm⟩
  | succ b=>simp at e
 have sol:∀ {b:Nat},solid [PB.cells sz (rows.flatten.map .v)] b → b = 0 ∧ rows ≠ []:=by
  intro b s
  rcases solid_is s with ⟨es,e⟩ | ⟨z,cs,e,hc⟩
  ·have:=(one e).2; cases this
  ·obtain ⟨rfl,e2⟩:=one e
   cases e2
   exact ⟨rfl,by rintro rfl; exact hc rfl⟩
 have T:Stp 0 All ⟨F,H,φ,[]⟩ ⟨F,H',fun _=>a,[.cells sz (rows.flatten.map .v)]⟩:=⟨X.n0,X.nx,fun x hx=>⟨hx,X.old x (S.fz x hx)⟩,fun _ _ _ h=>h,fun x hx _=>X.old x hx,fun b hb=>.inl (ha (sol hb).2).2.2.1,fun _=>Nat.zero_le _,fun b hb=>absurd hb (Nat.not_lt_zero _),fun b hb=>absurd hb (Nat.not_lt_zero _),fun b hb=>absurd hb (Nat.not_lt_zero _)⟩
 refine ⟨_,_,F,fun _=>a,⟨rfl,rfl,?_,hlen⟩,?_,⟨X.wf S.wf,fun x hx=>Nat.lt_of_lt_of_le (S.fz x hx) X.nx,fun b b' s s' _=>by rw [(sol s).1,(sol s').1],fun b z cs e hc=>?_,fun b es e=>?_⟩,T⟩
 ·rw [frzL_all]; simp
 ·refine .sl ?_ (by simp) (fun z cs e=>?_) (fun _=>?_)
  ·rcases o.is with ⟨rfl,_⟩ | ⟨_,rfl,_⟩ <;> rfl
  ·obtain ⟨_,e2⟩:=one e
   cases e2
   rw [hlen]; simp
  ·by_cases hr:rows = []
   ·subst hr
    refine .inl ⟨rfl,rfl,?_⟩
    rcases o.is with ⟨rfl,_⟩ | ⟨b,rfl,_⟩
    ·exact ⟨none,rfl,by simp⟩
    ·exact ⟨_,rfl,by rintro e ⟨⟩; rfl⟩
   ·exact .inr ⟨List.length_pos_iff.2 hr,by rw [(ha hr).1]; simp⟩
 ·obtain ⟨rfl,e2⟩:=one e
  cases e2
  have hr:rows ≠ []:=by rintro rfl; exact hc rfl
  obtain ⟨_,h2,h3,h4⟩:=ha hr
  exact ⟨rows.flatten,h2,RVs.lits _,h4,fun hf=>by have:=S.fz _ hf; dsimp only at this; omega⟩
 ·have:=(one e).2; cases this
end Go.Proofs.YtoijnpfpjpefgaaGreat.A.P
/- A text without what this claim does not need: Q2. -/
set_option linter.unusedVariables false
set_option linter.unusedSimpArgs false
set_option maxRecDepth 10000
namespace Go.Proofs.YtoijnpfpjpefgaaGreat.A.P
open Go Go.RowKit
theorem psp_one {α:Type} {x:α}:∀ {l:List α} {k:Nat},k < l.length → psp l k [x] = l.set k x
 | [],k,h=>by simp at h
 | y :: l,0,_=>by simp [psp]
 | y :: l,k + 1,h=>by simp [psp,psp_one (l:=l) (k:=k) (by simpa using h)]
@[simp] theorem frzL_pi (l:List Int):frzL (l.map pi) = true:=by rw [frzL_all]; simp
theorem intRows_flat (l:List Int):(intRows l).flatten.map PV.v = l.map pi:=by
 induction l with
 | nil=>rfl
 | cons a l ih=>simp_all [intRows]
theorem Copy_p {l:List Int} (hb:l.length ≤ 2 ^ 40):Fo E O 20 [pis l] 1 l.length (l.map pi):=by
 have:=Fo.of_ca (f:=20) (args:=[pis l]) (rows:=intRows l) Nat.one_pos (fun F H φ vs w Rv=>by
  cases Rv with | cons a b =>
  cases b
  exact RCopy_ca w (ints_of (rvf a)) hb)
 rw [intRows_flat] at this
 simpa [intRows] using this
theorem One_p (b:Bool):Fz E O 99 [pb b] (pi (if b then 1 else 0)):=by
 refine Fz.body (F:=a99) rfl rfl rfl rfl ?_
 cases b
 ·simp (maxSteps:=4000000) -implicitDefEqProofs +contextual [-getElem?_pos,List.getElem?_cons_zero,a99]
 ·simp (maxSteps:=4000000) -implicitDefEqProofs +contextual [-getElem?_pos,List.getElem?_cons_zero,a99]
theorem put_p {l:List Int} {k:Nat} {a:Int} (hb:l.length ≤ 2 ^ 40) (hk:k < l.length):Fo E O 117 [pis l,pi k,pi a] 1 l.length ((l.set k a).map pi):=by
 refine Fo.body (F:=a117) rfl rfl rfl (frzL_pi _) (by simp) ?_
 simp (maxSteps:=4000000) -implicitDefEqProofs +contextual [-getElem?_pos,List.getElem?_cons_zero,a117]
 refine Px_fo (Copy_p hb) ?_ ?_ ?_
 iterate 2 · simp (maxDischargeDepth:=8) -implicitDefEqProofs [-getElem?_pos,List.getElem?_cons_zero]
 simp (maxSteps:=4000000) -implicitDefEqProofs +contextual [-getElem?_pos,List.getElem?_cons_zero,hk,psp_one]
 omega
theorem At_p {w n i:Int} {V:List Vr} (hV:isHeading w V = true) (hn:0 ≤ n ∧ n < V.length) (hi:0 ≤ i ∧ i < 2 ^ 40):Fz E O 94 [encVs V,pi n,pi i] (pi (firstV V n + i % cellsAt V n)) :=
 Fz.of_ca fun F H φ vs w Rv=>by
  cases Rv with | cons a Rv =>
  cases Rv with | cons b Rv =>
  cases Rv with | cons c Rv =>
  cases Rv; cases b; cases c
  refine (At_ca (vars_of' (rvf a)) hV hn hi).mono ?_
  rintro x H' ⟨rfl,rfl⟩
  exact ⟨rfl,Ext.refl _⟩
theorem Value_p {w:Int} {V:List Vr} {S:List (List Int)} {e:Exp} (hV:isHeading w V = true) (hS:SOk w V S) (ok:okE e) (hf:formE w V S.length e = true):Fz E O 70 [pi w,encVs V,encL S,.agg (encE e)] (pi (valE w V S e)) :=
 Fz.of_ca fun F H φ vs hw Rv=>by
  cases Rv with | cons a Rv =>
  cases Rv with | cons b Rv =>
  cases Rv with | cons c Rv =>
  cases Rv with | cons d Rv =>
  cases Rv; cases a
  obtain ⟨cs,rfl,hc⟩:=rvagg (by simp) d
  exact Value_ca hV hS _ e cs H (Nat.lt_succ_self _) hw (vars_of' (rvf b)) (stores_of (rvf c)) (exc_of ok hc) hf
theorem Nodes_p {e:Exp} (ok:okE e) (hn:nodesE e < 2 ^ 60):Fz E O 71 [.agg (encE e)] (pi (nodesE e)) :=
 Fz.of_ca fun F H φ vs hw Rv=>by
  cases Rv with | cons d Rv =>
  cases Rv
  obtain ⟨cs,rfl,hc⟩:=rvagg (by simp) d
  exact RNodes_ca _ e cs H (Nat.lt_succ_self _) hw (exc_of ok hc) hn
theorem len_nodesS:∀ l:List Stm,(l.length:Int) ≤ nodesS l
 | []=>by simp [nodesS]
 | s :: l=>by
  have:=len_nodesS l
  have:=nodesSt_pos s
  rw [nodesS,List.length_cons]
  omega
def evr (l:List Ev):List (List PV):=l.map fun e=>[pi e.kind,pi e.at_,pi e.val]
def orw (l:List (Int × Int)):List (List PV):=l.map fun e=>[pi e.1,pi e.2]
def itr (l:List Itm):List (List PV):=l.map fun it=>pi it.1 :: encS it.2
def evc (l:List Ev):List PV:=(evr l).flatten
@[simp] theorem evc_nil:evc [] = []:=rfl
@[simp] theorem evc_cons (a:Ev) (l:List Ev):evc (a :: l) = [pi a.kind,pi a.at_,pi a.val] ++ evc l:=by simp [evc,evr]
theorem evc_append (a b:List Ev):evc (a ++ b) = evc a ++ evc b:=by simp [evc,evr]
@[simp] theorem evr_length (l:List Ev):(evr l).length = l.length:=by simp [evr]
@[simp] theorem evc_length:∀ l:List Ev,(evc l).length = l.length * 3
 | []=>rfl
 | a :: l=>by rw [evc_cons,List.length_append,evc_length l]; simp; omega
@[simp] theorem evc_fzc:∀ l:List Ev,(evc l).all fzc = true
 | []=>rfl
 | a :: l=>by rw [evc_cons,List.all_append,evc_fzc l]; simp [fzc]
@[simp] theorem evc_frz (l:List Ev):frzL (evc l) = true:=fzc_frzL (evc_fzc l)
def orc (l:List (Int × Int)):List PV:=(orw l).flatten
@[simp] theorem orc_nil:orc [] = []:=rfl
@[simp] theorem orc_cons (a:(Int × Int)) (l:List (Int × Int)):orc (a :: l) = [pi a.1,pi a.2] ++ orc l:=by simp [orc,orw]
theorem orc_append (a b:List (Int × Int)):orc (a ++ b) = orc a ++ orc b:=by simp [orc,orw]
@[simp] theorem orw_length (l:List (Int × Int)):(orw l).length = l.length:=by simp [orw]
@[simp] theorem orc_length:∀ l:List (Int × Int),(orc l).length = l.length * 2
 | []=>rfl
 | a :: l=>by rw [orc_cons,List.length_append,orc_length l]; simp; omega
@[simp] theorem orc_fzc:∀ l:List (Int × Int),(orc l).all fzc = true
 | []=>rfl
 | a :: l=>by rw [orc_cons,List.all_append,orc_fzc l]; simp [fzc]
@[simp] theorem orc_frz (l:List (Int × Int)):frzL (orc l) = true:=fzc_frzL (orc_fzc l)
def itc (l:List Itm):List PV:=(itr l).flatten
@[simp] theorem itc_nil:itc [] = []:=rfl
@[simp] theorem itc_cons (a:Itm) (l:List Itm):itc (a :: l) = (pi a.1 :: encS a.2) ++ itc l:=by simp [itc,itr]
theorem itc_append (a b:List Itm):itc (a ++ b) = itc a ++ itc b:=by simp [itc,itr]
@[simp] theorem itr_length (l:List Itm):(itr l).length = l.length:=by simp [itr]
@[simp] theorem itc_length:∀ l:List Itm,(itc l).length = l.length * 6
 | []=>rfl
 | a :: l=>by rw [itc_cons,List.length_append,itc_length l]; simp; omega
@[simp] theorem itc_fzc:∀ l:List Itm,(itc l).all fzc = true
 | []=>rfl
 | a :: l=>by rw [itc_cons,List.all_append,itc_fzc l]; simp [fzc]
@[simp] theorem itc_frz (l:List Itm):frzL (itc l) = true:=fzc_frzL (itc_fzc l)
theorem Events_p {w:Int} {V:List Vr} {s:List Int} {e:Exp} (hV:isHeading w V = true) (hS:isStore w V s = true) (ok:okE e) (hf:formE w V 1 e = true) (hn:nodesE e ≤ 2 ^ 30):Fo E O 72 [pi w,encVs V,pis s,.agg (encE e)] 3 (evE w V [s] e).length (evc (evE w V [s] e)):=by
 have:=Fo.of_ca (f:=72) (args:=[pi w,encVs V,pis s,.agg (encE e)]) (rows:=evRows (evE w V [s] e)) (show 0 < 3 by omega) (fun F H φ vs hw Rv=>by
  cases Rv with | cons a Rv =>
  cases Rv with | cons b Rv =>
  cases Rv with | cons c Rv =>
  cases Rv with | cons d Rv =>
  cases Rv; cases a
  obtain ⟨cs,rfl,hc⟩:=rvagg (by simp) d
  exact Events_ca hV hS _ e cs H (Nat.lt_succ_self _) hw (vars_of' (rvf b)) (ints_of (rvf c)) (exc_of ok hc) hf hn)
 have e2:∀ l:List Ev,(evRows l).flatten.map PV.v = evc l:=by
  intro l
  induction l with
  | nil=>rfl
  | cons a l ih=>simp_all [evRows,Ev.row]
 rw [e2,evRows_length] at this
 exact this
theorem Count_p:∀ (N:Nat) (l:List Stm),SizeOf.sizeOf l < N → nodesS l < 2 ^ 60 → Fz E O 25 [.fs 5 (encSs l)] (pi (countS l)):=by
 intro N
 induction N with
 | zero=>intro l h; omega
 | succ N ih =>
  intro l hN hnd
  refine Fz.body (F:=a25) rfl rfl rfl rfl ?_
  simp (maxSteps:=4000000) -implicitDefEqProofs +contextual [-getElem?_pos,List.getElem?_cons_zero,a25]
  refine Pk_for (fun i fr h=>h = [] ∧ fr.get 0 = .fs 5 (encSs l) ∧ fr.get 4 = pi i ∧ fr.get 3 = pi (countS (l.take i))) l.length ?_ ?_
  ·exact ⟨rfl,by simp,by simp,by simp [countS]⟩
  rintro i fr h hi ⟨rfl,f0,f4,f3⟩
  by_cases h:i < l.length
  ·obtain ⟨⟨op,n,args,thn,els⟩,hy⟩:∃ y,l[i]? = some y:=⟨_,List.getElem?_eq_getElem h⟩
   have hs:=size_thn hy
   have t1:=countS_take hy
   have t2:=countS_take_le l i
   have t3:=nodesS_take_le l i
   have t4:=countS_take_le l (i + 1)
   have t5:=nodesS_take_le l (i + 1)
   have u4:=countS_bound thn
   have u5:=countS_bound els
   have hm:=nodesS_mem (List.mem_of_getElem? hy)
   have hne:=nodesS_pos els
   have hnt:=nodesS_pos thn
   have hlen:=len_nodesS l
   rw [countSt] at t1
   have w1:IntKind.i64.wrap (countS (l.take i) + 1) = countS (l.take i) + 1:=wrap_in ⟨by omega,by omega⟩
   have w2:IntKind.i64.wrap (countS (l.take i) + 1 + countS thn) = countS (l.take i) + 1 + countS thn:=wrap_in ⟨by omega,by omega⟩
   have w3:IntKind.i64.wrap (countS (l.take i) + 1 + countS thn + countS els) = countS (l.take i) + 1 + countS thn + countS els:=wrap_in ⟨by omega,by omega⟩
   have w4:IntKind.i64.wrap ((i:Int) + 1) = ((i + 1:Nat):Int):=wrap_in ⟨by omega,by omega⟩
   simp (maxSteps:=4000000) -implicitDefEqProofs +contextual [-getElem?_pos,List.getElem?_cons_zero,f0,f4,f3,h,hy,encS,w1]
   refine Px_fz (ih thn (by omega) (by omega)) ?_ ?_ ?_
   iterate 2 · simp (maxDischargeDepth:=8) -implicitDefEqProofs [-getElem?_pos,List.getElem?_cons_zero]
   simp (maxSteps:=4000000) -implicitDefEqProofs +contextual [-getElem?_pos,List.getElem?_cons_zero,w2]
   refine Px_fz (ih els (by omega) (by omega)) ?_ ?_ ?_
   iterate 2 · simp (maxDischargeDepth:=8) -implicitDefEqProofs [-getElem?_pos,List.getElem?_cons_zero]
   simp (maxSteps:=4000000) -implicitDefEqProofs +contextual [-getElem?_pos,List.getElem?_cons_zero,w3,f0,f4,f3,w4]
   refine .for h ⟨rfl,by simp [f0],by simp,by simp; omega⟩
  ·simp (maxSteps:=4000000) -implicitDefEqProofs +contextual [-getElem?_pos,List.getElem?_cons_zero,f0,f4,f3,h]
   rw [List.take_of_length_le (by omega)]
end Go.Proofs.YtoijnpfpjpefgaaGreat.A.P
/- A text without what this claim does not need: Q3. -/
set_option linter.unusedVariables false
set_option linter.unusedSimpArgs false
set_option maxRecDepth 10000
namespace Go.Proofs.YtoijnpfpjpefgaaGreat.A.P
open Go Go.RowKit
theorem items_take:∀ (l:List Stm) (i:Nat) (k:Int) (s:Stm),l[i]? = some s → itemsM (l.take (i + 1)) k = itemsM (l.take i) k ++ [(k + countS (l.take i),s)]
 | [],i,k,s,h=>by simp at h
 | .mk op' n' args' thn' els' :: l,0,k,s,h=>by
  simp at h
  subst h
  simp [itemsM,countS]
 | .mk op' n' args' thn' els' :: l,i + 1,k,s,h=>by
  simp only [List.take_succ_cons,itemsM,countS,countSt]
  rw [items_take l i _ s (by simpa using h)]
  simp only [List.cons_append]
  rw [show k + 1 + countS thn' + countS els' + countS (l.take i) = k + (1 + countS thn' + countS els' + countS (l.take i)) by omega]
@[simp] theorem items_length:∀ (l:List Stm) (k:Int),(itemsM l k).length = l.length
 | [],k=>rfl
 | .mk _ _ _ _ _ :: l,k=>by simp [itemsM,items_length l]
theorem Items_p {l:List Stm} {n0:Int} (hnd:nodesS l < 2 ^ 40) (hn0:0 ≤ n0 ∧ n0 ≤ 2 ^ 40):Fo E O 67 [.fs 5 (encSs l),pi n0] 6 l.length (itc (itemsM l n0)):=by
 refine Fo.body (F:=a67) rfl rfl rfl (by simp) (by simp) ?_
 have hlen:=len_nodesS l
 simp (maxSteps:=4000000) -implicitDefEqProofs +contextual [-getElem?_pos,List.getElem?_cons_zero,a67]
 refine Pk_forG (fun i fr h=>h = [.cells 6 (itc (itemsM (l.take i) n0))] ∧ fr.get 0 = .fs 5 (encSs l) ∧ fr.get 1 = pi (n0 + countS (l.take i)) ∧ fr.get 5 = .sl 6 0 0 i i ∧ fr.get 6 = pi i) l.length (Gh_sel (h2:=[.cells 6 []]) (fun _=>False) id [(0,.fs 5 (encSs l)),(1,pi n0),(5,.sl 6 0 0 0 0),(6,pi 0)] (Keep.id' (by simp)) (by simp)) ?_ ?_
 ·simp [itemsM,countS]
 rintro i fr h hi ⟨rfl,f0,f1,f5,f6⟩
 by_cases h:i < l.length
 ·obtain ⟨s,hy⟩:∃ y,l[i]? = some y:=⟨_,List.getElem?_eq_getElem h⟩
  have ht:=items_take l i n0 s hy
  obtain ⟨op,n,args,thn,els⟩:=s
  have t1:=countS_take hy
  have t2:=countS_take_le l i
  have t3:=nodesS_take_le l i
  have t4:=countS_take_le l (i + 1)
  have t5:=nodesS_take_le l (i + 1)
  have u4:=countS_bound thn
  have u5:=countS_bound els
  have hm:=nodesS_mem (List.mem_of_getElem? hy)
  have hne:=nodesS_pos els
  have hnt:=nodesS_pos thn
  rw [countSt] at t1
  have w1:IntKind.i64.wrap (n0 + countS (l.take i) + 1) = n0 + countS (l.take i) + 1:=wrap_in ⟨by omega,by omega⟩
  have w2:IntKind.i64.wrap (n0 + countS (l.take i) + 1 + countS thn) = n0 + countS (l.take i) + 1 + countS thn:=wrap_in ⟨by omega,by omega⟩
  have w3:IntKind.i64.wrap (n0 + countS (l.take i) + 1 + countS thn + countS els) = n0 + countS (l.take i) + 1 + countS thn + countS els:=wrap_in ⟨by omega,by omega⟩
  have w4:IntKind.i64.wrap ((i:Int) + 1) = ((i + 1:Nat):Int):=wrap_in ⟨by omega,by omega⟩
  have hil:(itemsM (l.take i) n0).length = i:=by simp; omega
  simp (maxSteps:=4000000) -implicitDefEqProofs +contextual [-getElem?_pos,List.getElem?_cons_zero,f0,f1,f5,f6,h,hy,encS]
  apply PO_appO
  iterate 9 · first | rfl | omega | (simp -implicitDefEqProofs [-getElem?_pos,List.getElem?_cons_zero,hil]; first | done | rfl | omega)
  simp (maxSteps:=4000000) -implicitDefEqProofs +contextual [-getElem?_pos,List.getElem?_cons_zero,f0,f1,f5,f6,h,hy,encS,w1]
  refine Px_fz (Count_p _ thn (Nat.lt_succ_self _) (by omega)) ?_ ?_ ?_
  iterate 2 · simp (maxDischargeDepth:=8) -implicitDefEqProofs [-getElem?_pos,List.getElem?_cons_zero]
  simp (maxSteps:=4000000) -implicitDefEqProofs +contextual [-getElem?_pos,List.getElem?_cons_zero,w2]
  refine Px_fz (Count_p _ els (Nat.lt_succ_self _) (by omega)) ?_ ?_ ?_
  iterate 2 · simp (maxDischargeDepth:=8) -implicitDefEqProofs [-getElem?_pos,List.getElem?_cons_zero]
  simp (maxSteps:=4000000) -implicitDefEqProofs +contextual [-getElem?_pos,List.getElem?_cons_zero,w3,f0,f1,f5,f6,w4]
  refine .forG h (Gh_sel (h2:=[.cells 6 (itc (itemsM (l.take (i + 1)) n0))]) (fun _=>False) id [(0,.fs 5 (encSs l)),(1,pi (n0 + countS (l.take i) + 1 + countS thn + countS els)),(5,.sl 6 0 0 (i + 1) (i + 1)),(6,pi (i + 1:Nat))] (Keep.id' ?_) ?_) ?_
  ·rw [ht,itc_append]; simp [encS,frzL_append]
  ·rw [ht,itc_append]; simp [f0,hil,encS]
  ·simp; omega
 ·obtain rfl:i = l.length:=by omega
  simp (maxSteps:=4000000) -implicitDefEqProofs +contextual [-getElem?_pos,List.getElem?_cons_zero,f0,f1,f5,f6]
def encI (it:Itm):List PV:=pi it.1 :: encS it.2
theorem Then_p {k op n:Int} {args:List Exp} {thn els:List Stm} (hnd:nodesS thn < 2 ^ 40) (hk:0 ≤ k ∧ k < 2 ^ 40):Fo E O 101 [.agg (encI (k,.mk op n args thn els))] 6 thn.length (itc (itemsM thn (k + 1))):=by
 refine Fo.body (F:=a101) rfl rfl rfl (by simp) (by simp) ?_
 have w1:IntKind.i64.wrap (k + 1) = k + 1:=wrap_in ⟨by omega,by omega⟩
 simp (maxSteps:=4000000) -implicitDefEqProofs +contextual [-getElem?_pos,List.getElem?_cons_zero,a101,encI,encS,w1]
 refine Px_fo (Items_p hnd (n0:=k + 1) (by omega)) ?_ ?_ ?_
 iterate 2 · simp (maxDischargeDepth:=8) -implicitDefEqProofs [-getElem?_pos,List.getElem?_cons_zero]
 simp (maxSteps:=4000000) -implicitDefEqProofs +contextual [-getElem?_pos,List.getElem?_cons_zero]
theorem Else_p {k op n:Int} {args:List Exp} {thn els:List Stm} (hnd:nodesS els < 2 ^ 40) (hnt:nodesS thn < 2 ^ 36) (hk:0 ≤ k ∧ k < 2 ^ 36):Fo E O 100 [.agg (encI (k,.mk op n args thn els))] 6 els.length (itc (itemsM els (k + 1 + countS thn))):=by
 refine Fo.body (F:=a100) rfl rfl rfl (by simp) (by simp) ?_
 have u4:=countS_bound thn
 have w1:IntKind.i64.wrap (k + 1) = k + 1:=wrap_in ⟨by omega,by omega⟩
 have w2:IntKind.i64.wrap (k + 1 + countS thn) = k + 1 + countS thn:=wrap_in ⟨by omega,by omega⟩
 simp (maxSteps:=4000000) -implicitDefEqProofs +contextual [-getElem?_pos,List.getElem?_cons_zero,a100,encI,encS,w1]
 refine Px_fz (Count_p _ thn (Nat.lt_succ_self _) (by omega)) ?_ ?_ ?_
 iterate 2 · simp (maxDischargeDepth:=8) -implicitDefEqProofs [-getElem?_pos,List.getElem?_cons_zero]
 simp (maxSteps:=4000000) -implicitDefEqProofs +contextual [-getElem?_pos,List.getElem?_cons_zero,w2]
 refine Px_fo (Items_p hnd (n0:=k + 1 + countS thn) (by omega)) ?_ ?_ ?_
 iterate 2 · simp (maxDischargeDepth:=8) -implicitDefEqProofs [-getElem?_pos,List.getElem?_cons_zero]
 simp (maxSteps:=4000000) -implicitDefEqProofs +contextual [-getElem?_pos,List.getElem?_cons_zero]
def cfV (c:CfM) (b0 b1 b2 b3:Nat):List PV:=[pi c.en,.sl 1 b0 0 c.store.length c.store.length,.sl 2 b1 0 c.outs.length c.outs.length,.sl 3 b2 0 c.trace.length c.trace.length,pi c.cost,pi c.used,pi c.wh,pi c.fuel,.sl 6 b3 0 c.todo.length c.todo.length,pb c.over]
def cfH (c:CfM):PH:=[.cells 1 (c.store.map pi),.cells 2 (orc c.outs),.cells 3 (evc c.trace),.cells 6 (itc c.todo)]
theorem event_p {c:CfM} {k a v:Int} (hb:c.trace.length < 2 ^ 40):PCa E O 98 [.agg (cfV c 0 1 2 3),pi k,pi a,pi v] (cfH c) (fun r h=>r = .agg (cfV { c with trace:=c.trace ++ [⟨k,a,v⟩] } 0 1 2 3) ∧ h = cfH { c with trace:=c.trace ++ [⟨k,a,v⟩] }):=by
 refine PCa.body (F:=a98) rfl rfl rfl ?_
 simp (maxSteps:=4000000) -implicitDefEqProofs +contextual [-getElem?_pos,List.getElem?_cons_zero,a98,cfV,cfH]
 apply PO_appO
 iterate 9 · first | rfl | omega | (simp -implicitDefEqProofs [-getElem?_pos,List.getElem?_cons_zero]; first | done | rfl | omega)
 simp (maxSteps:=4000000) -implicitDefEqProofs +contextual [-getElem?_pos,List.getElem?_cons_zero]
 simp only [evc_append,evc_cons,evc_nil,List.append_nil]
 refine ret_cut (m:=4) ?_ ?_ ?_ ?_
 ·omega
 ·simp
 ·simp (maxDischargeDepth:=8) -implicitDefEqProofs [frzL_append,List.getElem?_cons_zero]
 ·simp (maxDischargeDepth:=8) -implicitDefEqProofs [frzL_append,List.getElem?_cons_zero]
theorem stop_p {c:CfM} {e n:Int}:PCa E O 69 [.agg (cfV c 0 1 2 3),pi e,pi n] (cfH c) (fun r h=>r = .agg (cfV (stopM c e n) 0 1 2 4) ∧ h = cfH c ++ [.cells 6 []]):=by
 refine PCa.body (F:=a69) rfl rfl rfl ?_
 simp (maxSteps:=4000000) -implicitDefEqProofs +contextual [-getElem?_pos,List.getElem?_cons_zero,a69,cfV,cfH,stopM]
 refine ret_id (Keep.id' ?_) ?_ ?_ (fun b hb=>?_)
 ·simp (maxDischargeDepth:=8) -implicitDefEqProofs [frzL_append,List.getElem?_cons_zero]
 ·simp (maxDischargeDepth:=8) -implicitDefEqProofs [frzL_append,List.getElem?_cons_zero]
 ·simp
 ·have:b = 0 ∨ b = 1 ∨ b = 2 ∨ b = 3:=by omega
  rcases this with rfl | rfl | rfl | rfl <;> simp [isMap]
end Go.Proofs.YtoijnpfpjpefgaaGreat.A.P
/- A text without what this claim does not need: Q4. -/
set_option linter.unusedVariables false
set_option linter.unusedSimpArgs false
set_option maxRecDepth 10000
namespace Go.Proofs.YtoijnpfpjpefgaaGreat.A.P
open Go Go.RowKit
theorem set_p {p:Prg} {c:CfM} {op n:Int} {args:List Exp} {thn els:List Stm} {i a:Int} (hV:isHeading p.w p.vars = true) (hS:isStore p.w p.vars c.store = true) (hn:0 ≤ n ∧ n < p.vars.length) (hi:0 ≤ i ∧ i < 2 ^ 40) (hb:c.trace.length < 2 ^ 40) :
  PCa E O 97 [.agg (encP p),.agg (cfV c 0 1 2 3),.agg (encS (.mk op n args thn els)),pb (decide (1 < cellsAt p.vars n)),pi i,pi a] (cfH c) (fun r h=>r = .agg (cfV (setM p.vars c n i a) 4 1 2 3) ∧ h = [.dead,.cells 2 (orc c.outs),.cells 3 (evc (setM p.vars c n i a).trace),.cells 6 (itc c.todo),.cells 1 ((setM p.vars c n i a).store.map pi)]):=by
 have hw8:1 ≤ p.w ∧ p.w ≤ 8:=⟨(isHeading_w hV).1,(isHeading_w hV).2.1⟩
 have hcell:=cell_in hV hn i
 obtain ⟨x,hx,hx1,hx2,hx3⟩:=isStore_get hw8 hS (i:=firstV p.vars n + i % cellsAt p.vars n) (by omega)
 have hlt:=(List.getElem?_eq_some_iff.1 hx).1
 obtain ⟨y,hy⟩:∃ y,p.vars[n.toNat]? = some y:=⟨_,List.getElem?_eq_getElem (by omega)⟩
 have hcy:cellsAt p.vars n = y.cells:=by simp [cellsAt,hy]
 have y0:¬ y.cells = 0:=by omega
 have rn:=rem_nn (a:=i) (b:=y.cells) hi.1
 rw [if_neg y0] at rn
 have hsl:c.store.length ≤ 2 ^ 40:=by
  simp only [isStore,Bool.and_eq_true,decide_eq_true_eq] at hS
  have:=(head_cells hV).2.2
  omega
 obtain ⟨k,hk⟩:∃ k:Nat,(k:Int) = firstV p.vars n + i % cellsAt p.vars n:=⟨(firstV p.vars n + i % cellsAt p.vars n).toNat,by omega⟩
 refine PCa.body (F:=a97) rfl rfl rfl ?_
 simp (maxSteps:=4000000) -implicitDefEqProofs +contextual [-getElem?_pos,List.getElem?_cons_zero,a97,cfV,cfH,encP,encS]
 refine Px_fz (At_p hV hn hi) ?_ ?_ ?_
 iterate 2 · simp (maxDischargeDepth:=8) -implicitDefEqProofs [-getElem?_pos,List.getElem?_cons_zero]
 simp (maxSteps:=4000000) -implicitDefEqProofs +contextual [-getElem?_pos,List.getElem?_cons_zero]
 rw [← hk]
 refine Px_foL [0] (put_p hsl (k:=k) (a:=a) (by omega)) ?_ ?_
 ·simp (maxDischargeDepth:=8) -implicitDefEqProofs [-getElem?_pos,List.getElem?_cons_zero]
 simp (maxSteps:=4000000) -implicitDefEqProofs +contextual [-getElem?_pos,List.getElem?_cons_zero,killL,hn.1,hn.2,hy,encV,pbin,rn]
 have hk2:(firstV p.vars n + i % cellsAt p.vars n).toNat = k:=by omega
 have hset:(c.store.set (firstV p.vars n + i % cellsAt p.vars n).toNat a).map pi = (c.store.map pi).set k (pi a):=by rw [List.map_set,hk2]
 refine br_i (fun h1=>?_) (fun h1=>?_)
 ·refine Px_frame [8,1,2,3] [] (event_p (c:={ c with store:=c.store.set k a }) (k:=2) (a:=n) (v:=i % y.cells) hb) ?_ ?_ ?_ ?_ ?_ ?_ ?_
  iterate 6 · first | rfl | simp (maxDischargeDepth:=8) -implicitDefEqProofs [-getElem?_pos,List.getElem?_cons_zero,frzL_append,cfH,cfV]
  rintro r0 hs' ⟨rfl,rfl⟩ _
  have hset2:setM p.vars c n i a = { c with store:=c.store.set (firstV p.vars n + i % cellsAt p.vars n).toNat a,trace:=c.trace ++ [⟨2,n,i % cellsAt p.vars n⟩] }:=by simp [setM,h1]
  rw [hset2,hk2,hcy]
  simp (maxSteps:=4000000) -implicitDefEqProofs +contextual [-getElem?_pos,List.getElem?_cons_zero,cfV,cfH,killL]
  refine ret_list [8] ?_ ?_ ?_ (fun b hb=>?_) ?_ ?_
  iterate 3 · simp
  ·have:b = 0 ∨ b = 1 ∨ b = 2 ∨ b = 3:=by omega
   rcases this with rfl | rfl | rfl | rfl <;> simp [sameTot] <;> omega
  iterate 2 · simp (maxDischargeDepth:=8) -implicitDefEqProofs [frzL_append,List.getElem?_cons_zero]
 ·have hset2:setM p.vars c n i a = { c with store:=c.store.set (firstV p.vars n + i % cellsAt p.vars n).toNat a }:=by simp [setM,h1]
  rw [hset2,hk2]
  simp (maxSteps:=4000000) -implicitDefEqProofs +contextual [-getElem?_pos,List.getElem?_cons_zero]
  refine ret_list [8] ?_ ?_ ?_ (fun b hb=>?_) ?_ ?_
  iterate 3 · simp
  ·have:b = 0 ∨ b = 1 ∨ b = 2 ∨ b = 3:=by omega
   rcases this with rfl | rfl | rfl | rfl <;> simp [sameTot] <;> omega
  iterate 2 · simp (maxDischargeDepth:=8) -implicitDefEqProofs [frzL_append,List.getElem?_cons_zero]
end Go.Proofs.YtoijnpfpjpefgaaGreat.A.P
/- A text without what this claim does not need: Q5. -/
set_option linter.unusedVariables false
set_option linter.unusedSimpArgs false
set_option maxRecDepth 10000
namespace Go.Proofs.YtoijnpfpjpefgaaGreat.A.P
open Go Go.RowKit
def cfA (c:CfM) (r:PV) (h:PH):Prop :=
 (r = .agg (cfV c 0 1 2 3) ∧ h = [.cells 1 (c.store.map pi),.cells 2 (orc c.outs),.cells 3 (evc c.trace),.cells 6 (itc c.todo)]) ∨
 (r = .agg (cfV c 4 1 2 3) ∧ h = [.dead,.cells 2 (orc c.outs),.cells 3 (evc c.trace),.cells 6 (itc c.todo),.cells 1 (c.store.map pi)]) ∨
 (r = .agg (cfV c 0 1 2 4) ∧ h = [.cells 1 (c.store.map pi),.cells 2 (orc c.outs),.cells 3 (evc c.trace),.dead,.cells 6 (itc c.todo)])
@[simp] theorem setM_outs (V:List Vr) (c:CfM) (n i a:Int):(setM V c n i a).outs = c.outs:=rfl
@[simp] theorem setM_todo (V:List Vr) (c:CfM) (n i a:Int):(setM V c n i a).todo = c.todo:=rfl
@[simp] theorem stopM_store (c:CfM) (e n:Int):(stopM c e n).store = c.store:=rfl
@[simp] theorem stopM_outs (c:CfM) (e n:Int):(stopM c e n).outs = c.outs:=rfl
@[simp] theorem stopM_trace (c:CfM) (e n:Int):(stopM c e n).trace = c.trace:=rfl
@[simp] theorem stopM_todo (c:CfM) (e n:Int):(stopM c e n).todo = []:=rfl
section
variable {p:Prg} {ps:List Int} {c:CfM} {k n:Int} {args:List Exp} {thn els:List Stm} {next:List Itm}
theorem act_set {vals:List Int} (hV:isHeading p.w p.vars = true) (hS:isStore p.w p.vars c.store = true) (hb:c.trace.length < 2 ^ 40) (hn:0 ≤ n ∧ n < p.vars.length)
  (hl:(¬ 1 < cellsAt p.vars n ∧ ∃ a,vals = [a]) ∨ (1 < cellsAt p.vars n ∧ ∃ a b,vals = [a,b])) (hw:∀ a ∈ vals,0 ≤ a ∧ a < 2 ^ 40) :
  PCa E O 73 [.agg (encP p),pis ps,.agg (cfV c 0 1 2 3),.agg (encI (k,.mk 0 n args thn els)),pis vals,.fs 6 (itr next)] (cfH c) (cfA (actM p ps c k (.mk 0 n args thn els) vals next)):=by
 refine PCa.body (F:=a73) rfl rfl rfl ?_
 rcases hl with ⟨h1,a,rfl⟩ | ⟨h1,a,b,rfl⟩
 ·have e:actM p ps c k (.mk 0 n args thn els) [a] next = setM p.vars c n 0 a:=by simp [actM,h1,vAt]
  rw [e]
  simp (maxSteps:=4000000) -implicitDefEqProofs +contextual [-getElem?_pos,List.getElem?_cons_zero,a73,cfV,cfH,encP,encI,encS,ir]
  refine Px_frame [0,1,2,3] [] (set_p (op:=0) (args:=args) (thn:=thn) (els:=els) (i:=0) (a:=a) hV hS hn (by omega) hb) ?_ ?_ ?_ ?_ ?_ ?_ ?_
  iterate 6 · first | rfl | simp (maxDischargeDepth:=8) -implicitDefEqProofs [-getElem?_pos,List.getElem?_cons_zero,frzL_append,cfH,cfV,encP,encS,h1]
  rintro r0 hs' ⟨rfl,rfl⟩ _
  simp (maxSteps:=4000000) -implicitDefEqProofs +contextual [-getElem?_pos,List.getElem?_cons_zero,cfV,cfH,killL]
  refine ⟨_,_,?_,.inr (.inl ⟨rfl,rfl⟩)⟩
  refine ret_list [9] ?_ ?_ ?_ (fun b hb=>?_) ?_ ?_
  iterate 3 · simp
  ·have:b = 0 ∨ b = 1 ∨ b = 2 ∨ b = 3:=by omega
   rcases this with rfl | rfl | rfl | rfl <;> simp [sameTot,cfV,orc_append,evc_append,itc_append,encS] <;> omega
  iterate 2 · simp (maxDischargeDepth:=8) -implicitDefEqProofs [frzL_append,List.getElem?_cons_zero,cfV,orc_append,evc_append,itc_append,encS]
 ·have ha:=hw a (by simp)
  have e:actM p ps c k (.mk 0 n args thn els) [a,b] next = setM p.vars c n a b:=by simp [actM,h1,vAt]
  rw [e]
  simp (maxSteps:=4000000) -implicitDefEqProofs +contextual [-getElem?_pos,List.getElem?_cons_zero,a73,cfV,cfH,encP,encI,encS,ir]
  refine Px_frame [0,1,2,3] [] (set_p (op:=0) (args:=args) (thn:=thn) (els:=els) (i:=a) (a:=b) hV hS hn ha hb) ?_ ?_ ?_ ?_ ?_ ?_ ?_
  iterate 6 · first | rfl | simp (maxDischargeDepth:=8) -implicitDefEqProofs [-getElem?_pos,List.getElem?_cons_zero,frzL_append,cfH,cfV,encP,encS,h1]
  rintro r0 hs' ⟨rfl,rfl⟩ _
  simp (maxSteps:=4000000) -implicitDefEqProofs +contextual [-getElem?_pos,List.getElem?_cons_zero,cfV,cfH,killL]
  refine ⟨_,_,?_,.inr (.inl ⟨rfl,rfl⟩)⟩
  refine ret_list [9] ?_ ?_ ?_ (fun b hb=>?_) ?_ ?_
  iterate 3 · simp
  ·have:b = 0 ∨ b = 1 ∨ b = 2 ∨ b = 3:=by omega
   rcases this with rfl | rfl | rfl | rfl <;> simp [sameTot,cfV,orc_append,evc_append,itc_append,encS] <;> omega
  iterate 2 · simp (maxDischargeDepth:=8) -implicitDefEqProofs [frzL_append,List.getElem?_cons_zero,cfV,orc_append,evc_append,itc_append,encS]
theorem act_out {a:Int} (hb:c.outs.length < 2 ^ 40) :
  PCa E O 73 [.agg (encP p),pis ps,.agg (cfV c 0 1 2 3),.agg (encI (k,.mk 3 n args thn els)),pis [a],.fs 6 (itr next)] (cfH c) (cfA (actM p ps c k (.mk 3 n args thn els) [a] next)):=by
 refine PCa.body (F:=a73) rfl rfl rfl ?_
 have e:actM p ps c k (.mk 3 n args thn els) [a] next = { c with outs:=c.outs ++ [(n,a)] }:=by simp [actM,vAt]
 rw [e]
 simp (maxSteps:=4000000) -implicitDefEqProofs +contextual [-getElem?_pos,List.getElem?_cons_zero,a73,cfV,cfH,encP,encI,encS,ir]
 apply PO_appO
 iterate 9 · first | rfl | omega | (simp -implicitDefEqProofs [-getElem?_pos,List.getElem?_cons_zero]; first | done | rfl | omega)
 simp (maxSteps:=4000000) -implicitDefEqProofs +contextual [-getElem?_pos,List.getElem?_cons_zero]
 refine ⟨_,_,?_,.inl ⟨rfl,rfl⟩⟩
 refine ret_list [] ?_ ?_ ?_ (fun b hb=>?_) ?_ ?_
 iterate 3 · simp
 ·have:b = 0 ∨ b = 1 ∨ b = 2 ∨ b = 3:=by omega
  rcases this with rfl | rfl | rfl | rfl <;> simp [sameTot,cfV,orc_append,evc_append,itc_append,encS] <;> omega
 iterate 2 · simp (maxDischargeDepth:=8) -implicitDefEqProofs [frzL_append,List.getElem?_cons_zero,cfV,orc_append,evc_append,itc_append,encS]
theorem act_need {op a:Int} (ho:op = 5 ∨ op = 6) :
  PCa E O 73 [.agg (encP p),pis ps,.agg (cfV c 0 1 2 3),.agg (encI (k,.mk op n args thn els)),pis [a],.fs 6 (itr next)] (cfH c) (cfA (actM p ps c k (.mk op n args thn els) [a] next)):=by
 refine PCa.body (F:=a73) rfl rfl rfl ?_
 rcases ho with rfl | rfl
 ·by_cases q:a = 0
  ·have e:actM p ps c k (.mk 5 n args thn els) [a] next = stopM c 1 k:=by simp [actM,vAt,q]
   rw [e]
   simp (maxSteps:=4000000) -implicitDefEqProofs +contextual [-getElem?_pos,List.getElem?_cons_zero,a73,cfV,cfH,encP,encI,encS,ir,q]
   refine Px_frame [0,1,2,3] [] (stop_p (c:=c) (e:=1) (n:=k)) ?_ ?_ ?_ ?_ ?_ ?_ ?_
   iterate 6 · first | rfl | simp (maxDischargeDepth:=8) -implicitDefEqProofs [-getElem?_pos,List.getElem?_cons_zero,frzL_append,cfH,cfV]
   rintro r0 hs' ⟨rfl,rfl⟩ _
   simp (maxSteps:=4000000) -implicitDefEqProofs +contextual [-getElem?_pos,List.getElem?_cons_zero,cfV,cfH,killL]
   refine ⟨_,_,?_,.inr (.inr ⟨rfl,rfl⟩)⟩
   refine ret_list [9] ?_ ?_ ?_ (fun b hb=>?_) ?_ ?_
   iterate 3 · simp
   ·have:b = 0 ∨ b = 1 ∨ b = 2 ∨ b = 3:=by omega
    rcases this with rfl | rfl | rfl | rfl <;> simp [sameTot,cfV,orc_append,evc_append,itc_append,encS] <;> omega
   iterate 2 · simp (maxDischargeDepth:=8) -implicitDefEqProofs [frzL_append,List.getElem?_cons_zero,cfV,orc_append,evc_append,itc_append,encS]
  ·have e:actM p ps c k (.mk 5 n args thn els) [a] next = c:=by simp [actM,vAt,q]
   rw [e]
   simp (maxSteps:=4000000) -implicitDefEqProofs +contextual [-getElem?_pos,List.getElem?_cons_zero,a73,cfV,cfH,encP,encI,encS,ir,q]
   refine ⟨_,_,?_,.inl ⟨rfl,rfl⟩⟩
   refine ret_list [] ?_ ?_ ?_ (fun b hb=>?_) ?_ ?_
   iterate 3 · simp
   ·have:b = 0 ∨ b = 1 ∨ b = 2 ∨ b = 3:=by omega
    rcases this with rfl | rfl | rfl | rfl <;> simp [sameTot,cfV,orc_append,evc_append,itc_append,encS] <;> omega
   iterate 2 · simp (maxDischargeDepth:=8) -implicitDefEqProofs [frzL_append,List.getElem?_cons_zero,cfV,orc_append,evc_append,itc_append,encS]
 ·by_cases q:a = 0
  ·have e:actM p ps c k (.mk 6 n args thn els) [a] next = stopM c 2 k:=by simp [actM,vAt,q]
   rw [e]
   simp (maxSteps:=4000000) -implicitDefEqProofs +contextual [-getElem?_pos,List.getElem?_cons_zero,a73,cfV,cfH,encP,encI,encS,ir,q]
   refine Px_frame [0,1,2,3] [] (stop_p (c:=c) (e:=2) (n:=k)) ?_ ?_ ?_ ?_ ?_ ?_ ?_
   iterate 6 · first | rfl | simp (maxDischargeDepth:=8) -implicitDefEqProofs [-getElem?_pos,List.getElem?_cons_zero,frzL_append,cfH,cfV]
   rintro r0 hs' ⟨rfl,rfl⟩ _
   simp (maxSteps:=4000000) -implicitDefEqProofs +contextual [-getElem?_pos,List.getElem?_cons_zero,cfV,cfH,killL]
   refine ⟨_,_,?_,.inr (.inr ⟨rfl,rfl⟩)⟩
   refine ret_list [9] ?_ ?_ ?_ (fun b hb=>?_) ?_ ?_
   iterate 3 · simp
   ·have:b = 0 ∨ b = 1 ∨ b = 2 ∨ b = 3:=by omega
    rcases this with rfl | rfl | rfl | rfl <;> simp [sameTot,cfV,orc_append,evc_append,itc_append,encS] <;> omega
   iterate 2 · simp (maxDischargeDepth:=8) -implicitDefEqProofs [frzL_append,List.getElem?_cons_zero,cfV,orc_append,evc_append,itc_append,encS]
  ·have e:actM p ps c k (.mk 6 n args thn els) [a] next = c:=by simp [actM,vAt,q]
   rw [e]
   simp (maxSteps:=4000000) -implicitDefEqProofs +contextual [-getElem?_pos,List.getElem?_cons_zero,a73,cfV,cfH,encP,encI,encS,ir,q]
   refine ⟨_,_,?_,.inl ⟨rfl,rfl⟩⟩
   refine ret_list [] ?_ ?_ ?_ (fun b hb=>?_) ?_ ?_
   iterate 3 · simp
   ·have:b = 0 ∨ b = 1 ∨ b = 2 ∨ b = 3:=by omega
    rcases this with rfl | rfl | rfl | rfl <;> simp [sameTot,cfV,orc_append,evc_append,itc_append,encS] <;> omega
   iterate 2 · simp (maxDischargeDepth:=8) -implicitDefEqProofs [frzL_append,List.getElem?_cons_zero,cfV,orc_append,evc_append,itc_append,encS]
theorem act_pick {vals:List Int} (hV:isHeading p.w p.vars = true) (hS:isStore p.w p.vars c.store = true) (hb:c.trace.length < 2 ^ 40) (hn:0 ≤ n ∧ n < p.vars.length) (hp:ps.length < 2 ^ 40)
  (hl:(¬ 1 < cellsAt p.vars n ∧ vals = []) ∨ (1 < cellsAt p.vars n ∧ ∃ a,vals = [a])) (hw:∀ a ∈ vals,0 ≤ a ∧ a < 2 ^ 40) :
  PCa E O 73 [.agg (encP p),pis ps,.agg (cfV c 0 1 2 3),.agg (encI (k,.mk 4 n args thn els)),pis vals,.fs 6 (itr next)] (cfH c) (cfA (actM p ps c k (.mk 4 n args thn els) vals next)):=by
 refine PCa.body (F:=a73) rfl rfl rfl ?_
 by_cases hu:ps.length ≤ c.used
 ·have e:actM p ps c k (.mk 4 n args thn els) vals next = stopM c 4 k:=by simp [actM,hu]
  rw [e]
  simp (maxSteps:=4000000) -implicitDefEqProofs +contextual [-getElem?_pos,List.getElem?_cons_zero,a73,cfV,cfH,encP,encI,encS,hu]
  refine Px_frame [0,1,2,3] [] (stop_p (c:=c) (e:=4) (n:=k)) ?_ ?_ ?_ ?_ ?_ ?_ ?_
  iterate 6 · first | rfl | simp (maxDischargeDepth:=8) -implicitDefEqProofs [-getElem?_pos,List.getElem?_cons_zero,frzL_append,cfH,cfV]
  rintro r0 hs' ⟨rfl,rfl⟩ _
  simp (maxSteps:=4000000) -implicitDefEqProofs +contextual [-getElem?_pos,List.getElem?_cons_zero,cfV,cfH,killL]
  refine ⟨_,_,?_,.inr (.inr ⟨rfl,rfl⟩)⟩
  refine ret_list [9] ?_ ?_ ?_ (fun b hb=>?_) ?_ ?_
  iterate 3 · simp
  ·have:b = 0 ∨ b = 1 ∨ b = 2 ∨ b = 3:=by omega
   rcases this with rfl | rfl | rfl | rfl <;> simp [sameTot,cfV,orc_append,evc_append,itc_append,encS] <;> omega
  iterate 2 · simp (maxDischargeDepth:=8) -implicitDefEqProofs [frzL_append,List.getElem?_cons_zero,cfV,orc_append,evc_append,itc_append,encS]
 ·obtain ⟨x,hx⟩:∃ x,ps[c.used]? = some x:=⟨_,List.getElem?_eq_getElem (by omega)⟩
  have hxa:vAt ps c.used = x:=by simp [vAt,hx]
  have w1:IntKind.i64.wrap ((c.used:Int) + 1) = (c.used:Int) + 1:=wrap_in ⟨by omega,by omega⟩
  have w2:IntKind.i64.wrap (c.used:Int) = (c.used:Int):=wrap_in ⟨by omega,by omega⟩
  have hlt:c.used < ps.length:=by omega
  rcases hl with ⟨h1,rfl⟩ | ⟨h1,a,rfl⟩
  ·have e:actM p ps c k (.mk 4 n args thn els) [] next = setM p.vars { c with used:=c.used + 1 } n 0 x:=by simp [actM,h1,hu,hxa]
   rw [e]
   simp (maxSteps:=4000000) -implicitDefEqProofs +contextual [-getElem?_pos,List.getElem?_cons_zero,a73,cfV,cfH,encP,encI,encS,hu,w1,w2,hlt,ir_get,hx]
   refine Px_frame [0,1,2,3] [] (set_p (c:={ c with used:=c.used + 1 }) (op:=4) (args:=args) (thn:=thn) (els:=els) (i:=0) (a:=x) hV hS hn (by omega) hb) ?_ ?_ ?_ ?_ ?_ ?_ ?_
   iterate 6 · first | rfl | simp (maxDischargeDepth:=8) -implicitDefEqProofs [-getElem?_pos,List.getElem?_cons_zero,frzL_append,cfH,cfV,encP,encS,h1]
   rintro r0 hs' ⟨rfl,rfl⟩ _
   simp (maxSteps:=4000000) -implicitDefEqProofs +contextual [-getElem?_pos,List.getElem?_cons_zero,cfV,cfH,killL]
   refine ⟨_,_,?_,.inr (.inl ⟨rfl,rfl⟩)⟩
   refine ret_list [9] ?_ ?_ ?_ (fun b hb=>?_) ?_ ?_
   iterate 3 · simp
   ·have:b = 0 ∨ b = 1 ∨ b = 2 ∨ b = 3:=by omega
    rcases this with rfl | rfl | rfl | rfl <;> simp [sameTot,cfV,orc_append,evc_append,itc_append,encS] <;> omega
   iterate 2 · simp (maxDischargeDepth:=8) -implicitDefEqProofs [frzL_append,List.getElem?_cons_zero,cfV,orc_append,evc_append,itc_append,encS]
  ·have ha:=hw a (by simp)
   have e:actM p ps c k (.mk 4 n args thn els) [a] next = setM p.vars { c with used:=c.used + 1 } n a x:=by simp [actM,h1,hu,vAt,hx]
   rw [e]
   simp (maxSteps:=4000000) -implicitDefEqProofs +contextual [-getElem?_pos,List.getElem?_cons_zero,a73,cfV,cfH,encP,encI,encS,hu,w1,w2,hlt,ir_get,hx]
   refine Px_frame [0,1,2,3] [] (set_p (c:={ c with used:=c.used + 1 }) (op:=4) (args:=args) (thn:=thn) (els:=els) (i:=a) (a:=x) hV hS hn ha hb) ?_ ?_ ?_ ?_ ?_ ?_ ?_
   iterate 6 · first | rfl | simp (maxDischargeDepth:=8) -implicitDefEqProofs [-getElem?_pos,List.getElem?_cons_zero,frzL_append,cfH,cfV,encP,encS,h1]
   rintro r0 hs' ⟨rfl,rfl⟩ _
   simp (maxSteps:=4000000) -implicitDefEqProofs +contextual [-getElem?_pos,List.getElem?_cons_zero,cfV,cfH,killL]
   refine ⟨_,_,?_,.inr (.inl ⟨rfl,rfl⟩)⟩
   refine ret_list [9] ?_ ?_ ?_ (fun b hb=>?_) ?_ ?_
   iterate 3 · simp
   ·have:b = 0 ∨ b = 1 ∨ b = 2 ∨ b = 3:=by omega
    rcases this with rfl | rfl | rfl | rfl <;> simp [sameTot,cfV,orc_append,evc_append,itc_append,encS] <;> omega
   iterate 2 · simp (maxDischargeDepth:=8) -implicitDefEqProofs [frzL_append,List.getElem?_cons_zero,cfV,orc_append,evc_append,itc_append,encS]
end
end Go.Proofs.YtoijnpfpjpefgaaGreat.A.P
/- A text without what this claim does not need: Q6. -/
set_option linter.unusedVariables false
set_option linter.unusedSimpArgs false
set_option maxRecDepth 10000
namespace Go.Proofs.YtoijnpfpjpefgaaGreat.A.P
open Go Go.RowKit
theorem itr_take (l:List Itm):(itr l).take l.length = itr l:=List.take_of_length_le (by simp)
theorem itr_flat (l:List Itm):(itr l).flatten = itc l:=rfl
set_option maxHeartbeats 1000000
section
variable {p:Prg} {ps:List Int} {c:CfM} {k n:Int} {args:List Exp} {thn els:List Stm} {next:List Itm}
theorem act_if {a:Int} (hb:c.trace.length < 2 ^ 40) (hx:next.length < 2 ^ 35) (ht:nodesS thn < 2 ^ 30) (he:nodesS els < 2 ^ 30) (hk:0 ≤ k ∧ k < 2 ^ 30) :
  PCa E O 73 [.agg (encP p),pis ps,.agg (cfV c 0 1 2 3),.agg (encI (k,.mk 1 n args thn els)),pis [a],.fs 6 (itr next)] (cfH c) (cfA (actM p ps c k (.mk 1 n args thn els) [a] next)):=by
 have l1:=len_nodesS thn
 have l2:=len_nodesS els
 refine PCa.body (F:=a73) rfl rfl rfl ?_
 by_cases q:a = 0
 ·have e:actM p ps c k (.mk 1 n args thn els) [a] next = { c with trace:=c.trace ++ [⟨0,k,0⟩],todo:=itemsM els (k + 1 + countS thn) ++ next }:=by simp [actM,vAt,q]
  rw [e]
  simp (maxSteps:=4000000) -implicitDefEqProofs +contextual [-getElem?_pos,List.getElem?_cons_zero,a73,cfV,cfH,encI,encS,ir,q]
  refine Px_fz (One_p false) ?_ ?_ ?_
  iterate 2 · simp (maxDischargeDepth:=8) -implicitDefEqProofs [-getElem?_pos,List.getElem?_cons_zero]
  simp (maxSteps:=4000000) -implicitDefEqProofs +contextual [-getElem?_pos,List.getElem?_cons_zero]
  refine Px_frame [0,1,2,3] [] (event_p (c:=c) (k:=0) (a:=k) (v:=0) hb) ?_ ?_ ?_ ?_ ?_ ?_ ?_
  iterate 6 · first | rfl | simp (maxDischargeDepth:=8) -implicitDefEqProofs [-getElem?_pos,List.getElem?_cons_zero,frzL_append,cfH,cfV]
  rintro r0 hs' ⟨rfl,rfl⟩ _
  simp (maxSteps:=4000000) -implicitDefEqProofs +contextual [-getElem?_pos,List.getElem?_cons_zero,cfV,cfH,killL]
  refine Px_fo (Else_p (k:=k) (op:=1) (n:=n) (args:=args) (thn:=thn) (els:=els) (by omega) (by omega) (by omega)) ?_ ?_ ?_
  iterate 2 · simp (maxDischargeDepth:=8) -implicitDefEqProofs [-getElem?_pos,List.getElem?_cons_zero,encI,encS]
  simp (maxSteps:=4000000) -implicitDefEqProofs +contextual [-getElem?_pos,List.getElem?_cons_zero]
  apply PO_appO
  iterate 9 · first | rfl | omega | (simp -implicitDefEqProofs [-getElem?_pos,List.getElem?_cons_zero,itr_take,itr_flat]; first | done | rfl | omega)
  simp (maxSteps:=4000000) -implicitDefEqProofs +contextual [-getElem?_pos,List.getElem?_cons_zero,itr_take,itr_flat,ir,q]
  refine ⟨_,_,?_,.inr (.inr ⟨rfl,rfl⟩)⟩
  refine ret_list [9] ?_ ?_ ?_ (fun b hb=>?_) ?_ ?_
  iterate 3 · simp
  ·have:b = 0 ∨ b = 1 ∨ b = 2 ∨ b = 3:=by omega
   rcases this with rfl | rfl | rfl | rfl <;> simp [sameTot,cfV,orc_append,evc_append,itc_append,encS] <;> omega
  iterate 2 · simp (maxDischargeDepth:=8) -implicitDefEqProofs [frzL_append,List.getElem?_cons_zero,cfV,orc_append,evc_append,itc_append,encS]
 ·have e:actM p ps c k (.mk 1 n args thn els) [a] next = { c with trace:=c.trace ++ [⟨0,k,1⟩],todo:=itemsM thn (k + 1) ++ next }:=by simp [actM,vAt,q]
  rw [e]
  simp (maxSteps:=4000000) -implicitDefEqProofs +contextual [-getElem?_pos,List.getElem?_cons_zero,a73,cfV,cfH,encI,encS,ir,q]
  refine Px_fz (One_p true) ?_ ?_ ?_
  iterate 2 · simp (maxDischargeDepth:=8) -implicitDefEqProofs [-getElem?_pos,List.getElem?_cons_zero]
  simp (maxSteps:=4000000) -implicitDefEqProofs +contextual [-getElem?_pos,List.getElem?_cons_zero]
  refine Px_frame [0,1,2,3] [] (event_p (c:=c) (k:=0) (a:=k) (v:=1) hb) ?_ ?_ ?_ ?_ ?_ ?_ ?_
  iterate 6 · first | rfl | simp (maxDischargeDepth:=8) -implicitDefEqProofs [-getElem?_pos,List.getElem?_cons_zero,frzL_append,cfH,cfV]
  rintro r0 hs' ⟨rfl,rfl⟩ _
  simp (maxSteps:=4000000) -implicitDefEqProofs +contextual [-getElem?_pos,List.getElem?_cons_zero,cfV,cfH,killL]
  refine Px_fo (Else_p (k:=k) (op:=1) (n:=n) (args:=args) (thn:=thn) (els:=els) (by omega) (by omega) (by omega)) ?_ ?_ ?_
  iterate 2 · simp (maxDischargeDepth:=8) -implicitDefEqProofs [-getElem?_pos,List.getElem?_cons_zero,encI,encS]
  simp (maxSteps:=4000000) -implicitDefEqProofs +contextual [-getElem?_pos,List.getElem?_cons_zero]
  apply PO_appO
  iterate 9 · first | rfl | omega | (simp -implicitDefEqProofs [-getElem?_pos,List.getElem?_cons_zero,itr_take,itr_flat]; first | done | rfl | omega)
  simp (maxSteps:=4000000) -implicitDefEqProofs +contextual [-getElem?_pos,List.getElem?_cons_zero,itr_take,itr_flat,ir,q]
  refine Px_fo (Then_p (k:=k) (op:=1) (n:=n) (args:=args) (thn:=thn) (els:=els) (by omega) (by omega)) ?_ ?_ ?_
  iterate 2 · simp (maxDischargeDepth:=8) -implicitDefEqProofs [-getElem?_pos,List.getElem?_cons_zero,encI,encS]
  simp (maxSteps:=4000000) -implicitDefEqProofs +contextual [-getElem?_pos,List.getElem?_cons_zero]
  apply PO_appO
  iterate 9 · first | rfl | omega | (simp -implicitDefEqProofs [-getElem?_pos,List.getElem?_cons_zero,itr_take,itr_flat]; first | done | rfl | omega)
  simp (maxSteps:=4000000) -implicitDefEqProofs +contextual [-getElem?_pos,List.getElem?_cons_zero,itr_take,itr_flat,ir,q]
  refine ⟨_,_,?_,.inr (.inr ⟨rfl,rfl⟩)⟩
  refine ret_list [10] ?_ ?_ ?_ (fun b hb=>?_) ?_ ?_
  iterate 3 · simp
  ·have:b = 0 ∨ b = 1 ∨ b = 2 ∨ b = 3:=by omega
   rcases this with rfl | rfl | rfl | rfl <;> simp [sameTot,cfV,orc_append,evc_append,itc_append,encS] <;> omega
  iterate 2 · simp (maxDischargeDepth:=8) -implicitDefEqProofs [frzL_append,List.getElem?_cons_zero,cfV,orc_append,evc_append,itc_append,encS]
theorem act_while {a:Int} (htd:c.todo = next) (hb:c.trace.length < 2 ^ 40) (hx:next.length < 2 ^ 35) (ht:nodesS thn < 2 ^ 30) (hk:0 ≤ k ∧ k < 2 ^ 30) :
  PCa E O 73 [.agg (encP p),pis ps,.agg (cfV c 0 1 2 3),.agg (encI (k,.mk 2 n args thn els)),pis [a],.fs 6 (itr next)] (cfH c) (cfA (actM p ps c k (.mk 2 n args thn els) [a] next)):=by
 have l1:=len_nodesS thn
 have hl9:thn.length + 1 + next.length = thn.length + (next.length + 1):=by omega
 refine PCa.body (F:=a73) rfl rfl rfl ?_
 by_cases q:a = 0
 ·have e:actM p ps c k (.mk 2 n args thn els) [a] next = { c with trace:=c.trace ++ [⟨0,k,0⟩] }:=by simp [actM,vAt,q,htd]
  rw [e]
  simp (maxSteps:=4000000) -implicitDefEqProofs +contextual [-getElem?_pos,List.getElem?_cons_zero,a73,cfV,cfH,encI,encS,ir,q]
  refine Px_fz (One_p false) ?_ ?_ ?_
  iterate 2 · simp (maxDischargeDepth:=8) -implicitDefEqProofs [-getElem?_pos,List.getElem?_cons_zero]
  simp (maxSteps:=4000000) -implicitDefEqProofs +contextual [-getElem?_pos,List.getElem?_cons_zero]
  refine Px_frame [0,1,2,3] [] (event_p (c:=c) (k:=0) (a:=k) (v:=0) hb) ?_ ?_ ?_ ?_ ?_ ?_ ?_
  iterate 6 · first | rfl | simp (maxDischargeDepth:=8) -implicitDefEqProofs [-getElem?_pos,List.getElem?_cons_zero,frzL_append,cfH,cfV]
  rintro r0 hs' ⟨rfl,rfl⟩ _
  simp (maxSteps:=4000000) -implicitDefEqProofs +contextual [-getElem?_pos,List.getElem?_cons_zero,cfV,cfH,killL,ir,q]
  refine ⟨_,_,?_,.inl ⟨rfl,rfl⟩⟩
  refine ret_list [] ?_ ?_ ?_ (fun b hb=>?_) ?_ ?_
  iterate 3 · simp
  ·have:b = 0 ∨ b = 1 ∨ b = 2 ∨ b = 3:=by omega
   rcases this with rfl | rfl | rfl | rfl <;> simp [sameTot,cfV,orc_append,evc_append,itc_append,encS] <;> omega
  iterate 2 · simp (maxDischargeDepth:=8) -implicitDefEqProofs [frzL_append,List.getElem?_cons_zero,cfV,orc_append,evc_append,itc_append,encS]
 ·have e:actM p ps c k (.mk 2 n args thn els) [a] next = { c with trace:=c.trace ++ [⟨0,k,1⟩],todo:=itemsM thn (k + 1) ++ (k,.mk 2 n args thn els) :: next }:=by simp [actM,vAt,q]
  rw [e]
  simp (maxSteps:=4000000) -implicitDefEqProofs +contextual [-getElem?_pos,List.getElem?_cons_zero,a73,cfV,cfH,encI,encS,ir,q]
  refine Px_fz (One_p true) ?_ ?_ ?_
  iterate 2 · simp (maxDischargeDepth:=8) -implicitDefEqProofs [-getElem?_pos,List.getElem?_cons_zero]
  simp (maxSteps:=4000000) -implicitDefEqProofs +contextual [-getElem?_pos,List.getElem?_cons_zero]
  refine Px_frame [0,1,2,3] [] (event_p (c:=c) (k:=0) (a:=k) (v:=1) hb) ?_ ?_ ?_ ?_ ?_ ?_ ?_
  iterate 6 · first | rfl | simp (maxDischargeDepth:=8) -implicitDefEqProofs [-getElem?_pos,List.getElem?_cons_zero,frzL_append,cfH,cfV]
  rintro r0 hs' ⟨rfl,rfl⟩ _
  simp (maxSteps:=4000000) -implicitDefEqProofs +contextual [-getElem?_pos,List.getElem?_cons_zero,cfV,cfH,killL,ir,q]
  refine Px_fo (Then_p (k:=k) (op:=2) (n:=n) (args:=args) (thn:=thn) (els:=els) (by omega) (by omega)) ?_ ?_ ?_
  iterate 2 · simp (maxDischargeDepth:=8) -implicitDefEqProofs [-getElem?_pos,List.getElem?_cons_zero,encI,encS]
  simp (maxSteps:=4000000) -implicitDefEqProofs +contextual [-getElem?_pos,List.getElem?_cons_zero]
  apply PO_appO
  iterate 9 · first | rfl | omega | (simp -implicitDefEqProofs [-getElem?_pos,List.getElem?_cons_zero]; first | done | rfl | omega)
  simp (maxSteps:=4000000) -implicitDefEqProofs +contextual [-getElem?_pos,List.getElem?_cons_zero]
  apply PO_appO
  iterate 9 · first | rfl | omega | (simp -implicitDefEqProofs [-getElem?_pos,List.getElem?_cons_zero,itr_take,itr_flat]; first | done | rfl | omega)
  simp (maxSteps:=4000000) -implicitDefEqProofs +contextual [-getElem?_pos,List.getElem?_cons_zero,itr_take,itr_flat,ir,q]
  refine ⟨_,_,?_,.inr (.inr ⟨rfl,rfl⟩)⟩
  refine ret_list [10] ?_ ?_ ?_ (fun b hb=>?_) ?_ ?_
  iterate 3 · simp
  ·have:b = 0 ∨ b = 1 ∨ b = 2 ∨ b = 3:=by omega
   rcases this with rfl | rfl | rfl | rfl <;> simp [sameTot,cfV,orc_append,evc_append,itc_append,encS,hl9] <;> omega
  iterate 2 · simp (maxDischargeDepth:=8) -implicitDefEqProofs [frzL_append,List.getElem?_cons_zero,cfV,orc_append,evc_append,itc_append,encS,hl9]
end
end Go.Proofs.YtoijnpfpjpefgaaGreat.A.P
/- A text without what this claim does not need: Q7. -/
set_option linter.unusedVariables false
set_option linter.unusedSimpArgs false
set_option maxRecDepth 10000
namespace Go.Proofs.YtoijnpfpjpefgaaGreat.A.P
open Go Go.RowKit
section
variable {A:Nat → Prop} {σ:Nat → Nat} {h bs:PH}
@[simp] theorem Vg_orw {b:Nat} {l:List (Int × Int)} (hA:A b) (hb:h[b]? = some (.cells 2 (orc l))):Vg A σ h bs (.sl 2 b 0 l.length l.length) (.fs 2 (orw l)) ↔ True:=⟨fun _=>trivial,fun _=>Vg_z (Vz_rows hA hb (by decide) (by simp) (by unfold orw; intro r hr; obtain ⟨x,_,rfl⟩:=List.mem_map.1 hr; simp) (fzc_VzL (orc_fzc l)))⟩
@[simp] theorem Vg_evr {b:Nat} {l:List Ev} (hA:A b) (hb:h[b]? = some (.cells 3 (evc l))):Vg A σ h bs (.sl 3 b 0 l.length l.length) (.fs 3 (evr l)) ↔ True:=⟨fun _=>trivial,fun _=>Vg_z (Vz_rows hA hb (by decide) (by simp) (by simp [evr]) (fzc_VzL (evc_fzc l)))⟩
@[simp] theorem Vg_itr {b:Nat} {l:List Itm} (hA:A b) (hb:h[b]? = some (.cells 6 (itc l))):Vg A σ h bs (.sl 6 b 0 l.length l.length) (.fs 6 (itr l)) ↔ True:=⟨fun _=>trivial,fun _=>Vg_z (Vz_rows hA hb (by decide) (by simp) (by unfold itr; intro r hr; obtain ⟨x,_,rfl⟩:=List.mem_map.1 hr; simp) (fzc_VzL (itc_fzc l)))⟩
@[simp] theorem All_t (b:Nat):All b ↔ True:=Iff.rfl
def itNx:Option PB → List Itm → Prop
 | some (.cells z cs),l=>z = 6 ∧ cs.drop 6 = itc l ∧ cs.length = l.length * 6 + 6
 | _,_=>False
@[simp] theorem itNx_c (z:Nat) (cs:List PV) (l:List Itm):itNx (some (.cells z cs)) l ↔ z = 6 ∧ cs.drop 6 = itc l ∧ cs.length = l.length * 6 + 6:=Iff.rfl
@[simp] theorem Vg_itr1 {b:Nat} {l:List Itm} (hA:A b) (hb:itNx h[b]? l):Vg A σ h bs (.sl 6 b 1 l.length l.length) (.fs 6 (itr l)) ↔ True:=⟨fun _=>trivial,fun _=>by
 cases e:h[b]? with
 | none=>rw [e] at hb; exact hb.elim
 | some P =>
  cases P with
  | cells z cs =>
   rw [e] at hb
   obtain ⟨rfl,h1,h2⟩:=hb
   refine Vg_z (Vz_sl hA e (by omega) (by decide) (Nat.le_refl _) (Nat.le_refl _) (by simp) (by unfold itr; intro r hr; obtain ⟨x,_,rfl⟩:=List.mem_map.1 hr; simp) ?_)
   have:(cs.drop (1 * 6)).take (l.length * 6) = (itr l).flatten:=by
    rw [Nat.one_mul,h1]
    exact List.take_of_length_le (by simp)
   rw [this]
   exact fzc_VzL (itc_fzc l)
  | _=>rw [e] at hb; exact hb.elim⟩
def nxt (b:Nat) (l:List Itm):PV:=if l.length = 0 then .fs 6 [] else .sl 6 b 1 l.length l.length
theorem itNx_of {b:Nat} {l:List Itm} (hb:itNx h[b]? l):∃ cs,h[b]? = some (.cells 6 cs) ∧ cs.drop 6 = itc l ∧ cs.length = l.length * 6 + 6:=by
 cases e:h[b]? with
 | none=>rw [e] at hb; exact hb.elim
 | some P =>
  cases P with
  | cells z cs=>rw [e] at hb; obtain ⟨rfl,h1,h2⟩:=hb; exact ⟨cs,rfl,h1,h2⟩
  | _=>rw [e] at hb; exact hb.elim
theorem psl_nxt {b:Nat} {l:List Itm} (hl:l.length < 2 ^ 60) (hb:itNx h[b]? l):psl 6 h (.sl 6 b 0 (l.length + 1) (l.length + 1)) (some (.v (.int .i64 1))) none none = some (nxt b l,h):=by
 obtain ⟨cs,e,_,e2⟩:=itNx_of hb
 have ab:abounds (l.length + 1) (l.length + 1) (some (.int .i64 1)) none none = some (1,l.length + 1,l.length + 1):=by
  simp [abounds,abnd]
  rw [if_pos (by omega)]
  rfl
 unfold psl
 simp only [pvO,e]
 rw [ab]
 simp only
 rw [if_pos (by refine ⟨trivial,by decide,trivial,by omega,Nat.le_refl _⟩),if_neg (by omega)]
 unfold nxt
 by_cases h0:l.length = 0
 ·rw [if_pos (by omega),if_pos h0]; rfl
 ·rw [if_neg (by omega),if_pos trivial,if_neg h0]; rfl
@[simp] theorem plen_nxt (b:Nat) (l:List Itm):plen (nxt b l) = some l.length:=by
 unfold nxt
 split
 ·rename_i h; rw [h]; rfl
 ·rfl
@[simp] theorem pfirst_nxt {b:Nat} {l:List Itm} (hb:itNx h[b]? l):pfirst h 6 l.length (nxt b l) = some (itc l):=by
 obtain ⟨cs,e,e1,e2⟩:=itNx_of hb
 unfold nxt
 split
 ·rename_i h0
  have:l = []:=List.length_eq_zero_iff.1 h0
  subst this
  rfl
 ·unfold pfirst
  simp only [e]
  rw [if_pos ⟨trivial,by omega,Nat.le_refl _,Nat.le_refl _⟩,Nat.one_mul,e1,List.take_of_length_le (by simp)]
@[simp] theorem pvalid_nxt {b:Nat} {l:List Itm} (hb:itNx h[b]? l):pvalid h (nxt b l) = true:=by
 obtain ⟨cs,e,e1,e2⟩:=itNx_of hb
 unfold nxt
 split
 ·rfl
 ·unfold pvalid
  simp only [e]
  exact decide_eq_true (by omega)
@[simp] theorem Vg_nxt {b:Nat} {l:List Itm} (hA:A b) (hb:itNx h[b]? l):Vg A σ h bs (nxt b l) (.fs 6 (itr l)) ↔ True:=⟨fun _=>trivial,fun _=>by
 unfold nxt
 split
 ·rename_i h0
  have:l = []:=List.length_eq_zero_iff.1 h0
  subst this
  exact (Vg_fs _ _).2 trivial
 ·exact (Vg_itr1 hA hb).2 trivial⟩
@[simp] theorem Vg_nxtS {b i:Nat} {l:List Itm} (hs:σ i = b) (k:okC h[b]? bs[i]?):Vg A σ h bs (nxt b l) (nxt i l) ↔ True:=⟨fun _=>trivial,fun _=>by
 unfold nxt
 split
 ·exact (Vg_fs _ _).2 trivial
 ·exact (Vg_slS hs k).2 trivial⟩
def oneL (h:PH):Option PB → List Int → Prop
 | some (.cells z [.sl 1 b 0 n n']),s=>z = 1 ∧ n = s.length ∧ n' = s.length ∧ h[b]? = some (.cells 1 (s.map pi))
 | _,_=>False
@[simp] theorem oneL_c (z b n n':Nat) (s:List Int):oneL h (some (.cells z [.sl 1 b 0 n n'])) s ↔ z = 1 ∧ n = s.length ∧ n' = s.length ∧ h[b]? = some (.cells 1 (s.map pi)):=Iff.rfl
@[simp] theorem Vg_one {b:Nat} {s:List Int} (hb:oneL h h[b]? s):Vg All σ h bs (.sl 1 b 0 1 1) (encL [s]) ↔ True:=⟨fun _=>trivial,fun _=>by
 cases e:h[b]? with
 | none=>rw [e] at hb; exact hb.elim
 | some P =>
  cases P with
  | cells z cs =>
   rw [e] at hb
   unfold oneL at hb
   split at hb
   ·rename_i e2
    cases e2
    obtain ⟨rfl,rfl,rfl,e3⟩:=hb
    refine Vg_z (Vz_sl trivial e rfl (by decide) (Nat.le_refl _) (Nat.le_refl _) (by simp) (by simp) ?_)
    simp
    exact Vz_pis trivial e3
   ·exact hb.elim
  | _=>rw [e] at hb; exact hb.elim⟩
end
def cfF (c:CfM):List PV:=[pi c.en,pis c.store,.fs 2 (orw c.outs),.fs 3 (evr c.trace),pi c.cost,pi c.used,pi c.wh,pi c.fuel,.fs 6 (itr c.todo),pb c.over]
theorem Ended_p (c:CfM):Fz E O 33 [.agg (cfF c)] (pb (c.over || decide (c.todo.length = 0))):=by
 refine Fz.body (F:=a33) rfl rfl rfl rfl ?_
 cases h:c.over
 ·simp (maxSteps:=4000000) -implicitDefEqProofs [-getElem?_pos,List.getElem?_cons_zero,a33,cfF,h]
 ·simp (maxSteps:=4000000) -implicitDefEqProofs [-getElem?_pos,List.getElem?_cons_zero,a33,cfF,h]
theorem evc_flat:∀ l:List Ev,flatPL (evc l) = true
 | []=>rfl
 | a :: l=>by rw [evc_cons]; simp [flatPL,flatP,evc_flat l]
structure InvR (p:Prg) (ps:List Int) (c:CfM):Prop extends Inv p ps c where
 okt:∀ it ∈ c.todo,okS it.2
 len:(c.todo.length:Int) + 500 * c.fuel ≤ 2 ^ 30
def cfS (c:CfM) (r:PV) (h:PH):Prop :=
 (r = .agg (cfV c 0 1 2 3) ∧ h = [.cells 1 (c.store.map pi),.cells 2 (orc c.outs),.cells 3 (evc c.trace),.cells 6 (itc c.todo)]) ∨
 (r = .agg (cfV c 0 1 2 4) ∧ h = [.cells 1 (c.store.map pi),.cells 2 (orc c.outs),.cells 3 (evc c.trace),.dead,.cells 6 (itc c.todo)]) ∨
 (r = .agg (cfV c 4 1 2 5) ∧ h = [.dead,.cells 2 (orc c.outs),.cells 3 (evc c.trace),.dead,.cells 1 (c.store.map pi),.cells 6 (itc c.todo)])
def HL (p:Prg) (c:CfM) (k:Int) (s:Stm) (next:List Itm) (i:Nat):PH :=
  [.cells 1 (c.store.map pi),.cells 2 (orc c.outs),.cells 3 (evc (c.trace ++ evL p.w p.vars [c.store] (s.args.take i))),.cells 6 (itc ((k,s) :: next)),
   .cells 10 (cfV { c with trace:=c.trace ++ evL p.w p.vars [c.store] (s.args.take i),cost:=c.cost + 1 + nodesL (s.args.take i),fuel:=c.fuel - 1,todo:=next } 0 1 2 5),
   .cells 6 (itc next),.cells 6 (encI (k,s)),.cells 1 ((valL p.w p.vars [c.store] (s.args.take i)).map pi),.cells 3 (encP p),
   .cells 10 [pi 0,.v (.slice none 0 0),.v (.slice none 0 0),.v (.slice none 0 0),pi 0,pi 0,pi 0,pi 0,.v (.slice none 0 0),pb false]]
def FL (ps:List Int) (next:List Itm) (i:Nat):List (Nat × PV):=[(1,pis ps),(3,.ref 8 0 3),(5,.ref 4 0 10),(6,.ref 9 0 10),(7,.ref 6 0 6),(8,nxt 3 next),(9,.sl 1 7 0 i i),(10,pi i)]
end Go.Proofs.YtoijnpfpjpefgaaGreat.A.P
/- A text without what this claim does not need: Q8. -/
set_option linter.unusedVariables false
set_option linter.unusedSimpArgs false
set_option maxRecDepth 10000
set_option maxHeartbeats 1000000
namespace Go.Proofs.YtoijnpfpjpefgaaGreat.A.P
open Go Go.RowKit
theorem valL_snoc {w:Int} {V:List Vr} {S:List (List Int)} {l:List Exp} {i:Nat} {y:Exp} (h:l[i]? = some y):valL w V S (l.take (i + 1)) = valL w V S (l.take i) ++ [valE w V S y]:=by
 rw [valL_take,valL_take,List.take_add_one,valL_get,h]; rfl
theorem evc_take (l:List Ev):(evc l).take (l.length * 3) = evc l:=List.take_of_length_le (by simp)
def SI (p:Prg) (ps:List Int) (c:CfM) (k:Int) (s:Stm) (next:List Itm) (i:Nat) (fr:PF) (h:PH):Prop:=h = HL p c k s next i ∧ fr.get 1 = pis ps ∧ fr.get 3 = .ref 8 0 3 ∧ fr.get 5 = .ref 4 0 10 ∧ fr.get 6 = .ref 9 0 10 ∧ fr.get 7 = .ref 6 0 6 ∧ fr.get 8 = nxt 3 next ∧ fr.get 9 = .sl 1 7 0 i i ∧ fr.get 10 = pi i
theorem SI_FL (p:Prg) (ps:List Int) (c:CfM) (k:Int) (s:Stm) (next:List Itm) (i:Nat):SI p ps c k s next i (PF.sel (FL ps next i)) (HL p c k s next i):=by simp [SI,FL]
theorem act_p {p:Prg} {ps:List Int} {c b:CfM} {k op n:Int} {args:List Exp} {thn els:List Stm} {next:List Itm} (I:InvR p ps c) (ht:c.todo = (k,.mk op n args thn els) :: next) (hf:c.fuel ≠ 0) (hb:begunM p c (.mk op n args thn els) next = b) :
  PCa E O 73 [.agg (encP p),pis ps,.agg (cfV b 0 1 2 3),.agg (encI (k,.mk op n args thn els)),pis (valL p.w p.vars [c.store] args),.fs 6 (itr next)] (cfH b) (cfA (actM p ps b k (.mk op n args thn els) (valL p.w p.vars [c.store] args) next)):=by
 obtain ⟨hk1,hk2,hrow,hnd⟩:=I.todo (k,.mk op n args thn els) (by rw [ht]; simp)
 obtain ⟨hall,hrt,hre,hrc⟩:=row_cases hrow
 simp only at hk1 hk2 hnd
 rw [nodesSt] at hnd
 have pa:=nodesL_pos args
 have pt:=nodesS_pos thn
 have pe:=nodesS_pos els
 have hSO:SOk p.w p.vars [c.store]:=fun t ht=>by simp at ht; subst ht; exact I.store
 have hvw:=vals_word (S:=[c.store]) I.head hSO args (fun e he=>(hall e he).1)
 have evb:=evL_bound (w:=p.w) (V:=p.vars) (S:=[c.store]) (l:=args) (fun e _=>evE_bound e)
 have hfu:=I.fuel
 have htr:=I.tr
 have hou:=I.ou
 have hus:=I.used
 have hcn:=I.tot
 have hcp:=countSt_pos (.mk op n args thn els)
 have hp:=pow_w (w:=p.w) ⟨(isHeading_w I.head).1,(isHeading_w I.head).2.1⟩
 have hln:=I.len
 rw [ht] at hln
 simp only [List.length_cons] at hln
 have e0:b.store = c.store:=by rw [← hb]; rfl
 have e1:b.trace = c.trace ++ evL p.w p.vars [c.store] args:=by rw [← hb]; rfl
 have e4:b.todo = next:=by rw [← hb]; rfl
 have e5:b.outs = c.outs:=by rw [← hb]; rfl
 have hS:isStore p.w p.vars b.store = true:=by rw [e0]; exact I.store
 have hbt:b.trace.length < 2 ^ 40:=by rw [e1,List.length_append]; omega
 have hvl:(valL p.w p.vars [c.store] args).length = args.length:=valL_length args
 have hword:∀ a ∈ valL p.w p.vars [c.store] args,0 ≤ a ∧ a < 2 ^ 40:=fun a ha=>by
  obtain ⟨i,hi,e⟩:=List.getElem_of_mem ha
  have:=hvw i (by omega)
  have e2:vAt (valL p.w p.vars [c.store] args) i = a:=by unfold vAt; rw [List.getElem?_eq_getElem hi,e]; rfl
  rw [e2] at this
  omega
 generalize valL p.w p.vars [c.store] args = vals at *
 have one:args.length = 1 → ∃ a,vals = [a]:=fun h=>List.length_eq_one_iff.1 (by omega)
 rcases hrc with ⟨rfl,hn,hl⟩ | ⟨rfl,x,rfl⟩ | ⟨rfl,x,rfl⟩ | ⟨rfl,x,rfl⟩ | ⟨rfl,hn,hl⟩ | ⟨ho,x,rfl⟩
 ·refine act_set I.head hS hbt hn ?_ hword
  rcases hl with ⟨h1,x,rfl⟩ | ⟨h1,x,y,rfl⟩
  ·exact .inl ⟨h1,one rfl⟩
  ·refine .inr ⟨h1,?_⟩
   match vals,hvl with
   | [a,b],_=>exact ⟨a,b,rfl⟩
 ·obtain ⟨a,rfl⟩:=one rfl
  exact act_if hbt (by omega) (by omega) (by omega) (by omega)
 ·obtain ⟨a,rfl⟩:=one rfl
  exact act_while e4 hbt (by omega) (by omega) (by omega)
 ·obtain ⟨a,rfl⟩:=one rfl
  exact act_out (by rw [e5]; omega)
 ·refine act_pick I.head hS hbt hn (by omega) ?_ hword
  rcases hl with ⟨h1,rfl⟩ | ⟨h1,x,rfl⟩
  ·exact .inl ⟨h1,List.length_eq_zero_iff.1 (by simpa using hvl)⟩
  ·exact .inr ⟨h1,one rfl⟩
 ·obtain ⟨a,rfl⟩:=one rfl
  exact act_need ho
theorem Step_p {p:Prg} {ps:List Int} {c:CfM} (I:InvR p ps c):PCa E O 34 [.agg (encP p),pis ps,.agg (cfV c 0 1 2 3)] (cfH c) (cfS (stepM p ps c)):=by
 refine PCa.body (F:=a34) rfl rfl rfl ?_
 cases hq:(c.over || decide (c.todo.length = 0))
 case true =>
  have e:stepM p ps c = c:=by
   simp only [Bool.or_eq_true,decide_eq_true_eq] at hq
   unfold stepM
   by_cases ho:c.over = true
   ·rw [if_pos ho]
   ·rw [if_neg ho]
    cases ht:c.todo with
    | nil=>rfl
    | cons it next=>rw [ht] at hq; simp at hq; exact absurd hq ho
  rw [e]
  simp (maxSteps:=4000000) -implicitDefEqProofs +contextual [-getElem?_pos,List.getElem?_cons_zero,a34,cfV,cfH]
  refine Px_fzF (Ended_p c) ?_ ?_ ?_
  iterate 2 · simp (maxDischargeDepth:=8) -implicitDefEqProofs [-getElem?_pos,List.getElem?_cons_zero,cfF]
  have hq2:c.over = true ∨ c.todo = []:=by simpa using hq
  simp (maxSteps:=4000000) -implicitDefEqProofs +contextual [-getElem?_pos,List.getElem?_cons_zero,hq2]
  refine ⟨_,_,?_,.inl ⟨rfl,rfl⟩⟩
  refine ret_list [] ?_ ?_ ?_ (fun b hb=>?_) ?_ ?_
  iterate 3 · simp
  ·have:b = 0 ∨ b = 1 ∨ b = 2 ∨ b = 3:=by omega
   rcases this with rfl | rfl | rfl | rfl <;> simp [sameTot,cfV] <;> omega
  iterate 2 · simp (maxDischargeDepth:=8) -implicitDefEqProofs [frzL_append,List.getElem?_cons_zero,cfV]
 simp only [Bool.or_eq_false_iff,decide_eq_false_iff_not] at hq
 obtain ⟨ho,hl⟩:=hq
 cases ht:c.todo with
 | nil=>rw [ht] at hl; exact absurd rfl hl
 | cons it next =>
 obtain ⟨k,s⟩:=it
 obtain ⟨op,n,args,thn,els⟩:=s
 have h6:(next.length + 1) * 6 = next.length * 6 + 1 + 1 + 1 + 1 + 1 + 1:=by omega
 by_cases hf:c.fuel = 0
 ·have e:stepM p ps c = stopM c 3 k:=by
   unfold stepM
   rw [if_neg (by simp [ho]),ht]
   show (if c.fuel = 0 then _ else _) = _
   rw [if_pos hf]
  rw [e]
  simp (maxSteps:=4000000) -implicitDefEqProofs +contextual [-getElem?_pos,List.getElem?_cons_zero,a34,cfV,cfH]
  refine Px_fzF (Ended_p c) ?_ ?_ ?_
  iterate 2 · simp (maxDischargeDepth:=8) -implicitDefEqProofs [-getElem?_pos,List.getElem?_cons_zero,cfF]
  simp (maxSteps:=4000000) -implicitDefEqProofs +contextual [-getElem?_pos,List.getElem?_cons_zero,ho,hf,ht,encS,encP,h6]
  refine Px_frame [0,1,2,3] [] (stop_p (c:=c) (e:=3) (n:=k)) ?_ ?_ ?_ ?_ ?_ ?_ ?_
  iterate 6 · first | rfl | simp (maxDischargeDepth:=8) -implicitDefEqProofs [-getElem?_pos,List.getElem?_cons_zero,frzL_append,cfH,cfV,ht,encS,ho,hf,h6]
  rintro r0 hs' ⟨rfl,rfl⟩ _
  simp (maxSteps:=4000000) -implicitDefEqProofs +contextual [-getElem?_pos,List.getElem?_cons_zero,cfV,cfH,killL,ht,ho,hf,encS,h6]
  refine ⟨_,_,?_,.inr (.inl ⟨rfl,rfl⟩)⟩
  refine ret_list [8] ?_ ?_ ?_ (fun b hb=>?_) ?_ ?_
  iterate 3 · simp
  ·have:b = 0 ∨ b = 1 ∨ b = 2 ∨ b = 3:=by omega
   rcases this with rfl | rfl | rfl | rfl <;> simp [sameTot,cfV,h6] <;> omega
  iterate 2 · simp (maxDischargeDepth:=8) -implicitDefEqProofs [frzL_append,List.getElem?_cons_zero,cfV,h6]
 have hfu:=I.fuel
 have hco:=I.co
 have htr:=I.tr
 have w1:IntKind.i64.wrap (c.fuel - 1) = c.fuel - 1:=wrap_in ⟨by omega,by omega⟩
 have w2:IntKind.i64.wrap (c.cost + 1) = c.cost + 1:=wrap_in ⟨by omega,by omega⟩
 have hnl:=I.len
 rw [ht] at hnl
 simp only [List.length_cons] at hnl
 simp (maxSteps:=4000000) -implicitDefEqProofs +contextual [-getElem?_pos,List.getElem?_cons_zero,a34,cfV,cfH]
 refine Px_fzF (Ended_p c) ?_ ?_ ?_
 iterate 2 · simp (maxDischargeDepth:=8) -implicitDefEqProofs [-getElem?_pos,List.getElem?_cons_zero,cfF]
 have hl60:next.length < 2 ^ 60:=by omega
 simp (maxSteps:=4000000) -implicitDefEqProofs +contextual [-getElem?_pos,List.getElem?_cons_zero,-psl,psl_nxt hl60,ho,hf,ht,encS,encP,h6,w1,w2]
 apply PO_appO
 iterate 9 · first | rfl | omega | (simp -implicitDefEqProofs [-getElem?_pos,List.getElem?_cons_zero,-plen,-pfirst,-pvalid]; first | done | rfl | omega)
 simp (maxSteps:=4000000) -implicitDefEqProofs +contextual [-getElem?_pos,List.getElem?_cons_zero,ho,hf,ht,encS,encP,h6,w1,w2]
 obtain ⟨hk1,hk2,hrow,hnd⟩:=I.todo (k,.mk op n args thn els) (by rw [ht]; simp)
 obtain ⟨hall,hrt,hre,hrc⟩:=row_cases hrow
 have hokS:=I.okt (k,.mk op n args thn els) (by rw [ht]; simp)
 simp only at hk1 hk2 hnd hokS
 rw [nodesSt] at hnd
 rw [okS] at hokS
 have hoka:=hokS.2.2.2.2.2.1
 have pa:=nodesL_pos args
 have pt:=nodesS_pos thn
 have pe:=nodesS_pos els
 have hSO:SOk p.w p.vars [c.store]:=fun t ht=>by simp at ht; subst ht; exact I.store
 refine Pk_forG (SI p ps c k (.mk op n args thn els) next) args.length (Gh_list (h2:=HL p c k (.mk op n args thn els) next 0) [5,8,7,9,4,6] (FL ps next 0) ?_ ?_ ?_ ?_ ?_ ?_) (SI_FL _ _ _ _ _ _ _) ?_
 ·simp [HL,FL,cfV,encI,encS,encP,Stm.args,evL,valL,nodesL,ho,h6]
 iterate 2 · simp
 ·intro b hb
  have:b = 0 ∨ b = 1 ∨ b = 2 ∨ b = 3:=by omega
  rcases this with rfl | rfl | rfl | rfl <;> simp [sameTot,HL,FL,cfV,encI,encS,encP,Stm.args,evL,valL,nodesL,ho,h6] <;> omega
 iterate 2 · simp (maxDischargeDepth:=8) -implicitDefEqProofs [frzL_append,List.getElem?_cons_zero,HL,FL,cfV,encI,encS,encP,Stm.args,evL,valL,nodesL,ho,h6]
 intro i fr h hi hI
 obtain ⟨rfl,f1,f3,f5,f6,f7,f8,f9,f10⟩:=hI
 by_cases h:i < args.length
 ·obtain ⟨y,hy⟩:∃ y,args[i]? = some y:=⟨_,List.getElem?_eq_getElem h⟩
  have hym:=List.mem_of_getElem? hy
  obtain ⟨hfy,hny⟩:=hall y hym
  have hoky:=okEs_mem hoka y hym
  have hal:=nodesL_len args
  have t1:=nodesL_take hy
  have t2:=nodesL_take_le args i
  have t3:=nodesL_take_le args (i + 1)
  have t4:=evL_take_le (w:=p.w) (V:=p.vars) (S:=[c.store]) args i
  have t5:=evE_bound (w:=p.w) (V:=p.vars) (S:=[c.store]) y
  have hvl:(valL p.w p.vars [c.store] (args.take i)).length = i:=by rw [valL_length,List.length_take]; omega
  have w3:IntKind.i64.wrap (c.cost + 1 + nodesL (args.take i) + nodesE y) = c.cost + 1 + nodesL (args.take (i + 1)):=by rw [t1,← Int.add_assoc]; exact wrap_in ⟨by omega,by omega⟩
  have w4:IntKind.i64.wrap ((i:Int) + 1) = ((i + 1:Nat):Int):=wrap_in ⟨by omega,by omega⟩
  simp (maxSteps:=4000000) -implicitDefEqProofs +contextual [-getElem?_pos,List.getElem?_cons_zero,f1,f3,f5,f6,f7,f8,f9,f10,h,hy,HL,cfV,encP,encI,encS,Stm.args,ho,h6]
  refine Px_fzF (Value_p (S:=[c.store]) I.head hSO hoky hfy) ?_ ?_ ?_
  iterate 2 · simp (maxDischargeDepth:=8) -implicitDefEqProofs [-getElem?_pos,List.getElem?_cons_zero]
  simp (maxSteps:=4000000) -implicitDefEqProofs +contextual [-getElem?_pos,List.getElem?_cons_zero]
  apply PO_appO
  iterate 9 · first | rfl | omega | (simp -implicitDefEqProofs [-getElem?_pos,List.getElem?_cons_zero,hvl]; first | done | rfl | omega)
  simp (maxSteps:=4000000) -implicitDefEqProofs +contextual [-getElem?_pos,List.getElem?_cons_zero,f1,f3,f5,f6,f7,f8,f9,f10]
  refine Px_fz (Nodes_p hoky (by omega)) ?_ ?_ ?_
  iterate 2 · simp (maxDischargeDepth:=8) -implicitDefEqProofs [-getElem?_pos,List.getElem?_cons_zero]
  simp (maxSteps:=4000000) -implicitDefEqProofs +contextual [-getElem?_pos,List.getElem?_cons_zero,f1,f3,f5,f6,f7,f8,f9,f10,w3]
  refine Px_foF (Events_p (s:=c.store) I.head I.store hoky hfy (by omega)) ?_ ?_ ?_
  iterate 2 · simp (maxDischargeDepth:=8) -implicitDefEqProofs [-getElem?_pos,List.getElem?_cons_zero,evc_flat]
  simp (maxSteps:=4000000) -implicitDefEqProofs +contextual [-getElem?_pos,List.getElem?_cons_zero]
  apply PO_appO
  iterate 9 · first | rfl | omega | (simp -implicitDefEqProofs [-getElem?_pos,List.getElem?_cons_zero,evc_take]; first | done | rfl | omega)
  simp (maxSteps:=4000000) -implicitDefEqProofs +contextual [-getElem?_pos,List.getElem?_cons_zero,f1,f3,f5,f6,f7,f8,f9,f10,w4,evc_take]
  refine .forG h (Gh_list (h2:=HL p c k (.mk op n args thn els) next (i + 1)) [4,5,6,7,8,9] (FL ps next (i + 1)) ?_ ?_ ?_ ?_ ?_ ?_) (SI_FL _ _ _ _ _ _ _)
  ·simp [HL,FL,cfV,encI,encS,encP,Stm.args,ho,h6,evL_take hy,valL_snoc hy,evc_append,Nat.add_assoc,f1,f3,f5,f6,f7,f8]
  iterate 2 · simp
  ·intro b hb
   have:b = 0 ∨ b = 1 ∨ b = 2 ∨ b = 3:=by omega
   rcases this with rfl | rfl | rfl | rfl <;> simp [sameTot,HL,FL,cfV,encI,encS,encP,Stm.args,ho,h6,evL_take hy,valL_snoc hy,evc_append,Nat.add_assoc,f1,f3,f5,f6,f7,f8] <;> omega
  iterate 2 · simp (maxDischargeDepth:=8) -implicitDefEqProofs [frzL_append,List.getElem?_cons_zero,HL,FL,cfV,encI,encS,encP,Stm.args,ho,h6,evL_take hy,valL_snoc hy,evc_append,Nat.add_assoc,f1,f3,f5,f6,f7,f8]
 ·obtain rfl:i = args.length:=by omega
  obtain ⟨b,hb⟩:∃ b,begunM p c (.mk op n args thn els) next = b:=⟨_,rfl⟩
  have e:stepM p ps c = actM p ps b k (.mk op n args thn els) (valL p.w p.vars [c.store] args) next:=by
   unfold stepM
   rw [if_neg (by simp [ho]),ht,← hb]
   show (if c.fuel = 0 then _ else _) = _
   rw [if_neg hf]; rfl
  have hact:=act_p I ht hf hb
  have hvl:(valL p.w p.vars [c.store] args).length = args.length:=valL_length args
  rw [e]
  generalize actM p ps b k (.mk op n args thn els) (valL p.w p.vars [c.store] args) next = c' at hact ⊢
  generalize hvs:valL p.w p.vars [c.store] args = vals at hact
  subst hb
  simp (maxSteps:=4000000) -implicitDefEqProofs +contextual [-getElem?_pos,List.getElem?_cons_zero,f1,f3,f5,f6,f7,f8,f9,f10,HL,cfV,encP,encI,encS,Stm.args,ho,h6]
  rw [hvs]
  rw [← hvl,hvs]
  refine Px_frame [0,1,2,5] [3,7] hact ?_ ?_ ?_ ?_ ?_ ?_ ?_
  iterate 6 · first | rfl | simp (maxDischargeDepth:=8) -implicitDefEqProofs [-getElem?_pos,List.getElem?_cons_zero,frzL_append,cfH,cfV,encP,encI,encS,ho,h6,begunM,Stm.args,f1,f8]
  rintro r0 hs' (⟨rfl,rfl⟩ | ⟨rfl,rfl⟩ | ⟨rfl,rfl⟩) _
  ·simp (maxSteps:=4000000) -implicitDefEqProofs +contextual [-getElem?_pos,List.getElem?_cons_zero,cfV,cfH,killL,f6,h6]
   refine ⟨_,_,?_,.inr (.inl ⟨rfl,rfl⟩)⟩
   refine ret_list [5] ?_ ?_ ?_ (fun b hb=>?_) ?_ ?_
   iterate 3 · simp
   ·have:b = 0 ∨ b = 1 ∨ b = 2 ∨ b = 3:=by omega
    rcases this with rfl | rfl | rfl | rfl <;> simp [sameTot,cfV,h6] <;> omega
   iterate 2 · simp (maxDischargeDepth:=8) -implicitDefEqProofs [frzL_append,List.getElem?_cons_zero,cfV,h6]
  ·simp (maxSteps:=4000000) -implicitDefEqProofs +contextual [-getElem?_pos,List.getElem?_cons_zero,cfV,cfH,killL,f6,h6]
   refine ⟨_,_,?_,.inr (.inr ⟨rfl,rfl⟩)⟩
   refine ret_list [10,5] ?_ ?_ ?_ (fun b hb=>?_) ?_ ?_
   iterate 3 · simp
   ·have:b = 0 ∨ b = 1 ∨ b = 2 ∨ b = 3:=by omega
    rcases this with rfl | rfl | rfl | rfl <;> simp [sameTot,cfV,h6] <;> omega
   iterate 2 · simp (maxDischargeDepth:=8) -implicitDefEqProofs [frzL_append,List.getElem?_cons_zero,cfV,h6]
  ·simp (maxSteps:=4000000) -implicitDefEqProofs +contextual [-getElem?_pos,List.getElem?_cons_zero,cfV,cfH,killL,f6,h6]
   refine ⟨_,_,?_,.inr (.inl ⟨rfl,rfl⟩)⟩
   refine ret_list [10] ?_ ?_ ?_ (fun b hb=>?_) ?_ ?_
   iterate 3 · simp
   ·have:b = 0 ∨ b = 1 ∨ b = 2 ∨ b = 3:=by omega
    rcases this with rfl | rfl | rfl | rfl <;> simp [sameTot,cfV,h6] <;> omega
   iterate 2 · simp (maxDischargeDepth:=8) -implicitDefEqProofs [frzL_append,List.getElem?_cons_zero,cfV,h6]
end Go.Proofs.YtoijnpfpjpefgaaGreat.A.P
/- A text without what this claim does not need: Q9. -/
set_option linter.unusedVariables false
set_option linter.unusedSimpArgs false
set_option maxRecDepth 10000
set_option maxHeartbeats 1000000
namespace Go.Proofs.YtoijnpfpjpefgaaGreat.A.P
open Go Go.RowKit
def leftM (c:CfM):Nat:=if endedM c then 0 else c.fuel.toNat + 1
theorem left_step {p:Prg} {ps:List Int} {c:CfM} (hf:0 ≤ c.fuel) (he:endedM c = false):leftM (stepM p ps c) < leftM c ∧ finM p ps (stepM p ps c) = finM p ps c:=by
 cases ho:(stepM p ps c).over with
 | true =>
  have h1:endedM (stepM p ps c) = true:=by simp [endedM,ho]
  refine ⟨?_,?_⟩
  ·unfold leftM; rw [h1,he]; simp
  ·rw [fin_stop (c:=c) (by simp [he,ho])]
   exact ended_iter h1 _
 | false =>
  obtain ⟨h1,h2,h3⟩:=fin_go (p:=p) (ps:=ps) hf (c:=c) (by simp [he,ho])
  refine ⟨?_,h1⟩
  unfold leftM
  rw [he,h2]
  split
  ·simp
  ·simp; omega
theorem fin_ended {p:Prg} {ps:List Int} {c:CfM} (he:endedM c = true):finM p ps c = c:=ended_iter he _
theorem items_okS:∀ {l:List Stm} {k:Int},okSs l → ∀ it ∈ itemsM l k,okS it.2
 | [],k,_,it,h=>by simp [itemsM] at h
 | .mk op n args thn els :: l,k,ok,it,h=>by
  rw [itemsM] at h
  rcases List.mem_cons.1 h with rfl | h
  ·exact ok.1
  ·exact items_okS ok.2 it h
theorem act_todo (p:Prg) (ps:List Int) (b:CfM) (k op n:Int) (args:List Exp) (thn els:List Stm) (vals:List Int) (next:List Itm) (hb:b.todo = next) :
  (actM p ps b k (.mk op n args thn els) vals next).todo = [] ∨ (actM p ps b k (.mk op n args thn els) vals next).todo = next ∨ (actM p ps b k (.mk op n args thn els) vals next).todo = itemsM els (k + 1 + countS thn) ++ next ∨ (actM p ps b k (.mk op n args thn els) vals next).todo = itemsM thn (k + 1) ++ next ∨ (actM p ps b k (.mk op n args thn els) vals next).todo = itemsM thn (k + 1) ++ (k,.mk op n args thn els) :: next:=by
 unfold actM
 simp only
 by_cases o0:op = 0
 ·rw [if_pos o0]; exact .inr (.inl hb)
 rw [if_neg o0]
 by_cases o1:op = 1
 ·rw [if_pos o1]
  by_cases v:vAt vals 0 = 0
  ·rw [if_pos v]; exact .inr (.inr (.inl (by rw [if_pos v])))
  ·rw [if_neg v]; exact .inr (.inr (.inr (.inl (by rw [if_neg v]))))
 rw [if_neg o1]
 by_cases o2:op = 2
 ·rw [if_pos o2]
  by_cases v:vAt vals 0 = 0
  ·rw [if_pos v]; exact .inr (.inl (by rw [if_pos v]))
  ·rw [if_neg v]; exact .inr (.inr (.inr (.inr (by rw [if_neg v]))))
 rw [if_neg o2]
 by_cases o3:op = 3
 ·rw [if_pos o3]; exact .inr (.inl hb)
 rw [if_neg o3]
 by_cases o4:op = 4
 ·rw [if_pos o4]
  by_cases v:ps.length ≤ b.used
  ·rw [if_pos v]; exact .inl rfl
  ·rw [if_neg v]; exact .inr (.inl hb)
 rw [if_neg o4]
 by_cases o5:op = 5
 ·rw [if_pos o5]
  by_cases v:vAt vals 0 = 0
  ·rw [if_pos v]; exact .inl rfl
  ·rw [if_neg v]; exact .inr (.inl hb)
 rw [if_neg o5]
 by_cases v:vAt vals 0 = 0
 ·rw [if_pos v]; exact .inl rfl
 ·rw [if_neg v]; exact .inr (.inl hb)
theorem step_todo (p:Prg) (ps:List Int) (c:CfM):((stepM p ps c).todo = c.todo ∧ (stepM p ps c).fuel = c.fuel) ∨ ((stepM p ps c).todo = [] ∧ ((stepM p ps c).fuel = c.fuel ∨ (stepM p ps c).fuel = c.fuel - 1)) ∨
  ∃ k op n args thn els next,c.todo = (k,.mk op n args thn els) :: next ∧ (stepM p ps c).fuel = c.fuel - 1 ∧
   ((stepM p ps c).todo = next ∨ (stepM p ps c).todo = itemsM els (k + 1 + countS thn) ++ next ∨ (stepM p ps c).todo = itemsM thn (k + 1) ++ next ∨ (stepM p ps c).todo = itemsM thn (k + 1) ++ (k,.mk op n args thn els) :: next):=by
 by_cases ho:c.over = true
 ·have e:stepM p ps c = c:=by unfold stepM; rw [if_pos ho]
  rw [e]; exact .inl ⟨rfl,rfl⟩
 ·cases ht:c.todo with
  | nil =>
   have e:stepM p ps c = c:=ended_step (by simp [endedM,ht])
   rw [e]; exact .inl ⟨ht,rfl⟩
  | cons it next =>
   obtain ⟨k,s⟩:=it
   obtain ⟨op,n,args,thn,els⟩:=s
   by_cases hf:c.fuel = 0
   ·have e:stepM p ps c = stopM c 3 k:=by
     unfold stepM
     rw [if_neg ho,ht]
     show (if c.fuel = 0 then _ else _) = _
     rw [if_pos hf]
    rw [e]; exact .inr (.inl ⟨rfl,.inl rfl⟩)
   ·have e:stepM p ps c = actM p ps (begunM p c (.mk op n args thn els) next) k (.mk op n args thn els) (valL p.w p.vars [c.store] args) next:=by
     unfold stepM
     rw [if_neg ho,ht]
     show (if c.fuel = 0 then _ else _) = _
     rw [if_neg hf]; rfl
    have ef:(stepM p ps c).fuel = c.fuel - 1:=by rw [e,act_fuel]; rfl
    rcases act_todo p ps (begunM p c (.mk op n args thn els) next) k op n args thn els (valL p.w p.vars [c.store] args) next rfl with q | q | q | q | q
    ·exact .inr (.inl ⟨by rw [e,q],.inr ef⟩)
    ·exact .inr (.inr ⟨k,op,n,args,thn,els,next,rfl,ef,.inl (by rw [e,q])⟩)
    ·exact .inr (.inr ⟨k,op,n,args,thn,els,next,rfl,ef,.inr (.inl (by rw [e,q]))⟩)
    ·exact .inr (.inr ⟨k,op,n,args,thn,els,next,rfl,ef,.inr (.inr (.inl (by rw [e,q])))⟩)
    ·exact .inr (.inr ⟨k,op,n,args,thn,els,next,rfl,ef,.inr (.inr (.inr (by rw [e,q])))⟩)
theorem invR_step {p:Prg} {ps:List Int} {c:CfM} (h:InvR p ps c):InvR p ps (stepM p ps c):=by
 have hi:=inv_step h.toInv
 have hl:=h.len
 have hfu:=hi.fuel
 have hfc:=h.fuel
 rcases step_todo p ps c with ⟨e1,e2⟩ | ⟨e1,e2⟩ | ⟨k,op,n,args,thn,els,next,ht,e2,e1⟩
 ·exact { toInv:=hi,okt:=by rw [e1]; exact h.okt,len:=by rw [e1,e2]; exact h.len }
 ·refine { toInv:=hi,okt:=by rw [e1]; simp,len:=?_ }
  rw [e1]
  simp
  omega
 ·have hok:=h.okt (k,.mk op n args thn els) (by rw [ht]; simp)
  have hnx:∀ it ∈ next,okS it.2:=fun it hit=>h.okt it (by rw [ht]; simp [hit])
  have hok2:=hok
  rw [okS] at hok2
  obtain ⟨_,_,hrow,hnd⟩:=h.todo (k,.mk op n args thn els) (by rw [ht]; simp)
  simp only at hnd
  rw [nodesSt] at hnd
  have pa:=nodesL_pos args
  have pt:=nodesS_pos thn
  have pe:=nodesS_pos els
  have l1:=len_nodesS thn
  have l2:=len_nodesS els
  rw [ht] at hl
  simp only [List.length_cons] at hl
  rcases e1 with e1 | e1 | e1 | e1
  ·exact { toInv:=hi,okt:=by rw [e1]; exact hnx,len:=by rw [e1,e2]; omega }
  ·refine { toInv:=hi,okt:=?_,len:=by rw [e1,e2,List.length_append,items_length]; omega }
   rw [e1]
   intro it hit
   rcases List.mem_append.1 hit with q | q
   ·exact items_okS hok2.2.2.2.2.2.2.2 it q
   ·exact hnx it q
  ·refine { toInv:=hi,okt:=?_,len:=by rw [e1,e2,List.length_append,items_length]; omega }
   rw [e1]
   intro it hit
   rcases List.mem_append.1 hit with q | q
   ·exact items_okS hok2.2.2.2.2.2.2.1 it q
   ·exact hnx it q
  ·refine { toInv:=hi,okt:=?_,len:=by rw [e1,e2,List.length_append,items_length,List.length_cons]; omega }
   rw [e1]
   intro it hit
   rcases List.mem_append.1 hit with q | q
   ·exact items_okS hok2.2.2.2.2.2.2.1 it q
   ·rcases List.mem_cons.1 q with rfl | q
    ·exact hok
    ·exact hnx it q
theorem Begin_p {p:Prg} {t:Sta} {fuel:Int} (hs:t.store.length ≤ 2 ^ 40) (hn:nodesS p.body < 2 ^ 40) :
  PCa E O 31 [.agg (encP p),pi fuel,.agg (encT t)] [] (fun r h=>r = .agg (cfV (beginM p fuel t) 0 1 2 3) ∧ h = cfH (beginM p fuel t)):=by
 refine PCa.body (F:=a31) rfl rfl rfl ?_
 simp (maxSteps:=4000000) -implicitDefEqProofs +contextual [-getElem?_pos,List.getElem?_cons_zero,a31,encP,encT]
 refine Px_fo (Copy_p hs) ?_ ?_ ?_
 iterate 2 · simp (maxDischargeDepth:=8) -implicitDefEqProofs [-getElem?_pos,List.getElem?_cons_zero]
 simp (maxSteps:=4000000) -implicitDefEqProofs +contextual [-getElem?_pos,List.getElem?_cons_zero]
 refine Px_fo (Items_p hn (n0:=0) (by omega)) ?_ ?_ ?_
 iterate 2 · simp (maxDischargeDepth:=8) -implicitDefEqProofs [-getElem?_pos,List.getElem?_cons_zero]
 simp (maxSteps:=4000000) -implicitDefEqProofs +contextual [-getElem?_pos,List.getElem?_cons_zero,encP,encT]
 simp only [cfH,cfV,beginM]
 refine ret_list [3,90,91,4] ?_ ?_ ?_ (fun b hb=>?_) ?_ ?_
 iterate 3 · simp
 ·omega
 iterate 2 · simp (maxDischargeDepth:=8) -implicitDefEqProofs [frzL_append,List.getElem?_cons_zero,items_length]
end Go.Proofs.YtoijnpfpjpefgaaGreat.A.P
/- A text without what this claim does not need: Q10. -/
set_option linter.unusedVariables false
set_option linter.unusedSimpArgs false
set_option maxRecDepth 10000
set_option maxHeartbeats 1000000
namespace Go.Proofs.YtoijnpfpjpefgaaGreat.A.P
open Go Go.RowKit
def encR (r:RunM):List PV:=[pi r.en,pis r.store,.fs 2 (orw r.outs),.fs 3 (evr r.trace),pi r.cost,pi r.used,pi r.wh]
def RH (p:Prg) (t:Sta) (c:CfM):PH:=[.cells 1 (c.store.map pi),.cells 2 (orc c.outs),.cells 3 (evc c.trace),.cells 6 (itc c.todo),.cells 10 (cfV c 0 1 2 3),.cells 2 (encT t),.cells 3 (encP p),.cells 7 [pi 0,.v (.slice none 0 0),.v (.slice none 0 0),.v (.slice none 0 0),pi 0,pi 0,pi 0]]
def RL:List (Nat × PV):=[(3,.ref 6 0 3),(5,.ref 5 0 2),(6,.ref 7 0 7),(7,.ref 4 0 10)]
def RI (p:Prg) (t:Sta) (c0:CfM) (k:Nat) (fr:PF) (h:PH):Prop:=∃ c,k = leftM c ∧ InvR p t.picks c ∧ finM p t.picks c = finM p t.picks c0 ∧ h = RH p t c ∧ fr.get 3 = .ref 6 0 3 ∧ fr.get 5 = .ref 5 0 2 ∧ fr.get 6 = .ref 7 0 7 ∧ fr.get 7 = .ref 4 0 10
theorem RI_RL {p:Prg} {t:Sta} {c0 c:CfM} (h1:InvR p t.picks c) (h2:finM p t.picks c = finM p t.picks c0):RI p t c0 (leftM c) (PF.sel RL) (RH p t c):=⟨c,rfl,h1,h2,rfl,by simp [RL],by simp [RL],by simp [RL],by simp [RL]⟩
theorem Run_p {p:Prg} {t:Sta} {fuel:Int} (hs:t.store.length ≤ 2 ^ 40) (hn:nodesS p.body < 2 ^ 40) (I0:InvR p t.picks (beginM p fuel t)) :
  PCa E O 17 [.agg (encP p),pi fuel,.agg (encT t)] [] (fun r h=>r = .agg (encR (finM p t.picks (beginM p fuel t)).run) ∧ h = []):=by
 refine PCa.body (F:=a17) rfl rfl rfl ?_
 simp (maxSteps:=4000000) -implicitDefEqProofs +contextual [-getElem?_pos,List.getElem?_cons_zero,a17,encP,encT]
 refine Px_frame [] [] (Begin_p (fuel:=fuel) hs hn) ?_ ?_ ?_ ?_ ?_ ?_ ?_
 iterate 6 · first | rfl | simp (maxDischargeDepth:=8) -implicitDefEqProofs [-getElem?_pos,List.getElem?_cons_zero,frzL_append,encP,encT]
 rintro r0 hs' ⟨rfl,rfl⟩ _
 generalize beginM p fuel t = c0 at I0 ⊢
 simp (maxSteps:=4000000) -implicitDefEqProofs +contextual [-getElem?_pos,List.getElem?_cons_zero,cfV,cfH,killL]
 refine Pk_loopG (RI p t c0) (leftM c0) (Gh_list (h2:=RH p t c0) [3,4,5,6,7,1,0,2] RL ?_ ?_ ?_ ?_ ?_ ?_) (RI_RL I0 rfl) ?_
 ·simp [RH,RL,cfV,encP,encT]
 iterate 2 · simp
 ·intro b hb; omega
 iterate 2 · simp (maxDischargeDepth:=8) -implicitDefEqProofs [frzL_append,List.getElem?_cons_zero,RH,RL,cfV,encP,encT]
 rintro k fr h ⟨c,rfl,I,hfin,rfl,f3,f5,f6,f7⟩
 cases he:endedM c with
 | true =>
  have h1:¬ (c.over = false ∧ ¬ c.todo = []):=by
   rintro ⟨q1,q2⟩
   simp only [endedM,q1,Bool.false_or,List.isEmpty_iff] at he
   exact q2 he
  rw [← hfin,fin_ended he]
  simp (maxSteps:=4000000) -implicitDefEqProofs +contextual [-getElem?_pos,List.getElem?_cons_zero,RH,cfV,f7]
  refine Px_fzF (Ended_p c) ?_ ?_ ?_
  iterate 2 · simp (maxDischargeDepth:=8) -implicitDefEqProofs [-getElem?_pos,List.getElem?_cons_zero,cfF]
  simp (maxSteps:=4000000) -implicitDefEqProofs +contextual [-getElem?_pos,List.getElem?_cons_zero,h1,f3,f5,f6,f7]
  refine ret_fz ?_
  simp (maxDischargeDepth:=8) -implicitDefEqProofs [encR,CfM.run]
 | false =>
  have h1:c.over = false ∧ ¬ c.todo = []:=by simpa [endedM] using he
  obtain ⟨l1,l2⟩:=left_step (p:=p) (ps:=t.picks) I.fuel.1 he
  have hst:=Step_p I
  have I2:=invR_step I
  rw [hfin] at l2
  generalize stepM p t.picks c = c' at hst I2 l1 l2
  simp (maxSteps:=4000000) -implicitDefEqProofs +contextual [-getElem?_pos,List.getElem?_cons_zero,RH,cfV,f7]
  refine Px_fzF (Ended_p c) ?_ ?_ ?_
  iterate 2 · simp (maxDischargeDepth:=8) -implicitDefEqProofs [-getElem?_pos,List.getElem?_cons_zero,cfF]
  simp (maxSteps:=4000000) -implicitDefEqProofs +contextual [-getElem?_pos,List.getElem?_cons_zero,h1,f3,f5,f6,f7,encT,encP]
  refine Px_frame [0,1,2,3] [] hst ?_ ?_ ?_ ?_ ?_ ?_ ?_
  iterate 6 · first | rfl | simp (maxDischargeDepth:=8) -implicitDefEqProofs [-getElem?_pos,List.getElem?_cons_zero,frzL_append,cfH,cfV,encP,encT,h1]
  rintro r0 hs' (⟨rfl,rfl⟩ | ⟨rfl,rfl⟩ | ⟨rfl,rfl⟩) _
  ·simp (maxSteps:=4000000) -implicitDefEqProofs +contextual [-getElem?_pos,List.getElem?_cons_zero,cfV,killL,f7]
   refine .ofG l1 (Gh_list (h2:=RH p t c') [0,1,2,3,4,5,6,7] RL ?_ ?_ ?_ ?_ ?_ ?_) (RI_RL I2 l2)
   ·simp [RH,RL,cfV,encP,encT,f3,f5,f6,f7]
   iterate 2 · simp
   ·intro b hb; omega
   iterate 2 · simp (maxDischargeDepth:=8) -implicitDefEqProofs [frzL_append,List.getElem?_cons_zero,RH,RL,cfV,encP,encT,f3,f5,f6,f7]
  ·simp (maxSteps:=4000000) -implicitDefEqProofs +contextual [-getElem?_pos,List.getElem?_cons_zero,cfV,killL,f7]
   refine .ofG l1 (Gh_list (h2:=RH p t c') [0,1,2,8,4,5,6,7] RL ?_ ?_ ?_ ?_ ?_ ?_) (RI_RL I2 l2)
   ·simp [RH,RL,cfV,encP,encT,f3,f5,f6,f7]
   iterate 2 · simp
   ·intro b hb; omega
   iterate 2 · simp (maxDischargeDepth:=8) -implicitDefEqProofs [frzL_append,List.getElem?_cons_zero,RH,RL,cfV,encP,encT,f3,f5,f6,f7]
  ·simp (maxSteps:=4000000) -implicitDefEqProofs +contextual [-getElem?_pos,List.getElem?_cons_zero,cfV,killL,f7]
   refine .ofG l1 (Gh_list (h2:=RH p t c') [8,1,2,9,4,5,6,7] RL ?_ ?_ ?_ ?_ ?_ ?_) (RI_RL I2 l2)
   ·simp [RH,RL,cfV,encP,encT,f3,f5,f6,f7]
   iterate 2 · simp
   ·intro b hb; omega
   iterate 2 · simp (maxDischargeDepth:=8) -implicitDefEqProofs [frzL_append,List.getElem?_cons_zero,RH,RL,cfV,encP,encT,f3,f5,f6,f7]
end Go.Proofs.YtoijnpfpjpefgaaGreat.A.P
/- A text without what this claim does not need: Q11. -/
set_option linter.unusedVariables false
set_option linter.unusedSimpArgs false
set_option maxRecDepth 10000
namespace Go.Proofs.YtoijnpfpjpefgaaGreat.A.P
open Go Go.RowKit
theorem rows_pis {F:Nat → Prop} {H:AH}:∀ {l:List (List Value)} {rs:List (List Value)},RFR F H (l.map fun r=>r.map PV.v) rs → rs = l:=by
 have one:∀ {r:List Value} {q:List Value},RFC F H (r.map PV.v) q → q = r:=by
  intro r
  induction r with
  | nil=>intro q h; cases h; rfl
  | cons a r ih=>intro q h; cases h with | cons a b=>cases a; rw [ih b]
 intro l
 induction l with
 | nil=>intro rs h; cases h; rfl
 | cons a l ih=>intro rs h; cases h with | cons a b=>rw [one a,ih b]
theorem rf_flat {F:Nat → Prop} {H:AH} {sz:Nat} {rows:List (List PV)} {l:List (List Value)} {x:Value} (e:rows = l.map fun r=>r.map PV.v) (h:RF F H (.fs sz rows) x):Rows H sz x l:=by
 subst e
 obtain ⟨rs,h1,h2,_⟩:=rf_rows h
 rwa [rows_pis h2] at h1
theorem runR_of {F:Nat → Prop} {H:AH} {c:List Value} {r:RunM} (h:RFC F H (encR r) c) (hs:Small r):RunR H c r:=by
 cases h with | cons a h =>
 cases h with | cons vs h =>
 cases h with | cons vo h =>
 cases h with | cons vt h =>
 cases h with | cons b h =>
 cases h with | cons d h =>
 cases h with | cons e h =>
 cases h
 cases a; cases b; cases d; cases e
 exact ⟨_,_,_,rfl,ints_of vs,rf_flat (by simp [orw,outRows,outRow,pi]) vo,rf_flat (by simp [evr,evRows,Ev.row,pi]) vt,hs⟩
theorem RRun_ca {p:Prg} {t:Sta} {fuel:Int} {F:Nat → Prop} {H:AH} {c d:List Value} (hF:∀ x,F x → x < H.nx) (hw:H.n0 ≤ H.nx) (hp:RFC F H (encP p) c) (ht:RFC F H (encT t) d) (hs:t.store.length ≤ 2 ^ 40) (hn:nodesS p.body < 2 ^ 40) (I0:InvR p t.picks (beginM p fuel t)) (hsm:Small (finM p t.picks (beginM p fuel t)).run) :
  Ca E O 17 [.agg c.toArray,.int .i64 fuel,.agg d.toArray] H (fun x H'=>∃ cs,x = .agg cs.toArray ∧ RunR H' cs (finM p t.picks (beginM p fuel t)).run ∧ Ext H H'):=by
 have S:StH ⟨F,H,id,[]⟩:={
  wf:=hw
  fz:=hF
  inj:=fun b b' s=>by have:=solid_lt s; simp at this
  blk:=fun b z cs e=>by simp at e
  mpb:=fun b es e=>by simp at e }
 refine (Run_p hs hn I0 F H id _ S (.cons (.agg (hp.toV (C:=⟨_,_,_,_⟩))) (.cons (.v _) (.cons (.agg (ht.toV (C:=⟨_,_,_,_⟩))) .nil)))).mono ?_
 rintro x H' ⟨r,h',F',φ',⟨rfl,rfl⟩,hr,_,T⟩
 obtain ⟨cs,rfl,hc⟩:=rvagg (by simp [encR,fzc]) hr
 refine ⟨cs,rfl,runR_of hc hsm,T.n0,T.nx,fun b hb=>T.out b hb ?_⟩
 rintro ⟨b,_,s,_⟩
 have:=solid_lt s
 simp at this
end Go.Proofs.YtoijnpfpjpefgaaGreat.A.P
/- A text without what this claim does not need: Q12. -/
set_option linter.unusedVariables false
set_option linter.unusedSimpArgs false
set_option maxRecDepth 10000
namespace Go.Proofs.YtoijnpfpjpefgaaGreat.A
open Go
open P (encP encT okPr okT prg_of sta_of RRun_ca)
theorem RunR.zero (H:AH):RunR H [.int .i64 0,.slice none 0 0,.slice none 0 0,.slice none 0 0,.int .i64 0,.int .i64 0,.int .i64 0] zeroRun :=
 (RunO.zero H 0).toR ⟨by simp [zeroRun],by simp [zeroRun],by simp [zeroRun]⟩
theorem zero_small:Small zeroRun:=⟨by simp [zeroRun],by simp [zeroRun],by simp [zeroRun]⟩
theorem MachRuns_ca {p:Prg} {t:Sta} {c d:List Value} {fuel:Int} {F:Nat → Prop} {H:AH} (hw:H.n0 ≤ H.nx) (hF:∀ x,F x → x < H.nx) (hfi:I64 fuel) (okp:okPr p) (hp:P.RFC F H (encP p) c) (okt:okT t) (ht:P.RFC F H (encT t) d) :
  Ca E O 4 [.agg c.toArray,.int .i64 fuel,.agg d.toArray] H (fun x _=>x = .bool true):=by
 have hp':=prg_of okp hp
 have ht':=sta_of okt ht
 obtain ⟨vv,vb,rb,rfl,hi,hv,hvo,hr,hl,hbl⟩:=hp'.is
 obtain ⟨vs,vp,rfl,ss,sp,l1,l2,_,_⟩:=ht'.is
 refine Ca.bodyV (F:=a4) rfl rfl rfl ?_
 obtain ⟨u1,c1,hvv⟩:=hv.len
 obtain ⟨u2,c2,hvb⟩:=hr.len
 rw [hl.length] at hvb
 have X1:=Ext.alloc H (.cells 3 [.int .i64 p.w,vv,vb])
 have q0:(H.alloc (.cells 3 [.int .i64 p.w,vv,vb])).ld ⟨H.nx,0,none⟩ = some (.int .i64 p.w):=ld_new hw rfl
 have q1:(H.alloc (.cells 3 [.int .i64 p.w,vv,vb])).ld ⟨H.nx,1,none⟩ = some vv:=ld_new hw rfl
 have q2:(H.alloc (.cells 3 [.int .i64 p.w,vv,vb])).ld ⟨H.nx,2,none⟩ = some vb:=ld_new hw rfl
 have q:(H.alloc (.cells 3 [.int .i64 p.w,vv,vb])).ldn ⟨H.nx,0,none⟩ 3 = some [.int .i64 p.w,vv,vb]:=ld_box hw 3 rfl
 generalize hH1:H.alloc (.cells 3 [.int .i64 p.w,vv,vb]) = H1 at X1 q0 q1 q2 q
 have hwH1:=X1.wf hw
 have X2:=Ext.alloc H1 (.cells 2 [vs,vp])
 have r0:(H1.alloc (.cells 2 [vs,vp])).ld ⟨H1.nx,0,none⟩ = some vs:=ld_new hwH1 rfl
 have r1:(H1.alloc (.cells 2 [vs,vp])).ld ⟨H1.nx,1,none⟩ = some vp:=ld_new hwH1 rfl
 have r:(H1.alloc (.cells 2 [vs,vp])).ldn ⟨H1.nx,0,none⟩ 2 = some [vs,vp]:=ld_box hwH1 2 rfl
 generalize hH2:H1.alloc (.cells 2 [vs,vp]) = H2 at X2 r0 r1 r
 have hwH2:=X2.wf hwH1
 replace q0:=X2.ld q0
 replace q1:=X2.ld q1
 replace q2:=X2.ld q2
 replace q:=X2.ldn q
 have X:=X1.trans X2
 simp (maxSteps:=4000000) -implicitDefEqProofs +contextual [-X.ev,a4,hH1,hH2,q2]
 apply Vx_callM
 ·(simp -implicitDefEqProofs [-X.ev]; rfl)
 refine (PFits_ca hwH2 hbl (hr.ext X) (hl.ext X) (by omega)).mono ?_
 rintro x H3 ⟨rfl,X3⟩
 by_cases h1:nodesS p.body ≤ 600
 case neg =>
  simp (maxSteps:=4000000) -implicitDefEqProofs +contextual [-X.ev,h1]
  apply Vx_callM
  ·(simp -implicitDefEqProofs [-X.ev]; rfl)
  refine (awake_ca H3).mono ?_
  rintro x H4 ⟨rfl,rfl⟩
  simp (maxSteps:=4000000) -implicitDefEqProofs +contextual [-X.ev]
 have X03:=X.trans X3
 have hw3:=X3.wf hwH2
 replace q0:=X3.ld q0
 replace q1:=X3.ld q1
 replace q2:=X3.ld q2
 replace q:=X3.ldn q
 replace r:=X3.ldn r
 simp (maxSteps:=4000000) -implicitDefEqProofs +contextual [-X.ev,h1,q,r]
 apply Vx_callM
 ·(simp -implicitDefEqProofs [-X.ev]; rfl)
 refine (MRun_ca (fuel:=fuel) hw3 (hp'.ext X03) (ht'.ext X03)).mono ?_
 rintro x H4 ⟨cs,rfl,ra,X4⟩
 have hw4:=X4.wf hw3
 have sa:Small (runP p fuel t):=by
  by_cases hk:chkR p fuel t = 0
  ·exact runP_small hk
  ·rw [runP,if_neg hk]; exact zero_small
 obtain ⟨A,hA⟩:∃ A,runP p fuel t = A:=⟨_,rfl⟩
 rw [hA] at ra sa
 obtain ⟨vs1,vo1,vt1,rfl,os1,oo1,ot1,f1⟩:=ra.is
 obtain ⟨H5,sH5,X5,nxH5,n0H5,y,lH5⟩:=st_new (H:=H4) hw4 (z:=7) (c:=[.int .i64 0,.slice none 0 0,.slice none 0 0,.slice none 0 0,.int .i64 0,.int .i64 0,.int .i64 0]) (vs:=[.int .i64 A.en,vs1,vo1,vt1,.int .i64 A.cost,.int .i64 A.used,.int .i64 A.wh]) rfl
 have y0:H5.ld ⟨H4.nx,0,none⟩ = some (.int .i64 A.en):=lH5 0 _ rfl
 have y1:H5.ld ⟨H4.nx,1,none⟩ = some vs1:=lH5 1 _ rfl
 have y2:H5.ld ⟨H4.nx,2,none⟩ = some vo1:=lH5 2 _ rfl
 have y3:H5.ld ⟨H4.nx,3,none⟩ = some vt1:=lH5 3 _ rfl
 have y4:H5.ld ⟨H4.nx,4,none⟩ = some (.int .i64 A.cost):=lH5 4 _ rfl
 have y5:H5.ld ⟨H4.nx,5,none⟩ = some (.int .i64 A.used):=lH5 5 _ rfl
 have y6:H5.ld ⟨H4.nx,6,none⟩ = some (.int .i64 A.wh):=lH5 6 _ rfl
 clear lH5
 replace y:H5.ldn ⟨H4.nx,0,none⟩ 7 = some [.int .i64 A.en,vs1,vo1,vt1,.int .i64 A.cost,.int .i64 A.used,.int .i64 A.wh]:=y
 have hwH5:=X5.wf hw4
 have X35:=X4.trans X5
 replace q:=X35.ldn q
 replace r:=X35.ldn r
 simp (maxSteps:=4000000) -implicitDefEqProofs +contextual [-X.ev,sH5,q,r]
 apply Vx_callM
 ·(simp -implicitDefEqProofs [-X.ev]; rfl)
 refine (RCheck_ca (fuel:=fuel) hwH5 (hp'.ext (X03.trans X35)) (ht'.ext (X03.trans X35))).mono ?_
 rintro x H6 ⟨rfl,X6⟩
 have hw6:=X6.wf hwH5
 have X06:=(X03.trans X35).trans X6
 replace q:=X6.ldn q
 replace r:=X6.ldn r
 replace y:=X6.ldn y
 have R1:=(RunO.toR ra sa).ext (X5.trans X6)
 by_cases hk:chkR p fuel t = 0
 case neg =>
  have e0:A = zeroRun:=by rw [← hA,runP,if_neg hk]
  have hbu:buildV [.int .i64 0,.slice none 0 0,.slice none 0 0,.slice none 0 0,.int .i64 0,.int .i64 0,.int .i64 0] [] = some (.agg #[.int .i64 0,.slice none 0 0,.slice none 0 0,.slice none 0 0,.int .i64 0,.int .i64 0,.int .i64 0]):=rfl
  simp (maxSteps:=4000000) -implicitDefEqProofs +contextual [-X.ev,hk,y,hbu]
  apply Vx_callM
  ·(simp -implicitDefEqProofs [-X.ev]; rfl)
  refine (SameRun_ca hw6 R1 (RunR.zero H6)).mono ?_
  rintro x H7 ⟨rfl,X7⟩
  simp (maxSteps:=4000000) -implicitDefEqProofs +contextual [-X.ev,e0]
  apply Vx_callM
  ·(simp -implicitDefEqProofs [-X.ev]; rfl)
  refine (awake_ca H7).mono ?_
  rintro x H8 ⟨rfl,rfl⟩
  simp (maxSteps:=4000000) -implicitDefEqProofs +contextual [-X.ev]
 obtain ⟨hinv,_,hf1,hf2,_⟩:=inv_begin hk
 have hsm:=small_inv (inv_iter ((beginM p fuel t).fuel.toNat + 1) hinv)
 have hlen:=P.len_nodesS p.body
 have I0:P.InvR p t.picks (beginM p fuel t):={ toInv:=hinv,okt:=P.items_okS okp.2.2.1,len:=by show ((itemsM p.body 0).length:Int) + 500 * fuel ≤ 2 ^ 30; rw [P.items_length]; omega }
 have eA:A = (finM p t.picks (beginM p fuel t)).run:=by rw [← hA,runP,if_pos hk]
 have hF6:∀ x,F x → F x ∧ H6.get x = H.get x:=fun x hx=>⟨hx,X06.old x (hF x hx)⟩
 simp (maxSteps:=4000000) -implicitDefEqProofs +contextual [-X.ev,hk,y,q,r]
 apply Vx_callM
 ·(simp -implicitDefEqProofs [-X.ev]; rfl)
 refine (RRun_ca (F:=F) (fuel:=fuel) (fun x hx=>Nat.lt_of_lt_of_le (hF x hx) X06.nx) hw6 (P.RFC.mono X06.n0 hF6 hp) (P.RFC.mono X06.n0 hF6 ht) (small_inv hinv).1 (by omega) I0 hsm).mono ?_
 rintro x H7 ⟨cs2,rfl,rr,X7⟩
 have hw7:=X7.wf hw6
 have y7:=X7.ldn y
 simp (maxSteps:=4000000) -implicitDefEqProofs +contextual [-X.ev]
 apply Vx_callM
 ·(simp -implicitDefEqProofs [-X.ev]; rfl)
 refine (SameRun_ca hw7 (R1.ext X7) rr).mono ?_
 rintro x H8 ⟨rfl,X8⟩
 have y8:=X8.ldn y7
 have n67:=X7.n0
 have n78:=X8.n0
 simp (maxSteps:=4000000) -implicitDefEqProofs +contextual [-X.ev,eA]
 apply Vx_callM
 ·(simp -implicitDefEqProofs [-X.ev]; rfl)
 refine (awake_ca H8).mono ?_
 rintro x H9 ⟨rfl,rfl⟩
 simp (maxSteps:=4000000) -implicitDefEqProofs +contextual [-X.ev,okD_of,chain_2,chain_1,y,y7,y8,X7.n0,X7.nx,X8.n0,X8.nx,q,r]
 exact ⟨by obtain ⟨a,c,e⟩:=os1.shape; rw [e]; simp,by obtain ⟨a,c,e⟩:=oo1.shape; rw [e]; simp,by obtain ⟨a,c,e⟩:=ot1.shape; rw [e]; simp⟩
end Go.Proofs.YtoijnpfpjpefgaaGreat.A
/- A text without what this claim does not need: Q13. -/
set_option linter.unusedVariables false
set_option linter.unusedSimpArgs false
namespace Go.Proofs.YtoijnpfpjpefgaaGreat.A.P
open Go Go.RowKit
section
variable {T:Type} {enc:TypeId × Value → T} {W:World}
theorem okEs_of:∀ {l:List Exp},(∀ e ∈ l,okE e) → okEs l
 | [],_=>trivial
 | e :: l,h=>⟨h e (by simp),okEs_of fun x hx=>h x (by simp [hx])⟩
theorem okSs_of:∀ {l:List Stm},(∀ e ∈ l,okS e) → okSs l
 | [],_=>trivial
 | e :: l,h=>⟨h e (by simp),okSs_of fun x hx=>h x (by simp [hx])⟩
theorem rz_expr:∀ (n:Nat) (cs:List Value) (d:DataW T),Rd enc Tryz.prog W n 114 cs d → Wt' Tryz.prog 114 d → ∃ l e,cleanL W.heap.size cs = some l ∧ RFC (F0 W) (H0 W) (encE e) l ∧ okE e:=by
 intro n
 induction n using Nat.strongRecOn with
 | _ n ih =>
  intro cs d h hw
  obtain ⟨hl,m,hm,hf⟩:=rd_struct Tryz.underlying114 h hw
  rw [cE] at hl
  obtain ⟨c0,c1,c2,c3,rfl⟩:=list4 hl
  obtain ⟨d0,h0,w0⟩:=hf 0 _ rfl
  obtain ⟨d1,h1,w1⟩:=hf 1 _ rfl
  obtain ⟨d2,h2,w2⟩:=hf 2 _ rfl
  obtain ⟨d3,h3,w3⟩:=hf 3 _ rfl
  simp only [List.getElem_toArray,List.getElem_cons_zero,List.getElem_cons_succ] at h0 h1 h2 h3 w0 w1 w2 w3
  rw [cI] at h0 h1 h2
  rw [cEs] at h3
  obtain ⟨op,e0,b0⟩:=rd_int Tryz.underlying3 h0
  obtain ⟨nn,e1,b1⟩:=rd_int Tryz.underlying3 h1
  obtain ⟨cp,e2,b2⟩:=rd_int Tryz.underlying3 h2
  obtain ⟨v,ys,g1,g2,g3,g4⟩:=rd_fs encE (ok:=okE) Tryz.underlying90 (by rw [cE]; omega) (by rw [cE]; omega) (by decide +kernel) (by simpa using h3) w3 (fun k cs' d' hk hr hwd=>ih k (by omega) cs' d' hr hwd)
  rw [cE] at g2
  simp at e0 e1 e2
  subst e0; subst e1; subst e2
  refine ⟨[.int .i64 op,.int .i64 nn,.int .i64 cp,v],.mk op nn cp ys,cleanL_int (cleanL_int (cleanL_int g1)),.cons (.v _) (.cons (.v _) (.cons (.v _) (.cons (by rw [encEs_map]; exact g2) .nil))),wf_i64 b0,wf_i64 b1,wf_i64 b2,rb60 g4 (by decide +kernel),okEs_of g3⟩
theorem rz_stmt:∀ (n:Nat) (cs:List Value) (d:DataW T),Rd enc Tryz.prog W n 92 cs d → Wt' Tryz.prog 92 d → ∃ l e,cleanL W.heap.size cs = some l ∧ RFC (F0 W) (H0 W) (encS e) l ∧ okS e:=by
 intro n
 induction n using Nat.strongRecOn with
 | _ n ih =>
  intro cs d h hw
  obtain ⟨hl,m,hm,hf⟩:=rd_struct Tryz.underlying92 h hw
  rw [cS] at hl
  obtain ⟨c0,c1,c2,c3,c4,rfl⟩:=list5 hl
  obtain ⟨d0,h0,w0⟩:=hf 0 _ rfl
  obtain ⟨d1,h1,w1⟩:=hf 1 _ rfl
  obtain ⟨d2,h2,w2⟩:=hf 2 _ rfl
  obtain ⟨d3,h3,w3⟩:=hf 3 _ rfl
  obtain ⟨d4,h4,w4⟩:=hf 4 _ rfl
  simp only [List.getElem_toArray,List.getElem_cons_zero,List.getElem_cons_succ] at h0 h1 h2 h3 h4 w0 w1 w2 w3 w4
  rw [cI] at h0 h1
  rw [cEs] at h2
  rw [cSs] at h3 h4
  obtain ⟨op,e0,b0⟩:=rd_int Tryz.underlying3 h0
  obtain ⟨nn,e1,b1⟩:=rd_int Tryz.underlying3 h1
  obtain ⟨va,ya,p1,p2,p3,p4⟩:=rd_fs encE (ok:=okE) Tryz.underlying90 (by rw [cE]; omega) (by rw [cE]; omega) (by decide +kernel) (by simpa using h2) w2 (fun k cs' d' hk hr hwd=>rz_expr k cs' d' hr hwd)
  obtain ⟨vt,yt,q1,q2,q3,q4⟩:=rd_fs encS (ok:=okS) Tryz.underlying23 (by rw [cS]; omega) (by rw [cS]; omega) (by decide +kernel) (by simpa using h3) w3 (fun k cs' d' hk hr hwd=>ih k (by omega) cs' d' hr hwd)
  obtain ⟨ve,ye,r1,r2,r3,r4⟩:=rd_fs encS (ok:=okS) Tryz.underlying23 (by rw [cS]; omega) (by rw [cS]; omega) (by decide +kernel) (by simpa using h4) w4 (fun k cs' d' hk hr hwd=>ih k (by omega) cs' d' hr hwd)
  rw [cE] at p2
  rw [cS] at q2 r2
  simp at e0 e1
  subst e0; subst e1
  exact ⟨[.int .i64 op,.int .i64 nn,va,vt,ve],.mk op nn ya yt ye,cleanL_int (cleanL_int (cleanL_cons p1 (cleanL_cons q1 r1))),.cons (.v _) (.cons (.v _) (.cons (by rw [encEs_map]; exact p2) (.cons (by rw [encSs_map]; exact q2) (.cons (by rw [encSs_map]; exact r2) .nil)))),wf_i64 b0,wf_i64 b1,rb60 p4 (by decide +kernel),rb60 q4 (by decide +kernel),rb60 r4 (by decide +kernel),okEs_of p3,okSs_of q3,okSs_of r3⟩
theorem rz_var (n:Nat) (cs:List Value) (d:DataW T) (h:Rd enc Tryz.prog W n 89 cs d) (hw:Wt' Tryz.prog 89 d):∃ l y,cleanL W.heap.size cs = some l ∧ RFC (F0 W) (H0 W) (encV y) l ∧ y.name.size < 2 ^ 60:=by
 obtain ⟨l,y,h1,rfl,h3⟩:=rd_var n cs d h hw
 exact ⟨_,y,h1,.cons (.v _) (.cons (.v _) (.cons (.v _) .nil)),h3⟩
theorem rz_ints {n:Nat} {c:Value} {d:DataW T} (h:Rd enc Tryz.prog W n 26 [c] d) (hw:Wt' Tryz.prog 26 d):∃ v l,cleanL W.heap.size [c] = some [v] ∧ RF (F0 W) (H0 W) (pis l) v ∧ l.length < 2 ^ 44 ∧ ∀ n ∈ l,I64 n:=by
 obtain ⟨v,ys,g1,g2,g3,g4⟩:=rd_fs (fun n:Int=>[pi n]) (ok:=I64) Tryz.underlying26 (by rw [cI]; omega) (by rw [cI]; omega) (by decide +kernel) h hw (fun k cs' d' hk hr hwd=>by
  obtain ⟨m,e,b⟩:=rd_int Tryz.underlying3 hr
  subst e
  exact ⟨_,m,cleanL_int rfl,.cons (.v _) .nil,wf_i64 b⟩)
 rw [cI] at g2
 refine ⟨v,ys,g1,g2,?_,g3⟩
 have hb:Tryz.prog.bytesOf 3 = 8:=by kernel_rfl
 rw [hb] at g4
 have:reachBytes < 2 ^ 47:=reachBytes_lt
 omega
theorem rz_prog (n:Nat) (cs:List Value) (d:DataW T) (h:Rd enc Tryz.prog W n 25 cs d) (hw:Wt' Tryz.prog 25 d):∃ l p,cleanL W.heap.size cs = some l ∧ RFC (F0 W) (H0 W) (encP p) l ∧ okPr p:=by
 obtain ⟨hl,m,hm,hf⟩:=rd_struct Tryz.underlying25 h hw
 rw [cP] at hl
 obtain ⟨c0,c1,c2,rfl⟩:=list3 hl
 obtain ⟨d0,h0,w0⟩:=hf 0 _ rfl
 obtain ⟨d1,h1,w1⟩:=hf 1 _ rfl
 obtain ⟨d2,h2,w2⟩:=hf 2 _ rfl
 simp only [List.getElem_toArray,List.getElem_cons_zero,List.getElem_cons_succ] at h0 h1 h2 w0 w1 w2
 rw [cI] at h0
 rw [cVs] at h1
 rw [cSs] at h2
 obtain ⟨w,e0,b0⟩:=rd_int Tryz.underlying3 h0
 obtain ⟨vv,yv,p1,p2,p3,p4⟩:=rd_fs encV (ok:=fun y=>y.name.size < 2 ^ 60) Tryz.underlying22 (by rw [cV]; omega) (by rw [cV]; omega) (by decide +kernel) (by simpa using h1) w1 (fun k cs' d' hk hr hwd=>rz_var k cs' d' hr hwd)
 obtain ⟨vb,yb,q1,q2,q3,q4⟩:=rd_fs encS (ok:=okS) Tryz.underlying23 (by rw [cS]; omega) (by rw [cS]; omega) (by decide +kernel) (by simpa using h2) w2 (fun k cs' d' hk hr hwd=>rz_stmt k cs' d' hr hwd)
 rw [cV] at p2
 rw [cS] at q2
 simp at e0
 subst e0
 exact ⟨_,⟨w,yv,yb⟩,cleanL_int (cleanL_cons p1 q1),.cons (.v _) (.cons p2 (.cons (by rw [encSs_map]; exact q2) .nil)),wf_i64 b0,⟨rb60 p4 (by decide +kernel),p3⟩,okSs_of q3,rb60 q4 (by decide +kernel)⟩
theorem rz_start (n:Nat) (cs:List Value) (d:DataW T) (h:Rd enc Tryz.prog W n 28 cs d) (hw:Wt' Tryz.prog 28 d):∃ l s,cleanL W.heap.size cs = some l ∧ RFC (F0 W) (H0 W) (encT s) l ∧ okT s:=by
 obtain ⟨hl,m,hm,hf⟩:=rd_struct Tryz.underlying28 h hw
 rw [cT] at hl
 obtain ⟨c0,c1,rfl⟩:=list2 hl
 obtain ⟨d0,h0,w0⟩:=hf 0 _ rfl
 obtain ⟨d1,h1,w1⟩:=hf 1 _ rfl
 simp only [List.getElem_toArray,List.getElem_cons_zero,List.getElem_cons_succ] at h0 h1 w0 w1
 rw [cIs] at h0 h1
 obtain ⟨vs,ls,p1,p2,p3,p4⟩:=rz_ints (by simpa using h0) w0
 obtain ⟨vp,lp,q1,q2,q3,q4⟩:=rz_ints (by simpa using h1) w1
 exact ⟨_,⟨ls,lp⟩,cleanL_cons p1 q1,.cons p2 (.cons q2 .nil),by show ls.length < 2 ^ 60; omega,by show lp.length < 2 ^ 60; omega,p4,q4⟩
end
end Go.Proofs.YtoijnpfpjpefgaaGreat.A.P
