/- Printed by a program (own work) out of the loaded functions: what each says of the heap, and that the evaluator says the same / Sorting a short list of numbers in memory (insertion, as slices. No condition but that these are ones. -/
import Derived.Test.YtfilpdcphgmhgaaF4
set_option linter.all false
set_option maxRecDepth 100000
namespace Go.Ev
open Go.Proofs
def strC0:ByteArray:=⟨#[0,1,2,2,3,3,3,3,4,4,4,4,4,4,4,4,5,5,5,5,5,5,5,5,5,5,5,5,5,5,5,5,6,6,6,6,6,6,6,6,6,6,6,6,6,6,6,6,6,6,6,6,6,6,6,6,6,6,6,6,6,6,6,6,7,7,7,7,7,7,7,7,7,7,7,7,7,7,7,7,7,7,7,7,7,7,7,7,7,7,7,7,7,7,7,7,7,7,7,7,7,7,7,7,7,7,7,7,7,7,7,7,7,7,7,7,7,7,7,7,7,7,7,7,7,7,7,7,8,8,8,8,8,8,8,8,8,8,8,8,8,8,8,8,8,8,8,8,8,8,8,8,8,8,8,8,8,8,8,8,8,8,8,8,8,8,8,8,8,8,8,8,8,8,8,8,8,8,8,8,8,8,8,8,8,8,8,8,8,8,8,8,8,8,8,8,8,8,8,8,8,8,8,8,8,8,8,8,8,8,8,8,8,8,8,8,8,8,8,8,8,8,8,8,8,8,8,8,8,8,8,8,8,8,8,8,8,8,8,8,8,8,8,8,8,8,8,8,8,8,8,8,8,8,8,8]⟩
/- cmp.Compare[int] -/
noncomputable def body29:Code:=(Try.f29.body).getD .skip
def lv29 (m:Nat):List Nat:=[]
def f29F (a0:Int) (a1:Int) (h:Hp) (R:Value→Hp→Prop):Prop :=
 CallTo Try.prog 56 #[.int .i64 a0] h fun r h1=>∃ t8:Bool,r=.bool t8∧CallTo Try.prog 56 #[.int .i64 a1] h1 fun r h2=>∃ t10:Bool,r=.bool t10∧Cond t8 (Cond t10 (R (.int .i64 0:Value) h2) (R ((.int .i64 (-1):Value)) h2)) (Cond t10 (R (.int .i64 1:Value) h2) (Cond (decide (a0 < a1)) (R ((.int .i64 (-1):Value)) h2) (Cond (decide (a0 > a1)) (R (.int .i64 1:Value) h2) (R (.int .i64 0:Value) h2))))
theorem f29F_eq (a0:Int) (a1:Int) (h:Hp) (R:Value→Hp→Prop):evF Try.prog tab lv29 Try.f29 body29 [] [.int .i64 a0,.int .i64 a1] h R=f29F a0 a1 h R:=by kernel_rfl
theorem f29F_ok {a0:Int} {a1:Int} {h:Hp} {R:Value→Hp→Prop} (hF:f29F a0 a1 h R):CallTo Try.prog 29 #[.int .i64 a0,.int .i64 a1] h R :=
 callTo_of_ev (lv:=lv29) (hints:=[]) (c:=body29) (args:=[.int .i64 a0,.int .i64 a1]) mixed tab_ok Try.func29 (by kernel_rfl) (by kernel_rfl) (by rw [f29F_eq]; exact hF)
/- cmp.Compare[uint64] -/
noncomputable def body31:Code:=(Try.f31.body).getD .skip
def lv31 (m:Nat):List Nat:=[]
def f31F (a0:Int) (a1:Int) (h:Hp) (R:Value→Hp→Prop):Prop :=
 CallTo Try.prog 57 #[.int .u64 a0] h fun r h1=>∃ t8:Bool,r=.bool t8∧CallTo Try.prog 57 #[.int .u64 a1] h1 fun r h2=>∃ t10:Bool,r=.bool t10∧Cond t8 (Cond t10 (R (.int .i64 0:Value) h2) (R ((.int .i64 (-1):Value)) h2)) (Cond t10 (R (.int .i64 1:Value) h2) (Cond (decide (a0 < a1)) (R ((.int .i64 (-1):Value)) h2) (Cond (decide (a0 > a1)) (R (.int .i64 1:Value) h2) (R (.int .i64 0:Value) h2))))
theorem f31F_eq (a0:Int) (a1:Int) (h:Hp) (R:Value→Hp→Prop):evF Try.prog tab lv31 Try.f31 body31 [] [.int .u64 a0,.int .u64 a1] h R=f31F a0 a1 h R:=by kernel_rfl
theorem f31F_ok {a0:Int} {a1:Int} {h:Hp} {R:Value→Hp→Prop} (hF:f31F a0 a1 h R):CallTo Try.prog 31 #[.int .u64 a0,.int .u64 a1] h R :=
 callTo_of_ev (lv:=lv31) (hints:=[]) (c:=body31) (args:=[.int .u64 a0,.int .u64 a1]) mixed tab_ok Try.func31 (by kernel_rfl) (by kernel_rfl) (by rw [f31F_eq]; exact hF)
/- math/bits.Len -/
noncomputable def body55:Code:=(Try.f55.body).getD .skip
def lv55 (m:Nat):List Nat:=[]
def f55F (a0:Int) (h:Hp) (R:Value→Hp→Prop):Prop :=
 CallTo Try.prog 75 #[.int .u64 a0] h fun r h1=>∃ t7:Int,r=.int .i64 t7∧R (.int .i64 t7:Value) h1
theorem f55F_eq (a0:Int) (h:Hp) (R:Value→Hp→Prop):evF Try.prog tab lv55 Try.f55 body55 [] [.int .u64 a0] h R=f55F a0 h R:=by kernel_rfl
theorem f55F_ok {a0:Int} {h:Hp} {R:Value→Hp→Prop} (hF:f55F a0 h R):CallTo Try.prog 55 #[.int .u64 a0] h R :=
 callTo_of_ev (lv:=lv55) (hints:=[]) (c:=body55) (args:=[.int .u64 a0]) mixed tab_ok Try.func55 (by kernel_rfl) (by kernel_rfl) (by rw [f55F_eq]; exact hF)
/- cmp.isNaN[int] -/
noncomputable def body56:Code:=(Try.f56.body).getD .skip
def lv56 (m:Nat):List Nat:=[]
def f56F (a0:Int) (h:Hp) (R:Value→Hp→Prop):Prop :=
 R ((.bool (a0 != a0):Value)) h
theorem f56F_eq (a0:Int) (h:Hp) (R:Value→Hp→Prop):evF Try.prog tab lv56 Try.f56 body56 [] [.int .i64 a0] h R=f56F a0 h R:=by kernel_rfl
theorem f56F_ok {a0:Int} {h:Hp} {R:Value→Hp→Prop} (hF:f56F a0 h R):CallTo Try.prog 56 #[.int .i64 a0] h R :=
 callTo_of_ev (lv:=lv56) (hints:=[]) (c:=body56) (args:=[.int .i64 a0]) mixed tab_ok Try.func56 (by kernel_rfl) (by kernel_rfl) (by rw [f56F_eq]; exact hF)
/- cmp.isNaN[uint64] -/
noncomputable def body57:Code:=(Try.f57.body).getD .skip
def lv57 (m:Nat):List Nat:=[]
def f57F (a0:Int) (h:Hp) (R:Value→Hp→Prop):Prop :=
 R ((.bool (a0 != a0):Value)) h
theorem f57F_eq (a0:Int) (h:Hp) (R:Value→Hp→Prop):evF Try.prog tab lv57 Try.f57 body57 [] [.int .u64 a0] h R=f57F a0 h R:=by kernel_rfl
theorem f57F_ok {a0:Int} {h:Hp} {R:Value→Hp→Prop} (hF:f57F a0 h R):CallTo Try.prog 57 #[.int .u64 a0] h R :=
 callTo_of_ev (lv:=lv57) (hints:=[]) (c:=body57) (args:=[.int .u64 a0]) mixed tab_ok Try.func57 (by kernel_rfl) (by kernel_rfl) (by rw [f57F_eq]; exact hF)
/- math/bits.Len64 -/
noncomputable def body75:Code:=(Try.f75.body).getD .skip
def lv75 (m:Nat):List Nat:=[]
def f75K3  (x0:Int) (x2:Int) (h:Hp) (R:Value→Hp→Prop):Prop :=
 (0 ≤ (IntKind.wrap .u8 x0)∧(IntKind.wrap .u8 x0) < ((strC0.size:Nat):Int))∧R ((.int .i64 (IntKind.wrap .i64 (x2 + (IntKind.wrap .i64 ((strC0[(IntKind.wrap .u8 x0).toNat]?.getD 0).toNat)))):Value)) h
def f75K2  (x0:Int) (x2:Int) (h:Hp) (R:Value→Hp→Prop):Prop :=
 Cond (decide (x0 ≥ (256:Int))) (0 ≤ (8:Int)∧f75K3  (Int.fdiv x0 (2 ^ (min (8:Int).toNat (IntKind.bits .u64)))) (IntKind.wrap .i64 (x2 + (8:Int))) h R) (f75K3  x0 x2 h R)
def f75K1  (x0:Int) (x2:Int) (h:Hp) (R:Value→Hp→Prop):Prop :=
 Cond (decide (x0 ≥ (65536:Int))) (0 ≤ (16:Int)∧f75K2  (Int.fdiv x0 (2 ^ (min (16:Int).toNat (IntKind.bits .u64)))) (IntKind.wrap .i64 (x2 + (16:Int))) h R) (f75K2  x0 x2 h R)
def f75F (a0:Int) (h:Hp) (R:Value→Hp→Prop):Prop :=
 Cond (decide (a0 ≥ (4294967296:Int))) (0 ≤ (32:Int)∧f75K1  (Int.fdiv a0 (2 ^ (min (32:Int).toNat (IntKind.bits .u64)))) (32:Int) h R) (f75K1  a0 (0:Int) h R)
theorem f75F_eq (a0:Int) (h:Hp) (R:Value→Hp→Prop):evF Try.prog tab lv75 Try.f75 body75 [] [.int .u64 a0] h R=f75F a0 h R:=by kernel_rfl
theorem f75F_ok {a0:Int} {h:Hp} {R:Value→Hp→Prop} (hF:f75F a0 h R):CallTo Try.prog 75 #[.int .u64 a0] h R :=
 callTo_of_ev (lv:=lv75) (hints:=[]) (c:=body75) (args:=[.int .u64 a0]) mixed tab_ok Try.func75 (by kernel_rfl) (by kernel_rfl) (by rw [f75F_eq]; exact hF)
end Go.Ev
set_option linter.all false
set_option maxRecDepth 1000000
namespace Go.Ev
open Go.Proofs
theorem getD_set {l:List Int} {i j:Nat} {v:Int} (hi:i < l.length):(l.set i v).getD j 0=if i=j then v else l.getD j 0:=by
 rw [List.getD_eq_getElem?_getD,List.getD_eq_getElem?_getD,List.getElem?_set]
 split
 ·rfl
 ·rfl
/-- The order by which is sorted. -/
structure Ord (l:List Int) (lt:Int→Int→Prop):Prop where
 nd:l.Nodup
 tot:∀ a ∈ l,∀ b ∈ l,a ≠ b→lt a b ∨ lt b a
 tr:∀ a ∈ l,∀ b ∈ l,∀ c ∈ l,lt a b→lt b c→lt a c
 ir:∀ a ∈ l,¬ lt a a
def Srt (l:List Int) (lt:Int→Int→Prop) (n:Nat) (j:Nat):Prop:=∀ p q,p < q→q < n→q ≠ j→lt (l.getD p 0) (l.getD q 0)
theorem mem_getD {l:List Int} {i:Nat} (h:i < l.length):l.getD i 0 ∈ l:=by
 rw [List.getD_eq_getElem?_getD,List.getElem?_eq_getElem h]; exact List.getElem_mem h
theorem getD_inj {l:List Int} (nd:l.Nodup) {i j:Nat} (hi:i < l.length) (hj:j < l.length) (e:l.getD i 0=l.getD j 0):i=j:=by
 rw [List.getD_eq_getElem?_getD,List.getD_eq_getElem?_getD,List.getElem?_eq_getElem hi,List.getElem?_eq_getElem hj] at e
 exact (List.getElem_inj nd).1 e
theorem srt_swap {l l':List Int} {lt:Int→Int→Prop} (O:Ord l lt) (pm:l'.Perm l) {n j:Nat} (hn:n ≤ l'.length) (hj:j < n) (h0:0 < j) (s:Srt l' lt n j) (hlt:lt (l'.getD j 0) (l'.getD (j - 1) 0)) :
  Srt ((l'.set j (l'.getD (j - 1) 0)).set (j - 1) (l'.getD j 0)) lt n (j - 1):=by
 intro p q hpq hqn hqj
 have h1:j < l'.length:=by omega
 have h2:j - 1 < (l'.set j (l'.getD (j - 1) 0)).length:=by rw [List.length_set]; omega
 rw [getD_set h2,getD_set h2,getD_set h1,getD_set h1]
 rw [if_neg (show ¬ j - 1=q by omega)]
 by_cases e1:j - 1=p
 ·rw [if_pos e1]
  by_cases e2:j=q
  ·rw [if_pos e2]; exact hlt
  ·rw [if_neg e2]; exact s j q (by omega) hqn (by omega)
 ·rw [if_neg e1]
  by_cases e2:j=q
  ·rw [if_pos e2,if_neg (show ¬ j=p by omega)]
   exact s p (j - 1) (by omega) (by omega) (by omega)
  ·rw [if_neg e2]
   by_cases e3:j=p
   ·rw [if_pos e3]; exact s (j - 1) q (by omega) hqn (by omega)
   ·rw [if_neg e3]; exact s p q hpq hqn (by omega)
theorem srt_done {l l':List Int} {lt:Int→Int→Prop} (O:Ord l lt) (pm:l'.Perm l) {n j:Nat} (hn:n ≤ l'.length) (hj:j < n) (s:Srt l' lt n j) (hd:j=0 ∨ (0 < j∧¬ lt (l'.getD j 0) (l'.getD (j - 1) 0))):Srt l' lt n n:=by
 intro p q hpq hqn hqj
 by_cases e:q=j
 ·subst e
  rcases hd with e | ⟨h0,hnl⟩
  ·omega
  ·have m1:l'.getD q 0 ∈ l:=pm.mem_iff.1 (mem_getD (by omega))
   have m2:l'.getD (q - 1) 0 ∈ l:=pm.mem_iff.1 (mem_getD (by omega))
   have hne:l'.getD q 0 ≠ l'.getD (q - 1) 0:=fun e=>by have:=getD_inj (pm.symm.nodup O.nd) (by omega) (by omega) e; omega
   have h3:=(O.tot _ m1 _ m2 hne).resolve_left hnl
   by_cases e2:p=q - 1
   ·subst e2; exact h3
   ·exact O.tr _ (pm.mem_iff.1 (mem_getD (by omega))) _ m2 _ m1 (s p (q - 1) (by omega) (by omega) (by omega)) h3
 ·exact s p q hpq hqn e
theorem srt_eq {l l' T:List Int} {lt:Int→Int→Prop} (O:Ord l lt) (pm:l'.Perm l) (s:Srt l' lt l'.length l'.length) (tp:T.Perm l) (ts:T.Pairwise lt):l'=T:=by
 have sp:l'.Pairwise lt:=by
  rw [List.pairwise_iff_getElem]
  intro i j hi hj hij
  have:=s i j hij hj (by omega)
  rw [List.getD_eq_getElem?_getD,List.getD_eq_getElem?_getD,List.getElem?_eq_getElem hi,List.getElem?_eq_getElem hj] at this
  exact this
 refine List.Perm.eq_of_pairwise (fun a b ha hb h1 h2=>?_) sp ts (pm.trans tp.symm)
 have ma:=pm.mem_iff.1 ha
 have mb:=tp.mem_iff.1 hb
 exact absurd (O.tr _ ma _ mb _ ma h1 h2) (O.ir _ ma)
section
variable {h h':Hp} {R:Value→Hp→Prop}
/-- A list of numbers in a block of its own. -/
structure IL (h:Hp) (s:Sl) (c:Nat) (l:List Int):Prop where
 n:s.n=l.length
 at_:l ≠ []→s.a=some (ad c)
 row:l ≠ []→∃ junk,Row h c (l.map iv ++ junk)∧l.length + junk.length=s.c
 nl:l=[]→s=⟨none,0,0⟩
theorem IL.cell {s:Sl} {c:Nat} {l:List Int} (x:IL h s c l) {i:Nat} (hi:i < l.length):Go.Ev.cell h ((ad c).add (i * 1))=some (.int .i64 (l.getD i 0)):=by
 obtain ⟨junk,r,_⟩:=x.row (fun e=>by rw [e] at hi; simp at hi)
 rw [Nat.mul_one,add_ad]
 refine (cell_row r i).trans ?_
 rw [List.getElem?_append_left (by rw [List.length_map]; exact hi),List.getElem?_map,List.getD_eq_getElem?_getD,List.getElem?_eq_getElem hi]
 rfl
theorem IL.set {s:Sl} {c:Nat} {l:List Int} (x:IL h s c l) {i:Nat} (hi:i < l.length) (v:Int) {K:Hp→Prop} (hK:∀ h',IL h' s c (l.set i v)→Kept (fun b=>b=c) h h'→K h') :
  stOk h ((ad c).add (i * 1))∧Let (setc h ((ad c).add (i * 1)) (.int .i64 v)) fun h'=>K h':=by
 have hne:l ≠ []:=fun e=>by rw [e] at hi; simp at hi
 obtain ⟨junk,r,rc⟩:=x.row hne
 rw [Nat.mul_one]
 refine row_st r (i:=i) (add_ad _ _) (by rw [List.length_append,List.length_map]; omega) fun h' row k=>hK h' ⟨by rw [List.length_set]; exact x.n,fun _=>x.at_ hne,fun _=>⟨junk,?_,by rw [List.length_set]; exact rc⟩,fun e=>absurd (by rw [← List.length_eq_zero_iff,List.length_set] at e; exact List.length_eq_zero_iff.1 e) hne⟩ k
 rw [List.map_set,← List.set_append_left _ _ (by rw [List.length_map]; exact hi)]
 exact row
theorem wr {x:Int} (h0:-9223372036854775808 ≤ x) (h1:x < 9223372036854775808):IntKind.wrap .i64 x=x:=wrap_i64' h0 h1
/-- insertionSortCmpFunc: the list in order. -/
theorem isort_ok {s:Sl} {c:Nat} {l T:List Int} {lt:Int→Int→Prop} {f:Value} (x:IL h s c l) (O:Ord l lt) (tp:T.Perm l) (ts:T.Pairwise lt) (hn:l.length ≤ 12)
  (hd:∀ h',Kept (fun b=>l ≠ []∧b=c) h h'→∀ a ∈ l,∀ b ∈ l,Dyn Try.prog f [.int .i64 a,.int .i64 b] h' fun r h2=>∃ t:Int,r=.int .i64 t∧(t < 0 ↔ lt a b)∧h2=h')
  (hR:∀ h',IL h' s c T→Kept (fun b=>l ≠ []∧b=c) h h'→R (.tuple #[]) h'):CallTo Try.prog 66 #[.slice s.a s.n s.c,.int .i64 0,.int .i64 (l.length:Nat),f] h R:=by
 refine f66F_ok ?_
 unfold f66F
 have e1:IntKind.wrap .i64 ((0:Int) + 1)=((1:Nat):Int):=rfl
 rw [e1]
 have sl1:∀ l':List Int,l'.length ≤ 1→l'.length=l.length→l'.Perm l→l'=T:=fun l' h1 h2 pm=>srt_eq O pm (fun p q hpq hq _=>by omega) tp ts
 refine f66L1_rule (s0:=s) (fun m s0 s1 s2 s3 s8 h'=>∃ (i:Nat) (l':List Int),1 ≤ i∧m=20 - i∧i ≤ 13∧s=s0∧s1=0∧s2=((l.length:Nat):Int)∧f=s3∧s8=(i:Int)∧IL h' s c l'∧l'.Perm l∧Srt l' lt (min i l'.length) (min i l'.length)∧Kept (fun b=>l ≠ []∧b=c) h h') 19
  ⟨1,l,by omega,rfl,by omega,rfl,rfl,rfl,rfl,rfl,x,List.Perm.refl _,fun p q hpq hq _=>by omega,Kept.refl _ _⟩ ?_
 rintro m s0 s1 s2 s3 s8 g h1 ⟨i,l',hi1,rfl,hi13,rfl,rfl,rfl,rfl,rfl,xl,pm,srt,k1⟩
 unfold f66L1
 have ll:=pm.length_eq
 refine Cond_dec (fun hlt=>?_) fun hge=>?_
 ·have hil:i < l.length:=by omega
  have lne:l ≠ []:=fun e=>by rw [e] at hil; simp at hil
  refine f66L2_rule (s0:=s) (fun m t0 t1 t2 t3 t8 t9 h'=>∃ (j:Nat) (l':List Int),j=m∧j ≤ i∧s=t0∧t1=0∧t2=((l.length:Nat):Int)∧f=t3∧t8=(i:Int)∧t9=(j:Int)∧IL h' s c l'∧l'.Perm l∧Srt l' lt (i + 1) j∧Kept (fun b=>l ≠ []∧b=c) h h') i
   ⟨i,l',rfl,Nat.le_refl _,rfl,rfl,rfl,rfl,rfl,rfl,xl,pm,fun p q hpq hq hne=>srt p q hpq (by omega) (by omega),k1⟩ ?_
  clear xl pm srt k1 ll
  clear l'
  rintro m t0 t1 t2 t3 t8 t9 g2 h2 ⟨j,l',rfl,hji,rfl,rfl,rfl,rfl,rfl,rfl,xl,pm,srt,k2⟩
  have ll:=pm.length_eq
  have lne':l' ≠ []:=fun e=>by rw [e] at ll; simp at ll; omega
  unfold f66L2
  have fin:(j=0 ∨ (0 < j∧¬ lt (l'.getD j 0) (l'.getD (j - 1) 0)))→∀ J1 J2,(J1=fun m s0 s1 s2 s3 s8 h'=>∃ (i:Nat) (l':List Int),1 ≤ i∧m=20 - i∧i ≤ 13∧s=s0∧s1=0∧s2=((l.length:Nat):Int)∧f=s3∧s8=(i:Int)∧IL h' s c l'∧l'.Perm l∧Srt l' lt (min i l'.length) (min i l'.length)∧Kept (fun b=>l ≠ []∧b=c) h h') →
    f66K1 J1 (20 - i) J2 j s 0 ((l.length:Nat):Int) f (i:Int) (j:Int) false h2 R:=fun hd J1 J2 eJ=>by
   unfold f66K1
   subst eJ
   refine Cond_f rfl ⟨20 - (i + 1),by omega,i + 1,l',by omega,rfl,by omega,rfl,rfl,rfl,rfl,by rw [wr (by omega) (by omega)]; rfl,xl,pm,?_,k2⟩
   have e:min (i + 1) l'.length=i + 1:=by omega
   rw [e]
   exact srt_done O pm (by omega) (by omega) srt hd
  refine Cond_dec (fun hgt=>?_) fun hle=>fin (.inl (by omega)) _ _ rfl
  have hj0:0 < j:=by omega
  have em:IntKind.wrap .i64 ((j:Int) - 1)=((j - 1:Nat):Int):=by rw [wr (by omega) (by omega)]; omega
  have hsn:s.n=l'.length:=xl.n
  have b1:(0:Int) ≤ ((j:Nat):Int)∧((j:Nat):Int) < ((s.n:Nat):Int):=⟨by omega,by omega⟩
  have b2:(0:Int) ≤ ((j - 1:Nat):Int)∧((j - 1:Nat):Int) < ((s.n:Nat):Int):=⟨by omega,by omega⟩
  rw [em]
  simp only [Int.toNat_natCast]
  have cj:=xl.cell (i:=j) (by omega)
  have cj1:=xl.cell (i:=j - 1) (by omega)
  refine ⟨b1,PtrOk_of (xl.at_ lne') ⟨_,cj,b2,PtrOk_of (xl.at_ lne') ⟨_,cj1,?_⟩⟩⟩
  have ma:l'.getD j 0 ∈ l:=pm.mem_iff.1 (mem_getD (by omega))
  have mb:l'.getD (j - 1) 0 ∈ l:=pm.mem_iff.1 (mem_getD (by omega))
  obtain ⟨gg,first,cap,ev,cl,hc⟩:=hd h2 k2 _ ma _ mb
  refine ⟨gg,first,cap,ev,cl,hc.mono fun r h3 ⟨t,er,ht,eh⟩=>⟨t,er,?_⟩⟩
  subst eh
  refine if hneg:t < 0 then ?_ else ?_
  ·rw [decide_eq_true hneg]
   unfold f66K1
   rw [em]
   simp only [Int.toNat_natCast]
   refine Cond_t rfl ⟨b2,PtrOk_of (xl.at_ lne') ⟨_,cj1,b1,PtrOk_of (xl.at_ lne') ⟨_,cj,b1,PtrOk_of (xl.at_ lne') (xl.set (by omega) _ fun h4 x4 k4=>⟨b2,PtrOk_of (xl.at_ lne') (x4.set (by rw [List.length_set]; omega) _ fun h5 x5 k5=>?_)⟩)⟩⟩⟩
   have k25:Kept (fun b=>l ≠ []∧b=c) h h5:=k2.trans ((k4.trans k5).mono fun b _ e=>⟨lne,e⟩)
   refine ⟨j - 1,by omega,j - 1,_,rfl,by omega,(by first | rfl | trivial),(by first | rfl | trivial),(by first | rfl | trivial),(by first | rfl | trivial),(by first | rfl | trivial),(by first | rfl | trivial),x5,?_,srt_swap O pm (by omega) (by omega) hj0 srt (ht.1 hneg),k25⟩
   refine List.Perm.trans ?_ pm
   have hj':j < l'.length:=by omega
   have hj1':j - 1 < l'.length:=by omega
   have:=List.set_set_perm hj' hj1'
   rw [List.getD_eq_getElem?_getD,List.getD_eq_getElem?_getD,List.getElem?_eq_getElem hj',List.getElem?_eq_getElem hj1']
   exact this
  ·rw [decide_eq_false hneg]
   exact fin (.inr ⟨hj0,fun e=>hneg (ht.2 e)⟩) _ _ rfl
 ·have e:min i l'.length=l'.length:=by omega
  rw [e] at srt
  have:l'=T:=srt_eq O pm srt tp ts
  subst this
  exact hR h1 xl k1
theorem blen_ok {n:Nat} (hn:n ≤ 12) (hR:∀ t:Int,R (.int .i64 t) h):CallTo Try.prog 55 #[.int .u64 (n:Nat)] h R:=by
 refine f55F_ok ?_
 unfold f55F
 refine f75F_ok ?_
 unfold f75F
 refine Cond_dec (fun hc=>by omega) fun _=>?_
 unfold f75K1
 refine Cond_dec (fun hc=>by omega) fun _=>?_
 unfold f75K2
 refine Cond_dec (fun hc=>by omega) fun _=>?_
 unfold f75K3
 have e:IntKind.wrap .u8 ((n:Nat):Int)=(n:Int):=by rw [wrap_u8']; omega
 rw [e]
 have hs:strC0.size=256:=by kernel_rfl
 rw [hs]
 exact ⟨⟨by omega,by omega⟩,_,rfl,hR _⟩
/-- pdqsortCmpFunc of a short list. -/
theorem pdq_ok {s:Sl} {c:Nat} {l T:List Int} {lt:Int→Int→Prop} {f:Value} {m:Int} (x:IL h s c l) (O:Ord l lt) (tp:T.Perm l) (ts:T.Pairwise lt) (hn:l.length ≤ 12)
  (hd:∀ h',Kept (fun b=>l ≠ []∧b=c) h h'→∀ a ∈ l,∀ b ∈ l,Dyn Try.prog f [.int .i64 a,.int .i64 b] h' fun r h2=>∃ t:Int,r=.int .i64 t∧(t < 0 ↔ lt a b)∧h2=h')
  (hR:∀ h',IL h' s c T→Kept (fun b=>l ≠ []∧b=c) h h'→R (.tuple #[]) h'):CallTo Try.prog 54 #[.slice s.a s.n s.c,.int .i64 0,.int .i64 (l.length:Nat),.int .i64 m,f] h R:=by
 refine f54F_ok ?_
 unfold f54F
 refine f54L1_rule (s0:=s) (fun _ s0 s1 s2 s3 s4 s10 s11 h'=>s=s0∧s1=0∧s2=((l.length:Nat):Int)∧f=s4∧h=h') 0 ⟨rfl,rfl,rfl,rfl,rfl⟩ ?_
 rintro n s0 s1 s2 s3 s4 s10 s11 g h1 ⟨rfl,rfl,rfl,rfl,rfl⟩
 unfold f54L1
 rw [wr (x:=((l.length:Nat):Int) - 0) (by omega) (by omega)]
 exact Cond_dec (fun _=>isort_ok x O tp ts hn hd fun h' x' k'=>⟨rfl,hR h' x' k'⟩) fun hc=>by omega
theorem sortf_ok {s:Sl} {c:Nat} {l T:List Int} {lt:Int→Int→Prop} {f:Value} (x:IL h s c l) (O:Ord l lt) (tp:T.Perm l) (ts:T.Pairwise lt) (hn:l.length ≤ 12)
  (hd:∀ h',Kept (fun b=>l ≠ []∧b=c) h h'→∀ a ∈ l,∀ b ∈ l,Dyn Try.prog f [.int .i64 a,.int .i64 b] h' fun r h2=>∃ t:Int,r=.int .i64 t∧(t < 0 ↔ lt a b)∧h2=h')
  (hR:∀ h',IL h' s c T→Kept (fun b=>l ≠ []∧b=c) h h'→R (.tuple #[]) h'):CallTo Try.prog 27 #[.slice s.a s.n s.c,f] h R:=by
 refine f27F_ok (a0:=s) ?_
 unfold f27F
 have hsn:=x.n
 have e:IntKind.wrap .u64 ((s.n:Nat):Int)=((l.length:Nat):Int):=by rw [hsn,wrap_u64' (by omega) (by omega)]
 rw [e,hsn]
 exact blen_ok hn fun t=>⟨t,rfl,by have:=pdq_ok (m:=t) (R:=fun r h2=>r=.tuple #[]∧R (.tuple #[]:Value) h2) x O tp ts hn hd fun h' x' k'=>⟨rfl,hR h' x' k'⟩; rw [hsn] at this; exact this⟩
def cmpV (a b:Int):Int:=if a < b then -1 else if a > b then 1 else 0
theorem cmpV_lt {a b:Int}:cmpV a b < 0 ↔ a < b:=by unfold cmpV; split <;> (try split) <;> omega
theorem cmpV_eq {a b:Int}:cmpV a b=0 ↔ a=b:=by unfold cmpV; split <;> (try split) <;> omega
theorem cmpi_ok {a b:Int} (hR:R (.int .i64 (cmpV a b)) h):CallTo Try.prog 29 #[.int .i64 a,.int .i64 b] h R:=by
 refine f29F_ok ?_
 unfold f29F
 refine f56F_ok ?_
 unfold f56F
 refine ⟨_,rfl,f56F_ok ?_⟩
 unfold f56F
 refine ⟨_,rfl,?_⟩
 unfold cmpV at hR
 refine Cond_f (bne_self_eq_false _) (Cond_f (bne_self_eq_false _) (Cond_dec (fun h1=>by rw [if_pos h1] at hR; exact hR) fun h1=>Cond_dec (fun h2=>by rw [if_neg h1,if_pos h2] at hR; exact hR) fun h2=>by rw [if_neg h1,if_neg h2] at hR; exact hR))
theorem cmpu_ok {a b:Int} (hR:R (.int .i64 (cmpV a b)) h):CallTo Try.prog 31 #[.int .u64 a,.int .u64 b] h R:=by
 refine f31F_ok ?_
 unfold f31F
 refine f57F_ok ?_
 unfold f57F
 refine ⟨_,rfl,f57F_ok ?_⟩
 unfold f57F
 refine ⟨_,rfl,?_⟩
 unfold cmpV at hR
 refine Cond_f (bne_self_eq_false _) (Cond_f (bne_self_eq_false _) (Cond_dec (fun h1=>by rw [if_pos h1] at hR; exact hR) fun h1=>Cond_dec (fun h2=>by rw [if_neg h1,if_pos h2] at hR; exact hR) fun h2=>by rw [if_neg h1,if_neg h2] at hR; exact hR))
theorem SlAt.il {a:Option Addr} {n c:Nat} {ob:Option Nat} {l:List Int} (s:SlAt 1 h a n c ob (l.map iv)) (hn:ob=none ∨ l ≠ []):∃ b,IL h ⟨a,n,c⟩ b l∧(l ≠ []→ob=some b):=by
 have hl:l.length=n:=by have:=s.len; rw [List.length_map] at this; omega
 cases e:ob with
 | none =>
  obtain ⟨h1,h2,h3⟩:=s.nil e
  have l0:l=[]:=List.length_eq_zero_iff.1 (by omega)
  subst l0 h1 h2 h3
  exact ⟨0,⟨rfl,fun z=>absurd rfl z,fun z=>absurd rfl z,fun _=>rfl⟩,fun z=>absurd rfl z⟩
 | some b =>
  obtain ⟨h1,h2,j,h3,h4⟩:=s.row b e
  have hne:l ≠ []:=hn.resolve_left fun z=>by rw [e] at z; cases z
  refine ⟨b,⟨hl.symm,fun _=>h1,fun _=>⟨j,h3,?_⟩,fun z=>absurd z hne⟩,fun _=>rfl⟩
  rw [List.length_map] at h4
  show l.length + j.length=c
  omega
theorem kept_fresh {S:Nat→Prop} {a b c:Hp} (k:Kept N a b) (k2:Kept S b c) (hS:∀ i,S i→a.size ≤ i):Kept N a c :=
 ⟨Nat.le_trans k.1 k2.1,fun i hi _=>(k2.2 i (Nat.lt_of_lt_of_le hi k.1) fun hs=>by have:=hS i hs; omega).trans (k.2 i hi _root_.id)⟩
end
end Go.Ev
