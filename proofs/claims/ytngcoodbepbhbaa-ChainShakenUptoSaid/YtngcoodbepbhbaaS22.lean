/- ChainShaken: one step on both heaps / ChainShaken: the law's own call / ChainShaken's argument, out of the datum that is read. No condition but that these are ones. -/
import Derived.Test.YtngcoodbepbhbaaS21
set_option linter.all false
set_option maxRecDepth 1000000
namespace Go.Ev
open Go.Proofs
/-- The step on both. -/
def f7T (s3 s4 ob:Addr) (K:Hp→Prop) (h:Hp) (R:Value→Hp→Prop):Prop :=
 ∃ t160:Int,cell h (ob.add 1)=some (.int .i64 t160)∧CallTo Try.prog 10 #[.int .i64 t160,.int .i64 2] h fun r h37=>∃ t161:Int,r=.int .i64 t161∧(0 ≤ t161∧t161 < ((2:Nat):Int))∧∃ t164:Option Addr,cell h37 (s3.add (t161.toNat * 1))=some (.pointer t164)∧∃ t165_0:Int,cell h37 ob=some (.int .i64 t165_0)∧∃ t165_1:Int,cell h37 (ob.add 1)=some (.int .i64 t165_1)∧∃ t165_2:Int,cell h37 (ob.add 2)=some (.int .i64 t165_2)∧∃ t165_3:Bool,cell h37 (ob.add 3)=some (.bool t165_3)∧∃ t165_4:Int,cell h37 (ob.add 4)=some (.int .i64 t165_4)∧∃ t165_5:Int,cell h37 (ob.add 5)=some (.int .i64 t165_5)∧∃ t165_6:Sl,cell h37 (ob.add 6)=some (.slice t165_6.a t165_6.n t165_6.c)∧CallTo Try.prog 33 #[.pointer t164,.agg #[.int .i64 t165_0,.int .i64 t165_1,.int .i64 t165_2,.bool t165_3,.int .i64 t165_4,.int .i64 t165_5,.slice t165_6.a t165_6.n t165_6.c]] h37 fun r h38=>∃ t166:Sl,r=.slice t166.a t166.n t166.c∧(0 ≤ t161∧t161 < ((2:Nat):Int))∧∃ t169:Option Addr,cell h38 (s4.add (t161.toNat * 1))=some (.pointer t169)∧∃ t170_0:Int,cell h38 ob=some (.int .i64 t170_0)∧∃ t170_1:Int,cell h38 (ob.add 1)=some (.int .i64 t170_1)∧∃ t170_2:Int,cell h38 (ob.add 2)=some (.int .i64 t170_2)∧∃ t170_3:Bool,cell h38 (ob.add 3)=some (.bool t170_3)∧∃ t170_4:Int,cell h38 (ob.add 4)=some (.int .i64 t170_4)∧∃ t170_5:Int,cell h38 (ob.add 5)=some (.int .i64 t170_5)∧∃ t170_6:Sl,cell h38 (ob.add 6)=some (.slice t170_6.a t170_6.n t170_6.c)∧CallTo Try.prog 33 #[.pointer t169,.agg #[.int .i64 t170_0,.int .i64 t170_1,.int .i64 t170_2,.bool t170_3,.int .i64 t170_4,.int .i64 t170_5,.slice t170_6.a t170_6.n t170_6.c]] h38 fun r h39=>∃ t171:Sl,r=.slice t171.a t171.n t171.c∧CallTo Try.prog 18 #[.slice t166.a t166.n t166.c,.slice t171.a t171.n t171.c] h39 fun r h40=>∃ t174:Bool,r=.bool t174∧Cond (!t174) (R (.bool false:Value) h40) (K h40)
/-- A step of a script. -/
structure OpD where
 k:Int
 x1:Int
 x2:Int
 fr:Bool
 i:Int
 m:Int
 a:Sl
 b:List Nat
def OpD.cells (o:OpD):List Value:=[.int .i64 o.k,.int .i64 o.x1,.int .i64 o.x2,.bool o.fr,.int .i64 o.i,.int .i64 o.m,.slice o.a.a o.a.n o.a.c]
structure OpD.Ok (h:Hp) (o:OpD):Prop where
 bt:Bt h o.a o.b
 k:-9223372036854775808 ≤ o.k∧o.k < 9223372036854775808
 x1:-9223372036854775808 ≤ o.x1∧o.x1 < 9223372036854775808
 i:-9223372036854775808 ≤ o.i∧o.i < 9223372036854775808
 m:-9223372036854775808 ≤ o.m∧o.m < 9223372036854775808
section
variable {h h' h2 h0 h1:Hp} {q q' q2:HQ} {s s' s2:RS} {nd nd' nd2:List NodeD} {n:NodeD} {id hn m:Nat} {L Lb:Nat→LD} {L' L2:LD} {R:Value→Hp→Prop} {b:List Nat} {lb lb':Nat→Nat} {S:Nat→Prop} {o:OpD} {ob b3 b4:Nat} {a:Sl}
theorem Bt.src0 (y:Bt h0 a b) (k:Kept N h0 h) (f:Frsh h0 q):Src h q a b :=
 ⟨reads_keptN k y.rd,y.n,y.b8,fun p hp hn=>⟨f.old (y.out p hp hn),Nat.lt_of_lt_of_le (y.out p hp hn) k.1⟩⟩
theorem exrow {c:Nat} {cs:List Value} (e:Ex h q h' q') (r:Row h c cs) (ho:q.role c=.out):Row h' c cs:=kept_row e.kept r fun hn=>hn ho
theorem told1_len {rows:List (List Nat)} {k i m:Int} {fr:Bool} (hr:∀ r ∈ rows,r.length ≤ 4096) (hn:rows.length ≤ 2097152):(told1 rows k fr i m b).1.length ≤ 10000000000:=by
 have gd:∀ j:Nat,((rows[j]?).getD []).length ≤ 4096:=fun j=>by
  cases e:rows[j]? with
  | none=>simp
  | some r=>exact hr r (List.mem_of_getElem? e)
 unfold told1
 split; · simp
 split; · simp
 split; · simp
 split; · simp
 split
 ·split
  ·simp
  ·have:=gd (if fr=true then 0 else rows.length - 1); simp only [List.length_append,List.length_cons,List.length_nil]; omega
 split
 ·show (if InL rows.length i 1 then _ else _:List Nat).length ≤ _
  split
  ·have:=gd i.toNat; simp only [List.length_append,List.length_cons,List.length_nil]; omega
  ·simp
 split; · simp
 split
 ·show (if InL rows.length i m then _ else _:List Nat).length ≤ _
  split
  ·have:=told2_le (rows:=(rows.drop i.toNat).take m.toNat) fun r h=>hr r (List.mem_of_mem_drop (List.mem_of_mem_take h))
   have h2:((rows.drop i.toNat).take m.toNat).length ≤ 2097152:=by rw [List.length_take,List.length_drop]; omega
   simp only [List.length_append,List.length_cons,List.length_nil]; omega
  ·simp
 split <;> simp
theorem Frsh.less (f:Frsh h1 q) (k:h0.size ≤ h1.size):Frsh h0 q:=fun b hb=>Nat.le_trans k (f b hb)
theorem kept_base (k0:Kept N h0 h1) (hS:∀ b,S b→h0.size ≤ b) (k:Kept S h1 h):Kept N h0 h :=
 ⟨Nat.le_trans k0.1 k.1,fun j hj _=>(k.2 j (Nat.lt_of_lt_of_le hj k0.1) fun hs=>by have:=hS j hs; omega).trans (k0.2 j hj _root_.id)⟩
/-- The lists' places in an array of two. -/
def ptr2 (m:Nat) (lb:Nat→Nat):List Value:=[.pointer (if 0 < m then some (ad (lb 0)) else none),.pointer (if 1 < m then some (ad (lb 1)) else none)]
theorem ptr2_get {k:Nat} (hk:k < 2) (m:Nat):(ptr2 m lb)[k]?=some (.pointer (if k < m then some (ad (lb k)) else none)):=by
 match k,hk with
 | 0,_=>rfl
 | 1,_=>rfl
theorem wtM_set {k:Nat} (hk:k < 2) {d:Nat} (h:wt L'.rows ≤ wt (L k).rows + d):wtM (setLD L k L') 2 ≤ wtM L 2 + d:=by
 unfold wtM wtM wtM
 match k,hk with
 | 0,_ =>
  rw [setLD_self,setLD_ne (by omega)]; omega
 | 1,_ =>
  rw [setLD_self,setLD_ne (by omega)]; omega
theorem tail_ok (x:Two S h1 h 2 q s nd lb L 2 q' s' nd' lb' Lb) (k0:Kept N h0 h1) (hS:∀ b,S b→h0.size ≤ b) (er:∀ k,k < 2→(L k).rows=(Lb k).rows) (hw:wtM L 2 ≤ 131150) (hwb:wtM Lb 2 ≤ 131150) (hz:2 + wordsN o.b.length ≤ 131200)
  (h3:b3 < h1.size) (h4:b4 < h1.size) (r3:Row h b3 (ptr2 2 lb)) (r4:Row h b4 (ptr2 2 lb')) (ro:Row h ob o.cells) (ho:q.role ob=.out) (ho':q'.role ob=.out) (ok:o.Ok h0) {K:Hp→Prop}
  (hK:∀ h2 q2 s2 nd2 L2 q3 s3 nd3 L3,Two S h1 h2 2 q2 s2 nd2 lb L2 2 q3 s3 nd3 lb' L3→(∀ k,k < 2→(L2 k).rows=(L3 k).rows)→wtM L2 2 ≤ wtM L 2 + (16 + o.b.length / 8)→wtM L3 2 ≤ wtM Lb 2 + (16 + o.b.length / 8)→Row h2 b3 (ptr2 2 lb)→Row h2 b4 (ptr2 2 lb')→q2.hb=q.hb→q3.hb=q'.hb→K h2):f7T (ad b3) (ad b4) (ad ob) K h R:=by
 unfold f7T
 have cl:∀ {g:Hp} (_:Row g ob o.cells) (j:Nat) (v:Value),o.cells[j]?=some v→cell g ((ad ob).add j)=some v:=fun {g} rg j v hv=>by
  rw [add_ad]; exact (cell_row rg j).trans hv
 have bt:=ok.bt
 refine ⟨o.x1,cl ro 1 _ rfl,lwithin (m:=2) (by omega) (by omega) ok.x1 ⟨_,rfl,?_⟩⟩
 have m1:=Int.emod_nonneg o.x1 (b:=((2:Nat):Int)) (by omega)
 have m2:=Int.emod_lt_of_pos o.x1 (b:=((2:Nat):Int)) (by omega)
 obtain ⟨j,hj⟩:=Int.eq_ofNat_of_zero_le m1
 rw [hj] at m2 ⊢
 have hj2:j < 2:=by omega
 have bnd:(0:Int) ≤ (j:Int)∧(j:Int) < ((2:Nat):Int):=⟨by omega,by omega⟩
 have arr:∀ {g:Hp} {bb:Nat} {lx:Nat→Nat},Row g bb (ptr2 2 lx)→cell g ((ad bb).add ((j:Int).toNat * 1))=some (.pointer (some (ad (lx j)))):=fun {g bb lx} rg=>by
  rw [add_ad,Int.toNat_natCast,Nat.mul_one,cell_row rg j,ptr2_get hj2,if_pos hj2]
 refine ⟨bnd,_,arr r3,o.k,(by have:=cl ro 0 _ rfl; exact this),o.x1,cl ro 1 _ rfl,o.x2,cl ro 2 _ rfl,o.fr,cl ro 3 _ rfl,o.i,cl ro 4 _ rfl,o.m,cl ro 5 _ rfl,o.a,cl ro 6 _ rfl,?_⟩
 have kb:=kept_base k0 hS x.k
 have hrl:=x.a.rl
 have hrl':=x.b.rl
 refine told_ok (x.a.o j hj2) (bt.src0 kb (x.fa.less k0.1)) bt.lt (by omega) ok.k ok.i ok.m (x.a.room hw hz) fun h5 q5 s5 nd5 L5 M5 w5 af5 by5 er5=>⟨w5,rfl,?_⟩
 have x5:=x.act1 (x.a.aft hj2 af5) af5.ex
 have ro5:=exrow af5.ex ro ho
 have ho5:=af5.ex.out (row_lt ro) ho
 have r35:=exrow af5.ex r3 (x.fa.old h3)
 have r45:=exrow af5.ex r4 (x.fa.old h4)
 refine ⟨bnd,_,arr r45,o.k,(by have:=cl ro5 0 _ rfl; exact this),o.x1,cl ro5 1 _ rfl,o.x2,cl ro5 2 _ rfl,o.fr,cl ro5 3 _ rfl,o.i,cl ro5 4 _ rfl,o.m,cl ro5 5 _ rfl,o.a,cl ro5 6 _ rfl,?_⟩
 have kb5:=kept_base k0 hS x5.k
 refine told_ok (x5.b.o j hj2) (bt.src0 kb5 (x5.fb.less k0.1)) bt.lt (by omega) ok.k ok.i ok.m (x5.b.room hwb hz) fun h6 q6 s6 nd6 L6 M6 w6 af6 by6 er6=>⟨w6,rfl,?_⟩
 have x6:=(x5.swap.act1 (x5.b.aft hj2 af6) af6.ex).swap
 have r36:=exrow af6.ex r35 (x5.fb.old h3)
 have r46:=exrow af6.ex r45 (x5.fb.old h4)
 have by56:By h h5 q' M5 w5 (byt o.k :: (told1 (L j).rows o.k o.fr o.i o.m o.b).1):=⟨by5.sep,by5.sl,fun b hb=>⟨(by5.own b hb).1,x.b.g.st.fr (by5.own b hb).1⟩⟩
 have by5':=by56.ex af6.ex
 rw [← er j hj2] at by6 er6
 have lenb:(byt o.k :: (told1 (L j).rows o.k o.fr o.i o.m o.b).1).length < 9223372036854775807:=by
  have oj:=x.a.o j hj2
  have:=told1_len (rows:=(L j).rows) (k:=o.k) (i:=o.i) (m:=o.m) (fr:=o.fr) (b:=o.b) (fun r hr=>by
   obtain ⟨i,hi⟩:=List.mem_iff_getElem?.1 hr
   exact (oj.c.bn i r hi).2.len) oj.len
  rw [List.length_cons]; omega
 refine leq by5'.reads by6.reads by5'.len by6.len lenb ⟨_,rfl,Cond_f rfl ?_⟩
 have hwt:=wt_told (L j).rows o.k o.fr o.i o.m o.b
 refine hK h6 _ _ _ _ _ _ _ _ x6 (fun k hk=>?_) (wtM_set hj2 (by rw [er5]; exact hwt)) (wtM_set hj2 (by rw [er6,← er j hj2]; exact hwt)) r36 r46 af5.ex.1 af6.ex.1
 unfold setLD
 split
 ·rw [er5,er6]
 ·exact er k hk
end
end Go.Ev
set_option linter.all false
set_option maxRecDepth 1000000
namespace Go.Ev
open Go.Proofs
/-- A script, where it lies. -/
structure Ops (h:Hp) (a:Sl) (ops:List OpD):Prop where
 n:a.n=ops.length
 at_:∀ (i:Nat) (o:OpD),ops[i]?=some o→∃ p,a.a=some p∧(∀ (j:Nat) (v:Value),o.cells[j]?=some v→cell h ((p.add (i * 7)).add j)=some v)∧o.Ok h
section
variable {h h' h2 h0 h1:Hp} {q q' q2:HQ} {s s' s2:RS} {nd nd' nd2:List NodeD} {n:NodeD} {id hn m:Nat} {L Lb:Nat→LD} {L' L2:LD} {R:Value→Hp→Prop} {b:List Nat} {lb lb':Nat→Nat} {S:Nat→Prop} {o:OpD} {ob b3 b4:Nat} {a:Sl} {ops:List OpD}
theorem cell_keptN {p:Addr} {v:Value} (k:Kept N h h') (e:cell h p=some v):cell h' p=some v:=by
 have hb:p.block < h.size:=Nat.lt_of_not_le fun hle=>by
  unfold cell at e
  rw [Array.getElem?_eq_none hle] at e
  cases e
 unfold cell at e ⊢
 rw [k.2 _ hb _root_.id]
 exact e
theorem RowsAt.rl {a:Sl} {M:Mem} {cs:List Nat} {rows:List (List Nat)} (x:RowsAt h0 h a M cs rows) (ho:∀ b,M.own b→q.role b=.out) (b8:∀ r ∈ rows,Bytes8 r∧r.length ≤ 4096):RL h q a (rowSls cs rows) rows:=by
 refine ⟨slAt_reads (x.sl.slAt x.sep),by rw [x.n_eq,rowSls_len x.len],rowSls_len x.len,fun i c r hc hr=>?_,fun p hp hn=>?_⟩
 ·obtain ⟨d,bk,hcs,_,_,row,_⟩:=x.get hr
  have hc2:=rowSls_get hcs hr
  rw [hc] at hc2
  obtain rfl:=Option.some.inj hc2
  have b:=b8 r (List.mem_of_getElem? hr)
  have e1:=(x.el i d r hcs hr).1
  exact ⟨row_src row b.1 (ho d ⟨_,e1⟩),Nat.le_refl _,by have:=b.2; omega⟩
 ·obtain ⟨c,hb,ha⟩:=x.sl.some_of (fun e=>hn (List.map_eq_nil_iff.1 e))
  rw [hp] at ha
  obtain rfl:p=ad c:=Option.some.inj ha
  exact ⟨ho c ⟨0,hb⟩,x.sep.lt hb⟩
theorem wtM_le {c:Nat}:∀ {m:Nat},(∀ k,k < m→wt (L k).rows ≤ c)→wtM L m ≤ c * m
 | 0,_=>Nat.zero_le _
 | m + 1,h=>by
  have h1:=wtM_le (m:=m) fun k hk=>h k (by omega)
  have h2:=h m (by omega)
  show wtM L m + wt (L m).rows ≤ _
  rw [Nat.mul_succ]; omega
theorem ptr2_set {i b:Nat} (hi:i < 2):(ptr2 i lb).set i (.pointer (some (ad b)))=ptr2 (i + 1) (setN lb i b):=by
 match i,hi with
 | 0,_=>rfl
 | 1,_=>rfl
/-- Ahead of the lists: so many are made. -/
def sJ1 (S:Nat→Prop) (h1:Hp) (hb b3 b4:Nat) (p:Nat) (s1 s3 s4:Addr) (s5 s7:Option Addr) (s9:Int) (h:Hp):Prop :=
 ∃ (i:Nat) (q:HQ) (s:RS) (nd:List NodeD) (lb:Nat→Nat) (L:Nat→LD) (q':HQ) (s':RS) (nd':List NodeD) (lb':Nat→Nat) (Lb:Nat→LD),i ≤ 2∧p=2 - i∧ad hb=s1∧ad b3=s3∧ad b4=s4∧s5=some (ad q.hb)∧s7=some (ad q'.hb)∧s9=(i:Int) ∧
  Two S h1 h i q s nd lb L i q' s' nd' lb' Lb∧(∀ k,k < i→(L k).rows=[[byt k]])∧(∀ k,k < i→(Lb k).rows=[[byt k]])∧Row h b3 (ptr2 i lb)∧Row h b4 (ptr2 i lb')
/-- In the midst of the script. -/
def sJ2 (S:Nat→Prop) (h1:Hp) (hb b3 b4 N0:Nat) (p:Nat) (s1 s3 s4:Addr) (s5 s7:Option Addr) (s14 s15:Int) (h:Hp):Prop :=
 ∃ (i w:Nat) (q:HQ) (s:RS) (nd:List NodeD) (lb:Nat→Nat) (L:Nat→LD) (q':HQ) (s':RS) (nd':List NodeD) (lb':Nat→Nat) (Lb:Nat→LD),i ≤ N0∧p=N0 - i∧ad hb=s1∧ad b3=s3∧ad b4=s4∧s5=some (ad q.hb)∧s7=some (ad q'.hb)∧s14=(w:Int)∧s15=(i:Int)∧w ≤ 131072 ∧
  Two S h1 h 2 q s nd lb L 2 q' s' nd' lb' Lb∧(∀ k,k < 2→(L k).rows=(Lb k).rows)∧wtM L 2 ≤ 32 + w∧wtM Lb 2 ≤ 32 + w∧Row h b3 (ptr2 2 lb)∧Row h b4 (ptr2 2 lb')
def sJ3 (S:Nat→Prop) (h1:Hp) (b3 b4:Nat) (p:Nat) (s3 s4:Addr) (s5 s7:Option Addr) (s21:Int) (h:Hp):Prop :=
 ∃ (i:Nat) (q:HQ) (s:RS) (nd:List NodeD) (lb:Nat→Nat) (L:Nat→LD) (q':HQ) (s':RS) (nd':List NodeD) (lb':Nat→Nat) (Lb:Nat→LD),i ≤ 2∧p=2 - i∧ad b3=s3∧ad b4=s4∧s5=some (ad q.hb)∧s7=some (ad q'.hb)∧s21=(i:Int) ∧
  Two S h1 h 2 q s nd lb L 2 q' s' nd' lb' Lb∧(∀ k,k < 2→(L k).rows=(Lb k).rows)∧Row h b3 (ptr2 2 lb)∧Row h b4 (ptr2 2 lb')
theorem shaken_ok {a0 a1:Sl} {zs:List Int} (y:Ops h a0 ops) (z:ReadsO h a1.a (zs.map (Value.int .i64))) (zn:a1.n=zs.length) (hR:∀ h',Kept N h h'→R (.bool true) h') :
  CallTo Try.prog 7 #[.agg #[.slice a0.a a0.n a0.c,.slice a1.a a1.n a1.c]] h R:=by
 refine f7F_ok ?_
 unfold f7F
 refine Let_mk fun h1 e1=>Let_mk fun h2 e2=>Let_mk fun h3 e3=>?_
 have k1:Kept N h h1:=e1 ▸ kept_push _ _ _
 have k2:Kept N h1 h2:=e2 ▸ kept_push _ _ _
 have k3:Kept N h2 h3:=e3 ▸ kept_push _ _ _
 have row1:Row h1 h.size [.slice a0.a a0.n a0.c,.slice a1.a a1.n a1.c]:=e1 ▸ row_new h #[.slice a0.a a0.n a0.c,.slice a1.a a1.n a1.c] _
 have row2:Row h2 h1.size (ptr2 0 fun _=>0):=e2 ▸ row_new h1 #[.pointer none,.pointer none] _
 have row3:Row h3 h2.size (ptr2 0 fun _=>0):=e3 ▸ row_new h2 #[.pointer none,.pointer none] _
 have rowA:Row h3 h.size [.slice a0.a a0.n a0.c,.slice a1.a a1.n a1.c]:=kept_row k3 (kept_row k2 row1 _root_.id) _root_.id
 have rowB:Row h3 h1.size (ptr2 0 fun _=>0):=kept_row k3 row2 _root_.id
 have z1:h.size < h1.size:=row_lt row1
 have z2:h1.size < h2.size:=row_lt row2
 have z3:h2.size < h3.size:=row_lt row3
 have k03:=kept_tr k1 (kept_tr k2 k3)
 have z2':h1.size < h3.size:=by omega
 have z3':h2.size < h3.size:=z3
 clear e1 e2 e3
 rw [show nb h=ad h.size from rfl,show nb h1=ad h1.size from rfl,show nb h2=ad h2.size from rfl]
 generalize hS:(fun b=>b=h1.size ∨ b=h2.size:Nat→Prop)=S
 have hSge:∀ b,S b→h.size ≤ b:=fun b hb=>by rw [← hS] at hb; rcases hb with e | e <;> omega
 have hS3:S h1.size:=by rw [← hS]; exact .inl rfl
 have hS4:S h2.size:=by rw [← hS]; exact .inr rfl
 have hSA:¬ S h.size:=by rw [← hS]; rintro (e | e) <;> omega
 -- the end: what lies there is compared
 have l3:∀ {g:Hp} {q s nd lb L q' s' nd' lb' Lb},Two S h3 g 2 q s nd lb L 2 q' s' nd' lb' Lb→(∀ k,k < 2→(L k).rows=(Lb k).rows)→Row g h1.size (ptr2 2 lb)→Row g h2.size (ptr2 2 lb') →
   LoopEv (evC Try.prog tab lv7 (sub [1,1,1,1,1,1,1,1,0,1,0,0] body7)) (contAt Try.prog tab lv7 [1,1,1,1,1,1,1,1,0,1,0] body7 [] (bodyK Try.prog Try.f7 [] R)) [(3,.pointer (some (ad h1.size))),(4,.pointer (some (ad h2.size))),(5,.pointer (some (ad q.hb))),(7,.pointer (some (ad q'.hb))),(21,.int .i64 0)] 232 g:=fun {g q s nd lb L q' s' nd' lb' Lb} x er r3 r4=>by
  refine f7L3_rule (sJ3 S h3 h1.size h2.size) 2 ⟨0,q,s,nd,lb,L,q',s',nd',lb',Lb,by omega,rfl,rfl,rfl,rfl,rfl,rfl,x,er,r3,r4⟩ ?_
  rintro p s3 s4 s5 s7 s21 g0 g ⟨i,q,s,nd,lb,L,q',s',nd',lb',Lb,hi,rfl,rfl,rfl,rfl,rfl,rfl,x,er,r3,r4⟩
  unfold f7L3
  refine Cond_dec (fun hlt=>?_) fun hge=>?_
  ·have hi2:i < 2:=by omega
   have bnd:(0:Int) ≤ (i:Int)∧(i:Int) < ((2:Nat):Int):=⟨by omega,by omega⟩
   have arr:∀ {g:Hp} {bb:Nat} {lx:Nat→Nat},Row g bb (ptr2 2 lx)→cell g ((ad bb).add ((i:Int).toNat * 1))=some (.pointer (some (ad (lx i)))):=fun {g bb lx} rg=>by
    rw [add_ad,Int.toNat_natCast,Nat.mul_one,cell_row rg i,ptr2_get hi2,if_pos hi2]
   have oa:=x.a.o i hi2
   have ol:=oa.len
   refine ⟨bnd,_,arr r3,llen oa ⟨_,rfl,bnd,_,arr r3,lslice oa ⟨by omega,by omega⟩ (fun hb=>absurd ⟨by omega,by omega,by omega,by omega⟩ hb) fun aa M cs g1 _ ra kk=>⟨_,_,rfl,bnd,_,arr (kept_row kk r4 _root_.id),?_⟩⟩⟩
   have x1:=x.keepN kk
   have ob:=x1.b.o i hi2
   have ei:=er i hi2
   refine lslice ob ⟨by omega,by omega⟩ (fun hb=>absurd ⟨by omega,by omega,by rw [← ei]; omega,by rw [← ei]; omega⟩ hb) fun ac Mc cc g2 _ rc k2=>⟨_,_,rfl,lnum ⟨_,rfl,Cond_f rfl (lnum ⟨_,rfl,Cond_f rfl ?_⟩)⟩⟩
   have e0:((L i).rows.drop (0:Int).toNat).take (((L i).rows.length:Nat):Int).toNat=(L i).rows:=by
    show ((L i).rows.drop 0).take _=_
    rw [List.drop_zero,Int.toNat_natCast,List.take_length]
   rw [e0] at ra
   rw [← ei,e0] at rc
   have x2:=x1.keepN k2
   have rlc:RL g2 q' ac (rowSls cc (L i).rows) (L i).rows:=rc.rl (fun b hb=>x1.b.g.st.fr (rc.new b hb)) fun r hr=>by
    obtain ⟨j,hj⟩:=List.mem_iff_getElem?.1 hr
    have:=(oa.c.bn j r hj).2
    exact ⟨this.b8,this.len⟩
   refine leqlists (ra.keepN k2) rlc (by omega) ⟨_,rfl,Cond_f rfl ⟨bnd,_,arr (kept_row k2 (kept_row kk r4 _root_.id) _root_.id),llen (x2.b.o i hi2) ⟨_,rfl,Cond_f (by rw [ei]; exact bne_self_eq_false _) ?_⟩⟩⟩
   exact ⟨2 - (i + 1),by omega,i + 1,q,s,nd,lb,L,q',s',nd',lb',Lb,by omega,rfl,rfl,rfl,rfl,rfl,by rw [wrap_i64' (by omega) (by omega)]; rfl,x2,er,kept_row k2 (kept_row kk r3 _root_.id) _root_.id,kept_row k2 (kept_row kk r4 _root_.id) _root_.id⟩
  ·refine hstats_ok x.a.g.v x.a.g.st.rp fun g1 kk=>⟨_,_,_,_,_,_,_,_,_,rfl,?_⟩
   rw [x.a.rootsN]
   have x1:=x.keepN kk
   refine Cond_t rfl (hstats_ok x1.b.g.v x1.b.g.st.rp fun g2 k2=>⟨_,_,_,_,_,_,_,_,_,rfl,?_⟩)
   rw [x1.b.rootsN]
   exact hR g2 (kept_tr (kept_base k03 hSge x1.k) k2)
 -- the script
 have l2:∀ {g:Hp} {q s nd lb L q' s' nd' lb' Lb},Two S h3 g 2 q s nd lb L 2 q' s' nd' lb' Lb→(∀ k,k < 2→(L k).rows=(Lb k).rows)→wtM L 2 ≤ 32→wtM Lb 2 ≤ 32→Row g h1.size (ptr2 2 lb)→Row g h2.size (ptr2 2 lb') →
   LoopEv (evC Try.prog tab lv7 (sub [1,1,1,1,1,1,1,0,1,0,0] body7)) (contAt Try.prog tab lv7 [1,1,1,1,1,1,1,0,1,0] body7 [] (bodyK Try.prog Try.f7 [] R)) [(1,.pointer (some (ad h.size))),(3,.pointer (some (ad h1.size))),(4,.pointer (some (ad h2.size))),(5,.pointer (some (ad q.hb))),(7,.pointer (some (ad q'.hb))),(14,.int .i64 0),(15,.int .i64 0)] 232 g:=fun {g q s nd lb L q' s' nd' lb' Lb} x er hw hwb r3 r4=>by
  refine f7L2_rule (sJ2 S h3 h.size h1.size h2.size ops.length) ops.length ⟨0,0,q,s,nd,lb,L,q',s',nd',lb',Lb,Nat.zero_le _,rfl,rfl,rfl,rfl,rfl,rfl,rfl,rfl,by omega,x,er,by omega,by omega,r3,r4⟩ ?_
  rintro p s1 s3 s4 s5 s7 s14 s15 g0 g ⟨i,w,q,s,nd,lb,L,q',s',nd',lb',Lb,hi,rfl,rfl,rfl,rfl,rfl,rfl,rfl,rfl,hw2,x,er,hw,hwb,r3,r4⟩
  have rA:Row g h.size [.slice a0.a a0.n a0.c,.slice a1.a a1.n a1.c]:=kept_row x.k rowA hSA
  unfold f7L2
  refine ⟨a0,cell_row rA 0,?_⟩
  have yn:=y.n
  refine Cond_dec (fun hlt=>?_) fun hge=>l3 x er r3 r4
  refine Cond_dec (fun h4096=>?_) fun hge=>l3 x er r3 r4
  have hil:i < ops.length:=by omega
  have ho:ops[i]?=some (ops[i]'hil):=List.getElem?_eq_getElem hil
  generalize ops[i]'hil=o at ho
  obtain ⟨p,hp,hcell,ok⟩:=y.at_ i o ho
  have kb:=kept_base k03 hSge x.k
  have oc:∀ (j:Nat) (v:Value),o.cells[j]?=some v→cell g ((p.add ((i:Int).toNat * 7)).add j)=some v:=fun j v hv=>by
   rw [Int.toNat_natCast]; exact cell_keptN kb (hcell j v hv)
  refine ⟨a0,cell_row rA 0,⟨by omega,by omega⟩,PtrOk_of hp ⟨o.k,(by have:=oc 0 _ rfl; exact this),o.x1,oc 1 _ rfl,o.x2,oc 2 _ rfl,o.fr,oc 3 _ rfl,o.i,oc 4 _ rfl,o.m,oc 5 _ rfl,o.a,oc 6 _ rfl,Let_mk fun g1 e1=>?_⟩⟩
  have j1:Kept N g g1:=e1 ▸ kept_push _ _ _
  have w1:Row g1 g.size [.int .i64 0,.int .i64 0,.int .i64 0,.bool false,.int .i64 0,.int .i64 0,.slice none 0 0]:=e1 ▸ row_new g #[.int .i64 0,.int .i64 0,.int .i64 0,.bool false,.int .i64 0,.int .i64 0,.slice none 0 0] _
  rw [show nb g=ad g.size from rfl]
  clear e1
  refine row_st w1 (i:=0) rfl (by simp) fun g2 w2 j2=>?_
  refine row_st w2 (i:=1) (add_ad _ _) (by simp) fun g3 w3 j3=>?_
  refine row_st w3 (i:=2) (add_ad _ _) (by simp) fun g4 w4 j4=>?_
  refine row_st w4 (i:=3) (add_ad _ _) (by simp) fun g5 w5 j5=>?_
  refine row_st w5 (i:=4) (add_ad _ _) (by simp) fun g6 w6 j6=>?_
  refine row_st w6 (i:=5) (add_ad _ _) (by simp) fun g7 w7 j7=>?_
  refine row_st w7 (i:=6) (add_ad _ _) (by simp) fun g8 w8 j8=>?_
  have w8:Row g8 g.size o.cells:=w8
  have jj:Kept N g g8:=by
   have st:∀ {ga gb:Hp},Kept N g ga→Kept (fun b=>b=g.size) ga gb→Kept N g gb:=fun {ga gb} ka kb=>⟨Nat.le_trans ka.1 kb.1,fun b hb _=>(kb.2 b (Nat.lt_of_lt_of_le hb ka.1) (by show ¬ b=g.size; omega)).trans (ka.2 b hb _root_.id)⟩
   exact st (st (st (st (st (st (st j1 j2) j3) j4) j5) j6) j7) j8
  clear w1 w2 w3 w4 w5 w6 w7 j1 j2 j3 j4 j5 j6 j7 j8
  have x8:=x.keepN jj
  have oo:q.role g.size=.out:=x.a.g.st.fr (Nat.le_refl _)
  have oo':q'.role g.size=.out:=x.b.g.st.fr (Nat.le_refl _)
  have r38:=kept_row jj r3 _root_.id
  have r48:=kept_row jj r4 _root_.id
  have rA8:=kept_row jj rA _root_.id
  have cl:∀ {g':Hp} (_:Row g' g.size o.cells) (j:Nat) (v:Value),o.cells[j]?=some v→cell g' ((ad g.size).add j)=some v:=fun {g'} rg j v hv=>by
   rw [add_ad]; exact (cell_row rg j).trans hv
  have bt:=ok.bt
  have on:=bt.n
  have ol:=bt.lt
  refine ⟨o.a,cl w8 6 _ rfl,by omega,?_⟩
  have ed:Int.tdiv ((o.a.n:Nat):Int) (8:Int)=((o.b.length / 8:Nat):Int):=by
   rw [Int.tdiv_eq_ediv_of_nonneg (by omega),on]; omega
  have ew:IntKind.wrap .i64 ((IntKind.wrap .i64 ((w:Int) + (16:Int))) + (IntKind.wrap .i64 (Int.tdiv ((o.a.n:Nat):Int) (8:Int))))=((w + 16 + o.b.length / 8:Nat):Int):=by
   rw [ed,wrap_i64' (x:=(w:Int) + 16) (by omega) (by omega),wrap_i64' (x:=((o.b.length / 8:Nat):Int)) (by omega) (by omega),wrap_i64' (by omega) (by omega)]; omega
  rw [ew]
  refine Cond_dec (fun hbig=>l3 x8 er r38 r48) fun hsm=>?_
  have hz:2 + wordsN o.b.length ≤ 131200:=by have:=wordsN_le o.b.length; omega
  -- behind the shake
  have shake:∀ {g':Hp} {q2:HQ} {s2:RS},Gs g' q2 s2 nd'→s2.roots=s'.roots→s2.limit=s'.limit→Ex g8 q' g' q2 →
    f7T (ad h1.size) (ad h2.size) (ad g.size) (fun g9=>∃ m,m < ops.length - i∧sJ2 S h3 h.size h1.size h2.size ops.length m (ad h.size) (ad h1.size) (ad h2.size) (some (ad q.hb)) (some (ad q'.hb)) ((w + 16 + o.b.length / 8:Nat):Int) (IntKind.wrap .i64 ((i:Int) + (1:Int))) g9) g' R:=fun {g' q2 s2} gg e1 e2 ex=>by
   have x9:=(x8.swap.act1 (x8.b.gc gg e1 e2 ex) ex).swap
   refine tail_ok (o:=o) x9 k03 hSge er (by omega) (by omega) hz z2' z3' (exrow ex r38 (x8.fb.old z2')) (exrow ex r48 (x8.fb.old z3')) (exrow ex w8 oo') oo (ex.out (row_lt w8) oo') ok fun g9 q3 s3 nd3 L3 q4 s4 nd4 L4 x10 er10 w10 w10' r310 r410 hb3 hb4=>?_
   refine ⟨ops.length - (i + 1),by omega,i + 1,w + 16 + o.b.length / 8,q3,s3,nd3,lb,L3,q4,s4,nd4,lb',L4,hil,rfl,rfl,rfl,rfl,by rw [hb3],by rw [hb4,ex.1],rfl,by rw [wrap_i64' (by omega) (by omega)]; rfl,by omega,x10,er10,by omega,by omega,r310,r410⟩
  refine ⟨a1,(by rw [add_ad]; exact cell_row rA8 1),Cond_dec (fun hlz=>?_) fun _=>?_⟩
  ·rw [zn] at hlz
   have hzl:i < zs.length:=by omega
   obtain ⟨pz,hpz,hcz⟩:=readsO_get z (i:=i) (v:=.int .i64 (zs[i]'hzl)) (by rw [List.getElem?_map,List.getElem?_eq_getElem hzl]; rfl)
   generalize zs[i]'hzl=zz at hcz
   have hcz8:=cell_keptN jj (cell_keptN kb hcz)
   refine ⟨a1,(by rw [add_ad]; exact cell_row rA8 1),⟨by omega,by omega⟩,PtrOk_of hpz ⟨zz,by rw [Int.toNat_natCast,Nat.mul_one]; exact hcz8,Cond_dec (fun _=>?_) fun _=>?_⟩⟩
   ·exact q_collect x8.b.g fun g' q2 s2 gg e1 e2 ex _=>⟨rfl,shake gg e1 e2 ex⟩
   ·exact ⟨by omega,q_resize x8.b.g fun g' q2 s2 e gg e1 e2 ex=>⟨_,rfl,shake gg e1 e2 ex⟩⟩
  ·exact Cond_t rfl (q_collect x8.b.g fun g' q2 s2 gg e1 e2 ex _=>⟨rfl,shake gg e1 e2 ex⟩)
 -- the lists are made
 have l1:∀ {g:Hp} {q s nd lb L q' s' nd' lb' Lb},Two S h3 g 0 q s nd lb L 0 q' s' nd' lb' Lb→Row g h1.size (ptr2 0 lb)→Row g h2.size (ptr2 0 lb') →
   LoopEv (evC Try.prog tab lv7 (sub [1,1,1,1,1,0,1,0,0] body7)) (contAt Try.prog tab lv7 [1,1,1,1,1,0,1,0] body7 [] (bodyK Try.prog Try.f7 [] R)) [(1,.pointer (some (ad h.size))),(3,.pointer (some (ad h1.size))),(4,.pointer (some (ad h2.size))),(5,.pointer (some (ad q.hb))),(7,.pointer (some (ad q'.hb))),(9,.int .i64 0)] 232 g:=fun {g q s nd lb L q' s' nd' lb' Lb} x r3 r4=>by
  refine f7L1_rule (sJ1 S h3 h.size h1.size h2.size) 2 ⟨0,q,s,nd,lb,L,q',s',nd',lb',Lb,by omega,rfl,rfl,rfl,rfl,rfl,rfl,rfl,x,fun k hk=>absurd hk (by omega),fun k hk=>absurd hk (by omega),r3,r4⟩ ?_
  rintro p s1 s3 s4 s5 s7 s9 g0 g ⟨i,q,s,nd,lb,L,q',s',nd',lb',Lb,hi,rfl,rfl,rfl,rfl,rfl,rfl,rfl,x,er,er',r3,r4⟩
  unfold f7L1
  have w16:∀ {j:Nat},wt [[byt (j:Nat)]]=16:=fun {j}=>by unfold wt; simp
  refine Cond_dec (fun hlt=>?_) fun hge=>?_
  ·have hi2:i < 2:=by omega
   have bnd:(0:Int) ≤ (i:Int)∧(i:Int) < ((2:Nat):Int):=⟨by omega,by omega⟩
   have bndw:∀ {bb:Nat},(ad bb).add ((i:Int).toNat * 1)=⟨bb,i,none⟩:=fun {bb}=>by rw [add_ad,Int.toNat_natCast,Nat.mul_one]
   have arr:∀ {g:Hp} {bb:Nat} {lx:Nat→Nat},Row g bb (ptr2 (i + 1) lx)→cell g ((ad bb).add ((i:Int).toNat * 1))=some (.pointer (some (ad (lx i)))):=fun {g bb lx} rg=>by
    rw [bndw,cell_row rg i,ptr2_get hi2,if_pos (by omega)]
   have wA:wtM L i ≤ 16 * i:=wtM_le fun k hk=>by rw [er k hk,w16]; exact Nat.le_refl _
   have wB:wtM Lb i ≤ 16 * i:=wtM_le fun k hk=>by rw [er' k hk,w16]; exact Nat.le_refl _
   refine x.a.new hi2 (by omega) fun g1 q1 s1 nd1 ba La d1 era ex1 hba=>⟨_,_,rfl,?_⟩
   have x1:=x.act d1 ex1 fun k hk=>by
    unfold setN
    split
    ·exact ⟨x.b.g.st.fr hba,Nat.le_trans x.k.1 hba⟩
    ·exact ⟨x.la k (by omega),x.ha k (by omega)⟩
   refine x1.b.new hi2 (by omega) fun g2 q2 s2 nd2 bb Lb1 d2 erb ex2 hbb=>⟨_,_,rfl,bnd,?_⟩
   have x2:=(x1.swap.act d2 ex2 fun k hk=>by
    unfold setN
    split
    ·exact ⟨x1.a.g.st.fr hbb,Nat.le_trans x1.k.1 hbb⟩
    ·exact ⟨x1.lc k (by omega),x1.hc k (by omega)⟩).swap
   have r31:=exrow ex1 r3 (x.fa.old z2')
   have r41:=exrow ex1 r4 (x.fa.old z3')
   have r32:=exrow ex2 r31 (x1.fb.old z2')
   have r42:=exrow ex2 r41 (x1.fb.old z3')
   refine row_st r32 (i:=i) bndw hi2 fun g3 r33 k3=>⟨bnd,?_⟩
   rw [ptr2_set hi2] at r33
   have x3:=x2.write z2' hS3 k3
   have r43:=kept_row k3 r42 (by show ¬ _=_; omega)
   refine row_st r43 (i:=i) bndw hi2 fun g4 r44 k4=>?_
   rw [ptr2_set hi2] at r44
   have x4:=x3.write z3' hS4 k4
   have r34:=kept_row k4 r33 (by show ¬ _=_; omega)
   refine lnum ⟨_,rfl,Cond_f rfl (lnum ⟨_,rfl,Cond_f rfl ⟨bnd,_,arr r34,Cond_f rfl ⟨bnd,_,arr r44,Cond_f rfl ⟨bnd,_,arr r34,Let_mk fun g5 e5=>?_⟩⟩⟩⟩)⟩
   have k5:Kept N g4 g5:=e5 ▸ kept_push _ _ _
   have row5:Row g5 g4.size [.int .u8 (IntKind.wrap .u8 (i:Int))]:=e5 ▸ row_new g4 #[.int .u8 (IntKind.wrap .u8 (i:Int))] _
   rw [bv_byt] at row5
   clear e5
   have b81:Bytes8 [byt (i:Int)]:=fun c hc=>by rw [List.mem_singleton.1 hc]; exact byt_lt _
   have x5:=x4.keepN k5
   have r35:=kept_row k5 r34 _root_.id
   have r45:=kept_row k5 r44 _root_.id
   have lra:=x5.a.rl
   have lrb:=x5.b.rl
   have wA1:wtM (setLD L i La) (i + 1) ≤ 16 * (i + 1):=wtM_le fun k hk=>by
    by_cases e:k=i
    ·subst e; rw [setLD_self,era]; simp [wt]
    ·rw [setLD_ne e,er k (by omega),w16]; exact Nat.le_refl _
   have wB1:wtM (setLD Lb i Lb1) (i + 1) ≤ 16 * (i + 1):=wtM_le fun k hk=>by
    by_cases e:k=i
    ·subst e; rw [setLD_self,erb]; simp [wt]
    ·rw [setLD_ne e,er' k (by omega),w16]; exact Nat.le_refl _
   have hz1:2 + wordsN [byt (i:Int)].length ≤ 131200:=by have:=wordsN_le [byt (i:Int)].length; simp at this ⊢; omega
   obtain ⟨va,hva,hra⟩:=x5.a.room (by omega) hz1
   have oA:=x5.a.o i (by omega)
   rw [setLD_self] at oA
   refine lpush oA (row_src row5 b81 (x4.a.g.st.fr (Nat.le_refl _))) (by simp) (by omega) (fun hl=>absurd hl (by simp)) (fun _ _ _ _ _ _ hno=>absurd hra (hno _ hva)) fun g6 q6 s6 nd6 L6 _ af6 er6 _=>⟨_,rfl,bnd,?_⟩
   have af6':Aft g5 q1 s1 nd1 ((setLD L i La) i) g6 q6 s6 nd6 L6:=by rw [setLD_self]; exact af6
   have x6:=x5.act1 (x5.a.aft (by omega) af6') af6.ex
   have r36:=exrow af6.ex r35 (x5.fa.old z2')
   have r46:=exrow af6.ex r45 (x5.fa.old z3')
   refine ⟨_,arr r46,Let_mk fun g7 e7=>?_⟩
   have k7:Kept N g6 g7:=e7 ▸ kept_push _ _ _
   have row7:Row g7 g6.size [.int .u8 (IntKind.wrap .u8 (i:Int))]:=e7 ▸ row_new g6 #[.int .u8 (IntKind.wrap .u8 (i:Int))] _
   rw [bv_byt] at row7
   clear e7
   have x7:=x6.keepN k7
   have oB:=x7.b.o i (by omega)
   rw [setLD_self] at oB
   obtain ⟨vb,hvb,hrb⟩:=x7.b.room (by omega) hz1
   refine lpush oB (row_src row7 b81 (x6.b.g.st.fr (Nat.le_refl _))) (by simp) (by omega) (fun hl=>absurd hl (by simp)) (fun _ _ _ _ _ _ hno=>absurd hrb (hno _ hvb)) fun g8 q8 s8 nd8 L8 _ af8 er8 _=>⟨_,rfl,lnum ⟨_,rfl,Cond_f rfl (lnum ⟨_,rfl,Cond_f rfl ?_⟩)⟩⟩
   have af8':Aft g7 q2 s2 nd2 ((setLD Lb i Lb1) i) g8 q8 s8 nd8 L8:=by rw [setLD_self]; exact af8
   have x8:=(x7.swap.act1 (x7.b.aft (by omega) af8') af8.ex).swap
   have r38:=exrow af8.ex (kept_row k7 r36 _root_.id) (x7.fb.old z2')
   have r48:=exrow af8.ex (kept_row k7 r46 _root_.id) (x7.fb.old z3')
   rw [era,if_pos rfl] at er6
   rw [erb,if_pos rfl] at er8
   refine ⟨2 - (i + 1),by omega,i + 1,q6,s6,nd6,_,_,q8,s8,nd8,_,_,by omega,rfl,rfl,rfl,rfl,by rw [af6.ex.1,ex1.1],by rw [af8.ex.1,ex2.1],by rw [wrap_i64' (by omega) (by omega)]; rfl,x8,fun k hk=>?_,fun k hk=>?_,r38,r48⟩
   ·by_cases e:k=i
    ·subst e; rw [setLD_self,er6]
    ·rw [setLD_ne e,setLD_ne e,er k (by omega)]
   ·by_cases e:k=i
    ·subst e; rw [setLD_self,er8]
    ·rw [setLD_ne e,setLD_ne e,er' k (by omega)]
  ·obtain rfl:i=2:=by omega
   exact l2 x (fun k hk=>by rw [er k hk,er' k hk]) (wtM_le (c:=16) fun k hk=>by rw [er k hk,w16]; exact Nat.le_refl _) (wtM_le (c:=16) fun k hk=>by rw [er' k hk,w16]; exact Nat.le_refl _) r3 r4
 -- the heaps
 refine hn_ok (fun hb=>absurd ⟨by omega,by omega⟩ hb) fun h4 q _ g4 k4 f4=>⟨_,_,rfl,hn_ok (fun hb=>absurd ⟨by omega,by omega⟩ hb) fun h5 q' _ g5 k5 f5=>⟨_,_,rfl,lnum ⟨_,rfl,Cond_f rfl (lnum ⟨_,rfl,Cond_f rfl (Cond_f rfl ?_)⟩)⟩⟩⟩
 unfold f7K1
 refine Cond_f rfl (l1 (L:=fun _=>⟨0,[],[],[]⟩) (Lb:=fun _=>⟨0,[],[],[]⟩) (lb:=fun _=>0) (lb':=fun _=>0) ⟨⟨g4.keepN k5,fun k hk=>absurd hk (by omega),fun j k hj=>absurd hj (by omega),fun j=>by rw [if_neg (by omega)]; rfl,by show 0 ≤ 3; omega,rfl,by omega⟩,⟨g5,fun k hk=>absurd hk (by omega),fun j k hj=>absurd hj (by omega),fun j=>by rw [if_neg (by omega)]; rfl,by show 0 ≤ 3; omega,rfl,by omega⟩,fun y hy=>?_,fun k hk=>absurd hk (by omega),fun k hk=>absurd hk (by omega),?_,f4,fun b hb=>Nat.le_trans k4.1 (f5 b hb),fun k hk=>absurd hk (by omega),fun k hk=>absurd hk (by omega)⟩ (kept_row k5 (kept_row k4 rowB _root_.id) _root_.id) (kept_row k5 (kept_row k4 row3 _root_.id) _root_.id))
 ·have hlt:y < h4.size:=Classical.byContradiction fun hn=>hy (g4.st.fr (by omega))
  exact Classical.byContradiction fun hn=>by have:=f5 y hn; omega
 ·have:=kept_tr k4 k5
  exact ⟨this.1,fun b hb _=>this.2 b hb _root_.id⟩
end
end Go.Ev
set_option linter.all false
set_option maxRecDepth 100000
namespace Go.Proofs.Ytngcoodbepbhbaa
open Go.ChangeShapes Go.WideShapes Go.ChangeAt Go.RowKit
open Go.Ev (Reads ReadsO uv bv slV I64 Sl RL0 Bt OpD Ops)
theorem c62:Try.prog.cellsOf 62=1:=by kernel_rfl
theorem c63:Try.prog.cellsOf 63=1:=by kernel_rfl
theorem c65:Try.prog.cellsOf 65=2:=by kernel_rfl
theorem c68:Try.prog.cellsOf 68=7:=by kernel_rfl
section
variable {H:Type} {enc:TypeId × Value→H} {W:World}
theorem i64r {x:Int} (h:I64 x):-9223372036854775808 ≤ x∧x < 9223372036854775808:=by
 have:=h
 unfold I64 at this
 omega
theorem op_of {n:Nat} {cs:List Value} {x:DataW H × List MemPlace} (h:DataW.trod enc Try.prog W 0 (fun _=>true) true n 68 cs=some x) (hw:∀ m ∈ x.1.weights Try.prog 68,m ≤ reachBytes):∃ o:OpD,cs=o.cells∧o.Ok W.heap:=by
 obtain ⟨xs,n,_,rfl,hl,hn,hel⟩:=DataW.trod_struct Try.underlying68 h
 rw [c68] at hl
 have e0:DataW.trod enc Try.prog W 0 (fun _=>true) true n 3 ((cs.drop 0).take (Try.prog.cellsOf 3))=xs[0]?:=hel 0 _ rfl
 have e1:DataW.trod enc Try.prog W 0 (fun _=>true) true n 3 ((cs.drop 1).take (Try.prog.cellsOf 3))=xs[1]?:=hel 1 _ rfl
 have e2:DataW.trod enc Try.prog W 0 (fun _=>true) true n 3 ((cs.drop 2).take (Try.prog.cellsOf 3))=xs[2]?:=hel 2 _ rfl
 have e3:DataW.trod enc Try.prog W 0 (fun _=>true) true n 4 ((cs.drop 3).take (Try.prog.cellsOf 4))=xs[3]?:=hel 3 _ rfl
 have e4:DataW.trod enc Try.prog W 0 (fun _=>true) true n 3 ((cs.drop 4).take (Try.prog.cellsOf 3))=xs[4]?:=hel 4 _ rfl
 have e5:DataW.trod enc Try.prog W 0 (fun _=>true) true n 3 ((cs.drop 5).take (Try.prog.cellsOf 3))=xs[5]?:=hel 5 _ rfl
 have e6:DataW.trod enc Try.prog W 0 (fun _=>true) true n 23 ((cs.drop 6).take (Try.prog.cellsOf 23))=xs[6]?:=hel 6 _ rfl
 rw [c3] at e0 e1 e2 e4 e5
 rw [c4] at e3
 rw [c23] at e6
 match xs,hn with
 | [x0,x1,x2,x3,x4,x5,x6],_ =>
  match cs,hl with
  | [v0,v1,v2,v3,v4,v5,v6],_ =>
   obtain ⟨n0,a0,_,w0⟩:=DataW.trod_int Try.underlying3 (show DataW.trod enc Try.prog W 0 (fun _=>true) true n 3 [v0]=some x0 from e0)
   obtain ⟨n1,a1,_,w1⟩:=DataW.trod_int Try.underlying3 (show DataW.trod enc Try.prog W 0 (fun _=>true) true n 3 [v1]=some x1 from e1)
   obtain ⟨n2,a2,_,w2⟩:=DataW.trod_int Try.underlying3 (show DataW.trod enc Try.prog W 0 (fun _=>true) true n 3 [v2]=some x2 from e2)
   obtain ⟨n3,a3,_⟩:=DataW.trod_bool Try.underlying4 (show DataW.trod enc Try.prog W 0 (fun _=>true) true n 4 [v3]=some x3 from e3)
   obtain ⟨n4,a4,_,w4⟩:=DataW.trod_int Try.underlying3 (show DataW.trod enc Try.prog W 0 (fun _=>true) true n 3 [v4]=some x4 from e4)
   obtain ⟨n5,a5,_,w5⟩:=DataW.trod_int Try.underlying3 (show DataW.trod enc Try.prog W 0 (fun _=>true) true n 3 [v5]=some x5 from e5)
   obtain ⟨d,l,q6,r⟩:=bytes_of (show DataW.trod enc Try.prog W 0 (fun _=>true) true n 23 [v6]=some x6 from e6) (fun m hm=>hw m (by
    simp only [DataW.weights,Try.underlying68]
    exact DataW.weights_mem_each (j:=6) (t:=23) rfl rfl m hm))
   simp only [List.cons.injEq,and_true] at a0 a1 a2 a3 a4 a5
   refine ⟨⟨n0,n1,n2,n3,n4,n5,d,l⟩,?_,⟨⟨r.1,r.2.1,r.2.2.2.2.2,r.2.2.1,r.2.2.2.1,r.2.2.2.2.1⟩,i64r (i64_of w0),i64r (i64_of w1),i64r (i64_of w4),i64r (i64_of w5)⟩⟩
   rw [a0,a1,a2,a3,a4,a5,q6]
   rfl
theorem ops_of {n:Nat} {v:Value} {x:DataW H × List MemPlace} (h:DataW.trod enc Try.prog W 0 (fun _=>true) true n 62 [v]=some x) (hw:∀ m ∈ x.1.weights Try.prog 62,m ≤ reachBytes) :
  ∃ (sl:Sl) (ops:List OpD),v=.slice sl.a sl.n sl.c∧Ops W.heap sl ops:=by
 rcases DataW.trod_slice Try.underlying62 h with ⟨hc,_⟩ | ⟨a,len,cap,elems,rest,k,_,hc,rfl,_,_,_,hlen,hel3,_,_⟩
 ·exact ⟨⟨none,0,0⟩,[],(List.cons.inj hc).1,⟨rfl,fun i o ho=>by cases ho⟩⟩
 ·rw [c68] at hel3
  have each:∀ i,i < len→∃ o:OpD,o.Ok W.heap∧∀ j v,o.cells[j]?=some v→Go.Ev.cell W.heap ((a.add (i * 7)).add j)=some v:=fun i hi=>by
   have h1:=hel3 i hi
   have hi2:i < elems.length:=by omega
   rw [List.getElem?_eq_getElem hi2] at h1
   obtain ⟨cs1,hc1,hd⟩:=Option.bind_eq_some_iff.1 h1
   obtain ⟨_,hcl,hcc⟩:=World.cells?_some hc1
   obtain ⟨o,ho,hok⟩:=op_of hd (fun m hm=>hw m (by
    simp only [DataW.weights,Try.underlying62,List.mem_cons,List.mem_append]
    exact .inr (.inl (weightsAll_mem (List.mem_map.2 ⟨_,List.getElem_mem hi2,rfl⟩) m hm))))
   refine ⟨o,hok,fun j v hj=>?_⟩
   have hjl:j < 7:=(List.getElem?_eq_some_iff.1 hj).1
   have h3:Go.Ev.cell W.heap ((a.add (i * 7)).add j)=cs1[j]?:=hcc j hjl
   rw [h3,ho,hj]
  obtain ⟨f,hf⟩:∃ f:Nat→OpD,∀ i,i < len→(f i).Ok W.heap∧∀ j v,(f i).cells[j]?=some v→Go.Ev.cell W.heap ((a.add (i * 7)).add j)=some v :=
   ⟨fun i=>if hi:i < len then (each i hi).choose else ⟨0,0,0,false,0,0,⟨none,0,0⟩,[]⟩,fun i hi=>by dsimp only; rw [dif_pos hi]; exact (each i hi).choose_spec⟩
  refine ⟨⟨some a,len,cap⟩,(List.range len).map f,(List.cons.inj hc).1,⟨by simp,fun i o ho=>?_⟩⟩
  have hi:i < len:=by have:=(List.getElem?_eq_some_iff.1 ho).1; simpa using this
  rw [List.getElem?_map,List.getElem?_range hi] at ho
  obtain rfl:=Option.some.inj ho
  exact ⟨a,rfl,(hf i hi).2,(hf i hi).1⟩
theorem ints_of {n:Nat} {v:Value} {x:DataW H × List MemPlace} (h:DataW.trod enc Try.prog W 0 (fun _=>true) true n 63 [v]=some x) :
  ∃ (d:Sl) (l:List Int),v=.slice d.a d.n d.c∧ReadsO W.heap d.a (l.map (Value.int .i64))∧d.n=l.length:=by
 rcases open_ints Try.underlying63 Try.underlying3 c3 h with ⟨hcs,_⟩ | ⟨a,len,cap,zs,hcs,_,hl,_,hz,hx,hcell,hwz⟩
 ·exact ⟨⟨none,0,0⟩,[],(List.cons.inj hcs).1,rfl,rfl⟩
 ·simp only [if_true] at hz
  have ll:(zs.take len).length=len:=by rw [List.length_take]; omega
  refine ⟨⟨some a,len,cap⟩,zs.take len,(List.cons.inj hcs).1,?_,ll.symm⟩
  intro j u hj
  rw [List.getElem?_map] at hj
  obtain ⟨z,hz1,rfl⟩:=Option.map_eq_some_iff.1 hj
  have hjl:j < len:=by have:=(List.getElem?_eq_some_iff.1 hz1).1; rw [ll] at this; exact this
  have h1:Go.Ev.cell W.heap (a.add j)=some (.int .i64 (zs.getD j 0)):=hcell j (by omega)
  rw [h1]
  rw [List.getElem?_take,if_pos hjl] at hz1
  rw [List.getD_eq_getElem?_getD,hz1]
  rfl
theorem shaken_of {n:Nat} {cs:List Value} {x:DataW H × List MemPlace} (h:DataW.trod enc Try.prog W 0 (fun _=>true) true n 65 cs=some x) (hw:∀ m ∈ x.1.weights Try.prog 65,m ≤ reachBytes) :
  ∃ (sA sB:Sl) (ops:List OpD) (zs:List Int),cs=[.slice sA.a sA.n sA.c,.slice sB.a sB.n sB.c]∧Ops W.heap sA ops∧ReadsO W.heap sB.a (zs.map (Value.int .i64))∧sB.n=zs.length:=by
 obtain ⟨xs,n,_,rfl,hl,hn,hel⟩:=DataW.trod_struct Try.underlying65 h
 rw [c65] at hl
 have e0:DataW.trod enc Try.prog W 0 (fun _=>true) true n 62 ((cs.drop 0).take (Try.prog.cellsOf 62))=xs[0]?:=hel 0 _ rfl
 have e1:DataW.trod enc Try.prog W 0 (fun _=>true) true n 63 ((cs.drop 1).take (Try.prog.cellsOf 63))=xs[1]?:=hel 1 _ rfl
 rw [c62] at e0
 rw [c63] at e1
 match xs,hn with
 | [x0,x1],_ =>
  match cs,hl with
  | [v0,v1],_ =>
   obtain ⟨d0,l0,q0,r0⟩:=ops_of (show DataW.trod enc Try.prog W 0 (fun _=>true) true n 62 [v0]=some x0 from e0) (fun m hm=>hw m (by
    simp only [DataW.weights,Try.underlying65]
    exact DataW.weights_mem_each (j:=0) (t:=62) rfl rfl m hm))
   obtain ⟨d1,l1,q1,r1,r2⟩:=ints_of (show DataW.trod enc Try.prog W 0 (fun _=>true) true n 63 [v1]=some x1 from e1)
   exact ⟨d0,d1,l0,l1,by rw [q0,q1],r0,r1,r2⟩
end
end Go.Proofs.Ytngcoodbepbhbaa
