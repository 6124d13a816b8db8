/- The outright statements' helpers on lists: num, within, lists of bytes in memory, Eq, EqLists, holds / The outright statements' make: a list with these elements, on a heap with room / ChainTurns: what its parts come to / The chain statements' arguments, out of the datum that is read / ChainTurns: the law's own call / ChainStrikes: the statement's own rest / ChainStrikes: the law's own call / ChainFull: the law's own call / ChainShaken: what a step tells / ChainShaken: two lists on one heap; two such heaps / ChainShaken: one step on both heaps / ChainShaken: the law's own call / ChainShaken's argument, out of the datum that is read / A script with a limit, out of the datum that is read. No condition but that these are ones. -/
import Derived.Test.YtngcoodbepbhbaaE19
import Derived.ProofKit
import Derived.SizedLaws
import Derived.LaidMore
import Derived.OpenShut
set_option linter.all false
set_option maxRecDepth 1000000
namespace Go.Ev
open Go.Proofs
/-- Lists of bytes, where they lie: none of the heap's own memory. -/
structure RL (h:Hp) (q:HQ) (a:Sl) (sls:List Sl) (rows:List (List Nat)):Prop where
 rd:ReadsO h a.a (sls.map slV)
 n:a.n=sls.length
 len:sls.length=rows.length
 each:∀ (i:Nat) (c:Sl) (r:List Nat),sls[i]?=some c→rows[i]?=some r→Src h q c r∧c.n ≤ c.c∧r.length < 140737488355328
 out:∀ p,a.a=some p→sls ≠ []→q.role p.block=.out∧p.block < h.size
section
variable {h h' h2 h0:Hp} {q q' q2:HQ} {s s' s2:RS} {nd nd' nd2:List NodeD} {n:NodeD} {id lb hn:Nat} {L L' L2:LD} {R:Value→Hp→Prop} {b:List Nat} {ids:List Nat} {lim:Nat} {a:Sl} {sls:List Sl} {rows:List (List Nat)}
theorem RL.ex (x:RL h q a sls rows) (e:Ex h q h' q'):RL h' q' a sls rows :=
 ⟨reads_kept2 e.kept x.rd fun p hp hn=>(have hn':sls ≠ []:=fun z=>hn (by rw [z]; rfl); ⟨(x.out p hp hn').2,fun hx=>hx (x.out p hp hn').1⟩),x.n,x.len,
  fun i c r hc hr=>(have z:=x.each i c r hc hr; ⟨z.1.ex e,z.2⟩),fun p hp hn=>⟨e.out (x.out p hp hn).2 (x.out p hp hn).1,Nat.lt_of_lt_of_le (x.out p hp hn).2 e.2.1⟩⟩
theorem RL.keepN (x:RL h q a sls rows) (k:Kept N h h') (fr:∀ b,h.size ≤ b→q.role b=.out):RL h' q a sls rows:=x.ex (Ex.of_kept k fr)
theorem RL.get (x:RL h q a sls rows) {i:Nat} {r:List Nat} (hr:rows[i]?=some r):∃ c p,sls[i]?=some c∧a.a=some p∧cell h (p.add (i * 1))=some (.slice c.a c.n c.c)∧Src h q c r∧c.n ≤ c.c∧r.length < 140737488355328∧i < a.n:=by
 have hi:=(List.getElem?_eq_some_iff.1 hr).1
 have hs:sls[i]?=some (sls[i]'(by rw [x.len]; exact hi)):=List.getElem?_eq_getElem _
 obtain ⟨p,hp,hc⟩:=readsO_get x.rd (i:=i) (v:=slV (sls[i]'(by rw [x.len]; exact hi))) (by rw [List.getElem?_map,hs]; rfl)
 obtain ⟨e1,e2,e3⟩:=x.each i _ r hs hr
 exact ⟨_,p,hs,hp,by rw [Nat.mul_one]; exact hc,e1,e2,e3,by rw [x.n,x.len]; exact hi⟩
theorem lnum {n:Int} (hR:R (.int .i64 n) h):CallTo Try.prog 11 #[.int .i64 n] h R:=f11F_ok (by unfold f11F; exact hR)
theorem lwithin {i:Int} {m:Nat} (hm:0 < m) (hm2:m < 100000000) (hi:-9223372036854775808 ≤ i∧i < 9223372036854775808) (hR:R (.int .i64 (i % (m:Int))) h):CallTo Try.prog 10 #[.int .i64 i,.int .i64 (m:Int)] h R:=by
 refine f10F_ok ?_
 unfold f10F
 have m1:=Int.emod_nonneg i (b:=(m:Int)) (by omega)
 have m2:=Int.emod_lt_of_pos i (b:=(m:Int)) (by omega)
 have h1:=Int.tmod_eq_emod (a:=i) (b:=(m:Int))
 refine ⟨by omega,by omega,?_⟩
 have e:Int.tmod (IntKind.wrap .i64 (Int.tmod i (m:Int) + (m:Int))) (m:Int)=i % (m:Int):=by
  have b1:-(m:Int) < Int.tmod i (m:Int)∧Int.tmod i (m:Int) < m:=by split at h1 <;> omega
  rw [wrap_i64' (by omega) (by omega),Int.tmod_eq_emod_of_nonneg (by omega)]
  split at h1
  ·have e0:Int.tmod i (m:Int)=i % (m:Int):=by omega
   rw [e0,Int.add_emod_right,Int.emod_emod_of_dvd _ (Int.dvd_refl _)]
  ·have:Int.tmod i (m:Int) + (m:Int)=i % (m:Int):=by omega
   rw [this,Int.emod_emod_of_dvd _ (Int.dvd_refl _)]
 rw [e]
 exact hR
theorem cut0 (c:Nat) (a:Option Addr):(if c=(0:Int).toNat then a else Option.map (fun x=>x.add ((0:Int).toNat * 1)) a)=a:=by
 split
 ·rfl
 ·cases a <;> rfl
/-! ### Eq, EqLists -/
theorem leq {a c:Sl} {l:List Nat} (ha:ReadsO h a.a (l.map bv)) (hb:ReadsO h c.a (l.map bv)) (na:a.n=l.length) (nc:c.n=l.length) (hl:l.length < 9223372036854775807) (hR:R (.bool true) h) :
  CallTo Try.prog 18 #[.slice a.a a.n a.c,.slice c.a c.n c.c] h R:=by
 refine f18F_ok ?_
 unfold f18F
 exact cmp_ok ha hb na nc hl ⟨_,rfl,hR⟩
theorem RowsAt.get {M:Mem} {cs:List Nat} (x:RowsAt h0 h a M cs rows) {i:Nat} {r:List Nat} (hr:rows[i]?=some r):∃ c b,cs[i]?=some c∧a.a=some (ad b)∧cell h ((ad b).add (i * 1))=some (.slice (some (ad c)) r.length r.length)∧Row h c (r.map bv)∧i < a.n:=by
 have hi:=(List.getElem?_eq_some_iff.1 hr).1
 have hc:cs[i]?=some (cs[i]'(by rw [x.len]; exact hi)):=List.getElem?_eq_getElem _
 obtain ⟨b,h1,h2,h3,h4⟩:=sl_at x.sl x.sep (rowSls_get hc hr)
 obtain ⟨e1,e2⟩:=x.el i _ r hc hr
 have row:=x.sep.row (i + 1) _ e1
 rw [e2] at row
 exact ⟨_,b,hc,h2,h3,row,by omega⟩
theorem RowsAt.n_eq {M:Mem} {cs:List Nat} (x:RowsAt h0 h a M cs rows):a.n=rows.length:=by have:=x.sl.len; rw [List.length_map,rowSls_len x.len] at this; omega
/-! ### holds -/
/-! ### A great heap with one list of short elements -/
theorem wordsN_le (n:Nat):wordsN n ≤ n / 8 + 1:=by unfold wordsN; omega
theorem rowS_le {k:Nat}:∀ rows:List (List Nat),(∀ r ∈ rows,r.length ≤ 8 * k)→rowS rows ≤ (3 + k) * rows.length∧(k ≤ 50→rowB rows=0)
 | [],_=>⟨by simp [rowS],fun _=>by simp [rowB]⟩
 | r :: rows,h=>by
  obtain ⟨h1,h2⟩:=rowS_le rows fun r hr=>h r (List.mem_cons_of_mem _ hr)
  have h3:=h r (List.mem_cons_self ..)
  have h4:wordsN r.length ≤ k + 1:=Nat.le_trans (wordsN_le _) (by omega)
  have e1:rowS (r :: rows)=cntS (2 + wordsN r.length) + rowS rows:=by unfold rowS; simp
  have e2:rowB (r :: rows)=cntB (2 + wordsN r.length) + rowB rows:=by unfold rowB; simp
  refine ⟨?_,fun hk=>?_⟩
  ·rw [e1,List.length_cons,Nat.mul_succ]
   have:cntS (2 + wordsN r.length) ≤ 3 + k:=by unfold cntS; split <;> omega
   omega
  ·rw [e2,h2 hk]; unfold cntB; rw [if_pos (by omega)]
end
end Go.Ev
set_option linter.all false
set_option maxRecDepth 1000000
namespace Go.Ev
open Go.Proofs
/-- Lists of bytes, where they lie. -/
structure RL0 (h:Hp) (a:Sl) (sls:List Sl) (rows:List (List Nat)):Prop where
 rd:ReadsO h a.a (sls.map slV)
 n:a.n=sls.length
 len:sls.length=rows.length
 each:∀ (i:Nat) (c:Sl) (r:List Nat),sls[i]?=some c→rows[i]?=some r→ReadsO h c.a (r.map bv)∧c.n=r.length∧Bytes8 r∧c.n ≤ c.c∧r.length < 140737488355328∧∀ p,c.a=some p→r ≠ []→p.block < h.size
 out:∀ p,a.a=some p→sls ≠ []→p.block < h.size
/-- What is the heap's own is new. -/
def Frsh (h0:Hp) (q:HQ):Prop:=∀ b,q.role b ≠ .out→h0.size ≤ b
section
variable {h h' h2 h0:Hp} {q q' q2:HQ} {s s' s2:RS} {nd nd' nd2:List NodeD} {n:NodeD} {id lb hn:Nat} {L L' L2:LD} {R:Value→Hp→Prop} {b:List Nat} {ids:List Nat} {lim:Nat} {a:Sl} {sls:List Sl} {rows:List (List Nat)}
theorem Frsh.old (f:Frsh h0 q) {b:Nat} (hb:b < h0.size):q.role b=.out:=Classical.byContradiction fun hn=>by have:=f b hn; omega
theorem Frsh.ex (f:Frsh h0 q) (hs:h0.size ≤ h.size) (e:Ex h q h' q'):Frsh h0 q':=fun b hb=>Classical.byContradiction fun hlt=>hb (e.out (by omega) (f.old (by omega)))
theorem Frsh.kept (f:Frsh h0 q) (k:Kept N h0 h) (e:Ex h q h' q'):Kept N h0 h' :=
 ⟨Nat.le_trans k.1 e.2.1,fun i hi _=>(e.2.2 i (Nat.lt_of_lt_of_le hi k.1) (f.old hi)).2.trans (k.2 i hi _root_.id)⟩
theorem kept_tr {a b c:Hp} (x:Kept N a b) (y:Kept N b c):Kept N a c:=⟨Nat.le_trans x.1 y.1,fun j hj _=>(y.2 j (Nat.lt_of_lt_of_le hj x.1) _root_.id).trans (x.2 j hj _root_.id)⟩
theorem RL0.rl (x:RL0 h0 a sls rows) (k:Kept N h0 h) (f:Frsh h0 q):RL h q a sls rows :=
 ⟨reads_keptN k x.rd,x.n,x.len,fun i c r hc hr=>(have e:=x.each i c r hc hr; ⟨⟨reads_keptN k e.1,e.2.1,e.2.2.1,fun p hp hn=>⟨f.old (e.2.2.2.2.2 p hp hn),Nat.lt_of_lt_of_le (e.2.2.2.2.2 p hp hn) k.1⟩⟩,e.2.2.2.1,e.2.2.2.2.1⟩),
  fun p hp hn=>⟨f.old (x.out p hp hn),Nat.lt_of_lt_of_le (x.out p hp hn) k.1⟩⟩
theorem Src.take {c:Sl} {r:List Nat} (x:Src h q c r) (k:Nat):Src h q ⟨c.a,min c.n k,c.c⟩ (r.take k):=by
 refine ⟨?_,by rw [List.length_take,x.n]; exact Nat.min_comm _ _,fun y hy=>x.b8 y (List.mem_of_mem_take hy),fun p hp hn=>x.out p hp fun z=>hn (by rw [z,List.take_nil])⟩
 have rd:=x.rd
 rw [List.map_take]
 revert rd
 generalize r.map bv=vs
 intro rd
 by_cases h0:vs.take k=[]
 ·rw [h0]
  cases hc:c.a with
  | none=>rfl
  | some p=>exact fun j v hv=>by cases hv
 ·cases hc:c.a with
  | none=>rw [hc] at rd; exact absurd (by rw [show vs=[] from rd]; simp) h0
  | some p=>rw [hc] at rd; exact fun j v hv=>rd j v (by
    have hj:j < k:=by have:=(List.getElem?_eq_some_iff.1 hv).1; rw [List.length_take] at this; omega
    rwa [List.getElem?_take_of_lt hj] at hv)
/-- Slices of lists that are laid one by one into a new one. -/
structure SlsIn (h0 h:Hp) (M:Mem) (w:Sl) (l:List Sl):Prop where
 sep:Sep h M
 sl:IsSl 1 M 0 w (l.map slV)
 own:∀ b,M.own b→h0.size ≤ b
 k:Kept N h0 h
theorem SlsIn.nil (h0:Hp):SlsIn h0 h0 ⟨fun _=>none,fun _=>[]⟩ ⟨none,0,0⟩ [] :=
 ⟨⟨fun y b hy=>by (cases hy),fun y z b hy _=>by (cases hy)⟩,⟨by simp,fun _=>⟨rfl,rfl,rfl⟩,fun b hb=>by cases hb⟩,(fun b ⟨y,hy⟩=>by cases hy),Kept.refl _ _⟩
theorem SlsIn.len {M:Mem} {w:Sl} {l:List Sl} (x:SlsIn h0 h M w l):w.n=l.length:=by have:=x.sl.len; rw [List.length_map] at this; omega
theorem SlsIn.keepN {M:Mem} {w:Sl} {l:List Sl} (x:SlsIn h0 h M w l) (k:Kept N h h'):SlsIn h0 h' M w l:=⟨x.sep.keepN k,x.sl,x.own,kept_tr x.k k⟩
theorem SlsIn.add {M:Mem} {w c:Sl} {l:List Sl} (x:SlsIn h0 h M w l) (hl:l.length ≤ 100000000) {t e:TypeId} {K:Option Addr→Nat→Nat→Hp→Prop}
  (hK:∀ a' c' h2 M',SlsIn h0 h2 M' ⟨a',w.n + 1,c'⟩ (l ++ [c])→K a' (w.n + 1) c' h2) :
  Let (h.push (.cells #[.slice c.a c.n c.c] t)) fun h2=>appSl e 1 24 #[.slice none 0 0] w.a w.n w.c (some (nb h)) 1 h2 K:=by
 have hwn:=x.len
 refine x.sl.app1 x.sep rfl rfl (fun v hv=>by rw [List.mem_singleton.1 hv]; rfl) (by omega) (by omega) fun a' c' h2 ob cc p2 sl2 ch2=>?_
 refine hK a' c' h2 (M.upd 0 ob cc) ⟨p2,by rw [List.map_append]; exact sl2,fun b hb=>(ch2.2 b hb).elim (x.own b) fun z=>Nat.le_trans x.k.1 z,Nat.le_trans x.k.1 ch2.1.1,fun i hi _=>?_⟩
 exact (ch2.1.2 i (Nat.lt_of_lt_of_le hi x.k.1) fun ho=>by have:=x.own i ho; omega).trans (x.k.2 i hi _root_.id)
theorem SlsIn.rl {M:Mem} {w:Sl} {l:List Sl} (x:SlsIn h0 h M w l) (g:Gs h0 q s nd) (hl:l.length=rows.length) (he:∀ (i:Nat) (c:Sl) (r:List Nat),l[i]?=some c→rows[i]?=some r→Src h q c r∧c.n ≤ c.c∧r.length < 140737488355328):RL h q w l rows:=by
 refine ⟨slAt_reads (x.sl.slAt x.sep),x.len,hl,he,fun p hp hn=>?_⟩
 obtain ⟨b,hb,ha⟩:=x.sl.some_of (fun e=>hn (List.map_eq_nil_iff.1 e))
 rw [hp] at ha
 obtain rfl:p=ad b:=Option.some.inj ha
 exact ⟨g.st.fr (x.own b ⟨0,hb⟩),x.sep.lt hb⟩
end
end Go.Ev
set_option linter.all false
set_option maxRecDepth 1000000
namespace Go.Ev
open Go.Proofs
/-- A list on a great heap, what lay there ahead of it as it was. -/
structure Stg (h1 h:Hp) (q:HQ) (s:RS) (nd:List NodeD) (lb:Nat) (L:LD):Prop where
 x:Solo h q s nd lb L 1048576
 k:Kept N h1 h
 f:Frsh h1 q
/-- Bytes, where they lie. -/
structure Bt (h:Hp) (a:Sl) (b:List Nat):Prop where
 rd:ReadsO h a.a (b.map bv)
 n:a.n=b.length
 cap:a.n ≤ a.c
 b8:Bytes8 b
 lt:b.length < 140737488355328
 out:∀ p,a.a=some p→b ≠ []→p.block < h.size
section
variable {h h' h2 h0 h1:Hp} {q q' q2:HQ} {s s' s2:RS} {nd nd' nd2:List NodeD} {n:NodeD} {id lb hn:Nat} {L L' L2:LD} {R:Value→Hp→Prop} {b:List Nat} {ids:List Nat} {lim:Nat} {a:Sl} {sls:List Sl} {rows w:List (List Nat)} {M:Mem} {cs:List Nat} {r:List Nat} {c:Nat}
theorem Stg.ex (x:Stg h1 h q s nd lb L) (y:Solo h' q' s' nd' lb L' 1048576) (e:Ex h q h' q'):Stg h1 h' q' s' nd' lb L':=⟨y,x.f.kept x.k e,x.f.ex x.k.1 e⟩
theorem Stg.aft (x:Stg h1 h q s nd lb L) (a:Aft h q s nd L h' q' s' nd' L'):Stg h1 h' q' s' nd' lb L':=x.ex (x.x.aft a) a.ex
theorem Stg.keepN (x:Stg h1 h q s nd lb L) (k:Kept N h h'):Stg h1 h' q s nd lb L:=⟨x.x.keepN k,kept_tr x.k k,x.f⟩
theorem Bt.src (y:Bt h1 a b) (x:Stg h1 h q s nd lb L):Src h q a b:=⟨reads_keptN x.k y.rd,y.n,y.b8,fun p hp hn=>⟨x.f.old (y.out p hp hn),Nat.lt_of_lt_of_le (y.out p hp hn) x.k.1⟩⟩
theorem reads_take {a:Option Addr} {vs:List Value} (rd:ReadsO h a vs) (k:Nat):ReadsO h a (vs.take k):=by
 revert rd
 by_cases h0:vs.take k=[]
 ·intro _
  rw [h0]
  cases a with
  | none=>rfl
  | some p=>exact fun j v hv=>by cases hv
 ·intro rd
  cases a with
  | none=>exact absurd (by rw [show vs=[] from rd]; simp) h0
  | some p=>exact fun j v hv=>rd j v (by
    have hj:j < k:=by have:=(List.getElem?_eq_some_iff.1 hv).1; rw [List.length_take] at this; omega
    rwa [List.getElem?_take_of_lt hj] at hv)
theorem Bt.take (y:Bt h1 a b) (k:Nat):Bt h1 ⟨a.a,min a.n k,a.c⟩ (b.take k) :=
 ⟨by rw [List.map_take]; exact reads_take y.rd k,by rw [List.length_take,y.n]; exact Nat.min_comm _ _,by show min a.n k ≤ a.c; have:=y.cap; omega,fun x hx=>y.b8 x (List.mem_of_mem_take hx),by rw [List.length_take]; have:=y.lt; omega,fun p hp hn=>y.out p hp fun z=>hn (by rw [z,List.take_nil])⟩
theorem row_src (row:Row h c (r.map bv)) (b8:Bytes8 r) (ho:q.role c=.out):Src h q ⟨some (ad c),r.length,r.length⟩ r :=
 ⟨row_reads row,rfl,b8,fun p hp _=>by obtain rfl:=Option.some.inj hp; exact ⟨ho,row_lt row⟩⟩
/-! ### Pop on such a list; pushes -/
/-! ### Lists that are collected while the heap turns -/
theorem RowsAt.keep {S:Nat→Prop} (x:RowsAt h0 h a M cs rows) (k:Kept S h h') (hS:∀ b,M.own b→¬ S b):RowsAt h0 h' a M cs rows:=⟨x.sep.keep k hS,x.len,x.sl,x.el,x.no,x.new⟩
theorem RowsAt.ex (x:RowsAt h0 h a M cs rows) (ho:∀ b,M.own b→q.role b=.out) (e:Ex h q h' q'):RowsAt h0 h' a M cs rows∧∀ b,M.own b→q'.role b=.out :=
 ⟨x.keep e.kept fun b hb hn=>hn (ho b hb),fun b hb=>e.out (x.sep.own_lt hb) (ho b hb)⟩
end
end Go.Ev
set_option linter.all false
set_option maxRecDepth 100000
namespace Go.Proofs.Ytngcoodbepbhbaa
open Go.ChangeShapes Go.WideShapes Go.ChangeAt Go.RowKit
open Go.Ev (Reads ReadsO uv bv slV I64 Sl RL0 Bt)
theorem own:ownKnob Try.prog.godebug=none:=by kernel_rfl
theorem c3:Try.prog.cellsOf 3=1:=by kernel_rfl
theorem c5:Try.prog.cellsOf 5=1:=by kernel_rfl
theorem c4:Try.prog.cellsOf 4=1:=by kernel_rfl
theorem c23:Try.prog.cellsOf 23=1:=by kernel_rfl
theorem b3:Try.prog.bytesOf 3=8:=by kernel_rfl
theorem b5:Try.prog.bytesOf 5=1:=by kernel_rfl
theorem kids:Kids Try.prog (· < Try.prog.types.size):=kids_rows (by kernel_rfl) (by kernel_rfl)
theorem slices_some:∀ t e,t < Try.prog.types.size→Try.prog.underlying t=some (.slice e)→0 < Try.prog.cellsOf e:=by
 have h:(List.range Try.prog.types.size).all (fun t=>match Try.prog.underlying t with | some (.slice e)=>decide (0 < Try.prog.cellsOf e) | _=>true)=true:=by kernel_rfl
 intro t e ht hu
 have:=List.all_eq_true.1 h t (List.mem_range.2 ht)
 rw [hu] at this
 exact of_decide_eq_true this
section
variable {H:Type} {enc:TypeId × Value→H} {W:World}
theorem weightsAll_mem {P:Program} {e:TypeId}:∀ {ds:List (DataW H)} {d:DataW H},d ∈ ds→∀ n ∈ d.weights P e,n ∈ DataW.weightsAll P e ds
 | d0 :: ds,d,hd,n,hn=>by
  rw [DataW.weightsAll,List.mem_append]
  rcases List.mem_cons.1 hd with rfl | hd
  ·exact .inl hn
  ·exact .inr (weightsAll_mem hd n hn)
theorem i64_of {n:Int} (h:(Lit.int .i64 n).wf=true):I64 n:=by
 have:=bounds_i64 h
 exact ⟨this.1,by omega⟩
theorem bytes_of {n:Nat} {v:Value} {x:DataW H × List MemPlace} (h:DataW.trod enc Try.prog W 0 (fun _=>true) true n 23 [v]=some x) (hw:∀ m ∈ x.1.weights Try.prog 23,m ≤ reachBytes) :
  ∃ (d:Sl) (l:List Nat),v=slV d∧ReadsO W.heap d.a (l.map bv)∧d.n=l.length∧(∀ c ∈ l,c < 256)∧l.length < 140737488355328∧(∀ p,d.a=some p→l ≠ []→p.block < W.heap.size)∧d.n ≤ d.c:=by
 rcases open_ints Try.underlying23 Try.underlying5 c5 h with ⟨hcs,_⟩ | ⟨a,len,cap,zs,hcs,_,hl,_,hz,hx,hcell,hwz⟩
 ·refine ⟨⟨none,0,0⟩,[],?_,rfl,rfl,by simp,by decide,nofun,Nat.le_refl _⟩
  exact (List.cons.inj hcs).1
 ·simp only [if_true] at hz
  have hw1:=hw ((len + (cap - len)) * Try.prog.bytesOf 5) (by
   rw [hx]
   have e1:((lits (H:=H) .u8 (zs.take len)).length)=len:=by simp [lits]; omega
   have e2:((lits (H:=H) .u8 (zs.drop len)).length)=cap - len:=by simp [lits]; omega
   simp only [DataW.weights,Try.underlying23,List.mem_cons]
   exact .inl (by rw [e1,e2]))
  rw [b5] at hw1
  have hr:=reachBytes_lt
  have wz:∀ i,i < zs.length→0 ≤ zs.getD i 0∧zs.getD i 0 ≤ 255:=fun i hi=>by
   rw [List.getD_eq_getElem?_getD,List.getElem?_eq_getElem hi]
   exact bounds_u8 (hwz _ (List.getElem_mem hi))
  have ll:((zs.take len).map Int.toNat).length=len:=by rw [List.length_map,List.length_take]; omega
  have rd:∀ i,i < len→Go.Ev.cell W.heap (a.add i)=some (bv ((zs.take len).map Int.toNat)[i]!):=fun i hi=>by
   have h1:Go.Ev.cell W.heap (a.add i)=some (.int .u8 (zs.getD i 0)):=hcell i (by omega)
   have h2:=wz i (by omega)
   have e:((zs.take len).map Int.toNat)[i]! = (zs.getD i 0).toNat:=by
    rw [List.getElem!_eq_getElem?_getD,List.getElem?_map,List.getElem?_take,if_pos hi,List.getElem?_eq_getElem (by omega),List.getD_eq_getElem?_getD,List.getElem?_eq_getElem (by omega)]
    rfl
   rw [h1,e]
   unfold bv
   rw [Int.toNat_of_nonneg h2.1]
  refine ⟨⟨some a,len,cap⟩,(zs.take len).map Int.toNat,?_,?_,ll.symm,?_,by omega,?_,by show len ≤ cap; omega⟩
  ·simpa [slV] using hcs
  ·intro j u hj
   rw [List.getElem?_map] at hj
   obtain ⟨z,hz1,rfl⟩:=Option.map_eq_some_iff.1 hj
   have hjl:j < len:=by have:=(List.getElem?_eq_some_iff.1 hz1).1; rw [ll] at this; exact this
   rw [rd j hjl,List.getElem!_eq_getElem?_getD,hz1]
   rfl
  ·intro c hc
   obtain ⟨z,hz1,rfl⟩:=List.mem_map.1 hc
   have:=bounds_u8 (hwz z (List.mem_of_mem_take hz1))
   omega
  ·intro p hp hne
   obtain rfl:=Option.some.inj hp
   have h0:0 < len:=Nat.pos_of_ne_zero fun e=>hne (List.length_eq_zero_iff.1 (ll.trans e))
   have h1:=rd 0 h0
   unfold Go.Ev.cell at h1
   have eb:(a.add 0).block=a.block:=rfl
   rw [eb] at h1
   exact Nat.lt_of_not_le fun hl=>by
    rw [Array.getElem?_eq_none hl] at h1
    cases h1
theorem kept_all {W W':World} (hs:Go.Ev.Same W W') (hk:Go.Ev.Kept Go.Ev.N W.heap W'.heap) (may:MemPlace→Prop):W.keptBut W' may:=by
 refine ⟨hs.1,hs.2.2,fun i hi=>?_⟩
 rw [hk.2 i hi id]
 cases h:W.heap[i]? with
 | none=>rfl
 | some o =>
  cases o <;> first | exact rfl | exact ⟨rfl,rfl,rfl,fun _ _=>rfl⟩ | exact .inr ⟨rfl,rfl⟩
theorem same_all {W W':World} (hk:Go.Ev.Kept Go.Ev.N W.heap W'.heap) {p:MemPlace} (hp:p.block < W.heap.size):W.sameAt W' p:=by
 cases p with
 | cell b off =>
  show Go.Ev.cell W'.heap ⟨b,off,none⟩=Go.Ev.cell W.heap ⟨b,off,none⟩
  unfold Go.Ev.cell
  rw [hk.2 b hp id]
 | map b=>exact hk.2 b hp id
end
end Go.Proofs.Ytngcoodbepbhbaa
set_option linter.all false
set_option maxRecDepth 1000000
namespace Go.Ev
open Go.Proofs
section
variable {h h' h2 h0 h1:Hp} {q q' q2:HQ} {s s' s2:RS} {nd nd' nd2:List NodeD} {n:NodeD} {id lb hn:Nat} {L L' L2:LD} {R:Value→Hp→Prop} {b:List Nat} {ids:List Nat} {lim:Nat} {a:Sl} {sls:List Sl} {rows w:List (List Nat)} {M:Mem} {cs:List Nat} {r:List Nat} {c:Nat}
theorem RL0.keepN (x:RL0 h a sls rows) (k:Kept N h h'):RL0 h' a sls rows :=
 ⟨reads_keptN k x.rd,x.n,x.len,fun i c r hc hr=>(have e:=x.each i c r hc hr; ⟨reads_keptN k e.1,e.2.1,e.2.2.1,e.2.2.2.1,e.2.2.2.2.1,fun p hp hn=>Nat.lt_of_lt_of_le (e.2.2.2.2.2 p hp hn) k.1⟩),
  fun p hp hn=>Nat.lt_of_lt_of_le (x.out p hp hn) k.1⟩
theorem Bt.keepN (x:Bt h a b) (k:Kept N h h'):Bt h' a b:=⟨reads_keptN k x.rd,x.n,x.cap,x.b8,x.lt,fun p hp hn=>Nat.lt_of_lt_of_le (x.out p hp hn) k.1⟩
/-- What comes off such a list, from that end on. -/
def comes (fr:Bool) (w:List (List Nat)):List (List Nat):=if fr=true then w else w.reverse
def stays (fr:Bool) (w:List (List Nat)) (k:Nat):List (List Nat):=if fr=true then w.drop k else w.take (w.length - k)
def laid (fr:Bool) (w:List (List Nat)) (k:Nat):List (List Nat):=if fr=true then ((comes fr w).take k).reverse else (comes fr w).take k
end
end Go.Ev
set_option linter.all false
set_option maxRecDepth 1000000
namespace Go.Ev
open Go.Proofs
section
variable {h h' h2 h0 h1:Hp} {q q' q2:HQ} {s s' s2:RS} {nd nd' nd2:List NodeD} {n:NodeD} {id lb hn:Nat} {L L' L2:LD} {R:Value→Hp→Prop} {b:List Nat} {ids:List Nat} {lim:Nat} {a:Sl} {sls:List Sl} {rows w:List (List Nat)} {M:Mem} {cs:List Nat} {r:List Nat} {c:Nat}
theorem SlsIn.cap {w:Sl} {l:List Sl} (x:SlsIn h0 h M w l):w.n ≤ w.c:=by
 cases hl:M.loc 0 with
 | none=>have:=x.sl.nil hl; omega
 | some b=>exact (x.sl.row b hl).2.1
end
end Go.Ev
set_option linter.all false
set_option maxRecDepth 1000000
namespace Go.Ev
open Go.Proofs
section
variable {h h' h2 h0 h1:Hp} {q q' q2:HQ} {s s' s2:RS} {nd nd' nd2:List NodeD} {n:NodeD} {id lb hn:Nat} {L L' L2:LD} {R:Value→Hp→Prop} {b:List Nat} {ids:List Nat} {lim:Nat} {a:Sl} {sls:List Sl} {rows w:List (List Nat)} {M:Mem} {cs:List Nat} {r:List Nat} {c:Nat}
theorem SlsIn.addn {M:Mem} {w:Sl} {l l2:List Sl} {bs:Option Addr} {m:Nat} (x:SlsIn h0 h M w l) (rd:ReadsO h bs (l2.map slV)) (hm:m=l2.length) (hl:l.length + l2.length ≤ 100000000) {e:TypeId} {K:Option Addr→Nat→Nat→Hp→Prop}
  (hK:∀ a' c' h2 M',SlsIn h0 h2 M' ⟨a',w.n + m,c'⟩ (l ++ l2)→K a' (w.n + m) c' h2) :
  appSl e 1 24 #[.slice none 0 0] w.a w.n w.c bs m h K:=by
 have hwn:=x.len
 subst hm
 refine ⟨l2.map slV,rd,by rw [List.length_map,Nat.mul_one],x.sl.app x.sep rfl (by rw [List.length_map,Nat.mul_one]) (fun v hv=>by obtain ⟨z,_,rfl⟩:=List.mem_map.1 hv; rfl) (by omega) (by omega) fun a' c' h2 ob cc p2 sl2 ch2=>?_⟩
 refine hK a' c' h2 (M.upd 0 ob cc) ⟨p2,by rw [List.map_append]; exact sl2,fun b hb=>(ch2.2 b hb).elim (x.own b) fun z=>Nat.le_trans x.k.1 z,Nat.le_trans x.k.1 ch2.1.1,fun i hi _=>?_⟩
 exact (ch2.1.2 i (Nat.lt_of_lt_of_le hi x.k.1) fun ho=>by have:=x.own i ho; omega).trans (x.k.2 i hi _root_.id)
end
end Go.Ev
set_option linter.all false
set_option maxRecDepth 1000000
namespace Go.Ev
open Go.Proofs
section
variable {h h' h2 h0 h1:Hp} {q q' q2:HQ} {s s' s2:RS} {nd nd' nd2:List NodeD} {n:NodeD} {id lb hn:Nat} {L L' L2:LD} {R:Value→Hp→Prop} {b:List Nat} {ids:List Nat} {lim:Nat} {a:Sl} {sls:List Sl} {rows w:List (List Nat)} {M:Mem} {cs:List Nat} {r:List Nat} {c:Nat}
theorem Solo.write (x:Solo h q s nd lb L lim) {tb:Nat} (k:Kept (fun b=>b=tb) h h') (ho:q.role tb=.out) (hne:lb ≠ tb):Solo h' q s nd lb L lim :=
 ⟨⟨x.o.g.keepO k fun b e=>e ▸ ho,⟨kept_row k x.o.l.row hne,x.o.l.out⟩,x.o.pos,x.o.lt,x.o.held,x.o.c⟩,x.rt,x.rl,x.lim⟩
theorem Solo.rootsN (x:Solo h q s nd lb L lim):s.rootsN=1:=by
 have rt:=x.rt
 unfold RS.rootsN
 generalize s.roots=l at rt
 cases l with
 | nil=>have:=rt 0; simp at this
 | cons y l =>
  have h0:=rt 0
  have h0:y=some L.hd:=by simpa using h0
  have:l.filter Option.isSome=[]:=by
   rw [List.filter_eq_nil_iff]
   intro z hz
   obtain ⟨j,hj⟩:=List.mem_iff_getElem?.1 hz
   have:=rt (j + 1)
   rw [List.getD_eq_getElem?_getD,List.getElem?_cons_succ,hj,if_neg (by omega)] at this
   have this:z=none:=this
   rw [this]; simp
  rw [h0,List.filter_cons_of_pos rfl,this]; rfl
end
end Go.Ev
set_option linter.all false
set_option maxRecDepth 1000000
namespace Go.Ev
open Go.Proofs
instance (k:Nat) (i n:Int):Decidable (InL k i n):=by unfold InL; exact inferInstance
def byt (v:Int):Nat:=(IntKind.wrap .u8 v).toNat
theorem bv_byt (v:Int):Value.int .u8 (IntKind.wrap .u8 v)=bv (byt v):=by
 unfold bv byt
 have:=wrap_u8' (x:=v)
 have h0:0 ≤ IntKind.wrap .u8 v:=by rw [this]; omega
 rw [Int.toNat_of_nonneg h0]
def hi8 (v:Int):Int:=Int.fdiv v (2 ^ (min (8:Int).toNat (IntKind.bits .i64)))
/-- Bytes that are laid into a slice of one's own. -/
structure By (h0 h:Hp) (q:HQ) (M:Mem) (w:Sl) (l:List Nat):Prop where
 sep:Sep h M
 sl:IsSl 1 M 0 w (l.map bv)
 own:∀ b,M.own b→h0.size ≤ b∧q.role b=.out
section
variable {h h' h2 h0 h1:Hp} {q q' q2:HQ} {s s' s2:RS} {nd nd' nd2:List NodeD} {n:NodeD} {id lb hn:Nat} {L L' L2:LD} {R:Value→Hp→Prop} {b:List Nat} {ids:List Nat} {lim:Nat} {a:Sl} {sls:List Sl} {rows:List (List Nat)} {M:Mem} {cs:List Nat} {r:List Nat} {c:Nat} {w:Sl} {l:List Nat}
theorem By.ex (x:By h0 h q M w l) (e:Ex h q h' q'):By h0 h' q' M w l :=
 ⟨x.sep.keep e.kept fun b hb hn=>hn (x.own b hb).2,x.sl,fun b hb=>⟨(x.own b hb).1,e.out (x.sep.own_lt hb) (x.own b hb).2⟩⟩
theorem By.keepN (x:By h0 h q M w l) (k:Kept N h h'):By h0 h' q M w l:=⟨x.sep.keepN k,x.sl,x.own⟩
theorem By.len (x:By h0 h q M w l):w.n=l.length:=by have:=x.sl.len; rw [List.length_map] at this; omega
theorem By.reads (x:By h0 h q M w l):ReadsO h w.a (l.map bv):=slAt_reads (x.sl.slAt x.sep)
/-- More bytes behind them. -/
theorem By.addn (x:By h0 h q M w l) (fr:∀ b,h.size ≤ b→q.role b=.out) (h0le:h0.size ≤ h.size) {l2:List Nat} {bs:Option Addr} {m:Nat} (rd:ReadsO h bs (l2.map bv)) (hm:m=l2.length) (hl:l.length + l2.length ≤ 1099511627776) {e:TypeId} {K:Option Addr→Nat→Nat→Hp→Prop}
  (hK:∀ a' c' h2 M',By h0 h2 q M' ⟨a',w.n + m,c'⟩ (l ++ l2)→Kept M.own h h2→(∀ b,M'.own b→M.own b ∨ h.size ≤ b)→K a' (w.n + m) c' h2) :
  appSl e 1 1 #[.int .u8 0] w.a w.n w.c bs m h K:=by
 have hwn:=x.len
 subst hm
 refine ⟨l2.map bv,rd,by rw [List.length_map,Nat.mul_one],x.sl.app x.sep rfl (by rw [List.length_map,Nat.mul_one]) (fun v hv=>by obtain ⟨z,_,rfl⟩:=List.mem_map.1 hv; rfl) (by omega) (by omega) fun a' c' h2 ob cc p2 sl2 ch2=>?_⟩
 exact hK a' c' h2 (M.upd 0 ob cc) ⟨p2,by rw [List.map_append]; exact sl2,fun b hb=>(ch2.2 b hb).elim (x.own b) fun z=>⟨Nat.le_trans h0le z,fr b z⟩⟩ ch2.1 ch2.2
theorem Aft.keepO (a:Aft h q s nd L h' q' s' nd' L') {S:Nat→Prop} (k:Kept S h' h2) (hS:∀ b,S b→h.size ≤ b∧q'.role b=.out):Aft h q s nd L h2 q' s' nd' L' :=
 ⟨a.g.keepO k fun b e=>(hS b e).2,⟨a.ex.1,Nat.le_trans a.ex.2.1 k.1,fun b hb ho=>⟨(a.ex.2.2 b hb ho).1,(k.2 b (Nat.lt_of_lt_of_le hb a.ex.2.1) fun e=>by have:=(hS b e).1; omega).trans (a.ex.2.2 b hb ho).2⟩⟩,a.req,a.rlen,a.lim,a.len,a.fr,a.new,a.hd,a.c⟩
theorem Aft.pre (k:Kept N h h2) (g:Gs h q s nd) (a:Aft h2 q s nd L h' q' s' nd' L'):Aft h q s nd L h' q' s' nd' L' :=
 ⟨a.g,(Ex.of_kept k fun b hb=>g.st.fr hb).trans a.ex,a.req,a.rlen,a.lim,a.len,a.fr,a.new,a.hd,a.c⟩
/-- What each of the lists handed out adds. -/
def told2 (rows:List (List Nat)):List Nat:=(rows.map fun r=>[byt (r.length:Nat),byt (hi8 (r.length:Nat))] ++ r).flatten
theorem told2_take {k:Nat} (h:rows[k]?=some r):told2 (rows.take (k + 1))=(told2 (rows.take k) ++ [byt (r.length:Nat),byt (hi8 (r.length:Nat))]) ++ r:=by
 unfold told2
 rw [RS.take_snoc h]
 simp
theorem told2_le (hr:∀ r ∈ rows,r.length ≤ 4096):(told2 rows).length ≤ 4098 * rows.length:=by
 induction rows with
 | nil=>simp [told2]
 | cons x t ih =>
  have h1:=hr x (List.mem_cons_self ..)
  have h2:=ih fun r h=>hr r (List.mem_cons_of_mem _ h)
  unfold told2 at h2 ⊢
  simp only [List.map_cons,List.flatten_cons,List.length_append,List.length_cons,List.length_nil] at h2 ⊢
  omega
end
end Go.Ev
set_option linter.all false
set_option maxRecDepth 1000000
namespace Go.Ev
open Go.Proofs
/-- What lists come to, at most. -/
def wt (rows:List (List Nat)):Nat:=(rows.map fun r=>16 + r.length / 8).sum
theorem wt_ge:∀ rows:List (List Nat),4 * rows.length + rowS rows + rowB rows ≤ wt rows
 | []=>by simp [rowS,rowB,wt]
 | r :: t=>by
  have:=wt_ge t
  unfold rowS rowB wt at *
  simp only [List.map_cons,List.sum_cons,List.length_cons] at *
  have h1:=wordsN_le r.length
  have h2:cntS (2 + wordsN r.length) + cntB (2 + wordsN r.length) ≤ 3 + wordsN r.length:=by unfold cntS cntB; split <;> omega
  omega
theorem room_wt {S B z:Nat} (h1:S + B ≤ 131200) (h2:z ≤ 131200):room2 1048576 S B z:=by
 unfold room2 roomK cntS cntB
 constructor
 ·split
  ·omega
  ·omega
 ·rw [if_pos (by omega)]
  split <;> omega
theorem freeAt_of {l:List (Option Nat)}:∀ {m:Nat},(∀ j,j < m→l.getD j none ≠ none)→l.getD m none=none→RS.freeAt l=m:=by
 induction l with
 | nil =>
  intro m h _
  cases m with
  | zero=>rfl
  | succ m=>exact absurd rfl (h 0 (by omega))
 | cons x t ih =>
  intro m h h2
  cases m with
  | zero =>
   have:x=none:=h2
   subst this; rfl
  | succ m =>
   have h0:x ≠ none:=h 0 (by omega)
   cases x with
   | none=>exact absurd rfl h0
   | some x =>
    show RS.freeAt t + 1=m + 1
    rw [ih (m:=m) (fun j hj=>h (j + 1) (by omega)) h2]
/-- Some lists on one heap (two at most), each held by a handle. -/
structure Duo (m:Nat) (h:Hp) (q:HQ) (s:RS) (nd:List NodeD) (lb:Nat→Nat) (L:Nat→LD):Prop where
 g:Gs h q s nd
 o:∀ k,k < m→Opn h q s nd (lb k) (k + 1) (L k)
 dis:∀ j k,j < m→k < m→j ≠ k→∀ y,y ∈ (L j).all→y ∉ (L k).all
 rt:∀ j,s.roots.getD j none=if j < m then some (L j).hd else none
 rl:s.roots.length ≤ 3
 lim:s.limit=1048576
 m2:m ≤ 2
def idsM (L:Nat→LD):Nat→List Nat
 | 0=>[]
 | m + 1=>idsM L m ++ (L m).all
def wtM (L:Nat→LD):Nat→Nat
 | 0=>0
 | m + 1=>wtM L m + wt (L m).rows
section
variable {h h' h2 h0 h1:Hp} {q q' q2:HQ} {s s' s2:RS} {nd nd' nd2:List NodeD} {n:NodeD} {id hn m:Nat} {L:Nat→LD} {L' L2:LD} {R:Value→Hp→Prop} {b:List Nat} {ids:List Nat} {lb:Nat→Nat}
theorem mem_idsM {x:Nat}:∀ {m:Nat},x ∈ idsM L m ↔ ∃ j,j < m∧x ∈ (L j).all
 | 0=>⟨fun h=>(by cases h),fun ⟨j,hj,_⟩=>by omega⟩
 | m + 1=>by
  show x ∈ idsM L m ++ (L m).all ↔ _
  rw [List.mem_append,mem_idsM (m:=m)]
  constructor
  ·rintro (⟨j,hj,hx⟩ | hx)
   ·exact ⟨j,by omega,hx⟩
   ·exact ⟨m,by omega,hx⟩
  ·rintro ⟨j,hj,hx⟩
   by_cases e:j=m
   ·subst e; exact .inr hx
   ·exact .inl ⟨j,by omega,hx⟩
theorem Duo.nod (x:Duo m h q s nd lb L):∀ j,j ≤ m→(idsM L j).Nodup
 | 0,_=>List.nodup_nil
 | j + 1,hj=>List.nodup_append.2 ⟨x.nod j (by omega),(x.o j (by omega)).c.dis,fun a ha c hc e=>by
  obtain ⟨k,hk,hx⟩:=mem_idsM.1 ha
  exact x.dis k j (by omega) (by omega) (by omega) a hx (e ▸ hc)⟩
theorem Duo.lv (x:Duo m h q s nd lb L):Lv nd s.roots (idsM L m):=by
 refine Lv.of (x.nod m (Nat.le_refl _)) (fun id hid h0=>?_) (fun y hy n hn z hz h0=>?_) fun y hy=>?_
 ·obtain ⟨j,hj⟩:=mem_roots.1 hid
  rw [x.rt] at hj
  split at hj
  ·rename_i hj2
   rw [← Option.some.inj hj]
   exact mem_idsM.2 ⟨j,hj2,List.mem_cons_self ..⟩
  ·cases hj
 ·obtain ⟨j,hj,hx⟩:=mem_idsM.1 hy
  exact mem_idsM.2 ⟨j,hj,(x.o j hj).c.closed hx hn hz h0⟩
 ·obtain ⟨j,hj,hx⟩:=mem_idsM.1 hy
  exact (x.o j hj).rch hx
theorem Duo.free (x:Duo m h q s nd lb L):RS.freeAt s.roots=m :=
 freeAt_of (fun j hj=>by rw [x.rt,if_pos hj]; simp) (by rw [x.rt,if_neg (by omega)])
theorem Duo.live (x:Duo m h q s nd lb L):∀ j,j ≤ m→RS.liveS nd (idsM L j) + RS.liveB nd (idsM L j) ≤ 4 * j + wtM L j
 | 0,_=>by show RS.liveS nd [] + RS.liveB nd [] ≤ _; simp [RS.liveS,RS.liveB]
 | j + 1,hj=>by
  have ih:=x.live j (by omega)
  obtain ⟨a1,a2⟩:=live_all (x.o j (by omega)).c
  have g0:=wt_ge (L j).rows
  show RS.liveS nd (idsM L j ++ (L j).all) + RS.liveB nd (idsM L j ++ (L j).all) ≤ 4 * (j + 1) + (wtM L j + wt (L j).rows)
  rw [(live_append _ _).1,(live_append _ _).2,a1,a2]
  omega
theorem Duo.room (x:Duo m h q s nd lb L) (hw:wtM L m ≤ 131150) {z:Nat} (hz:z ≤ 131200):∃ ids,Lv nd s.roots ids∧room2 s.limit (1 + RS.liveS nd ids) (RS.liveB nd ids) z:=by
 have:=x.live m (Nat.le_refl _)
 have:=x.m2
 refine ⟨_,x.lv,?_⟩
 rw [x.lim]
 exact room_wt (by omega) hz
/-- A call on one of them. -/
def setLD (L:Nat→LD) (k:Nat) (L':LD):Nat→LD:=fun j=>if j=k then L' else L j
theorem setLD_self {k:Nat}:setLD L k L' k=L':=if_pos rfl
theorem setLD_ne {j k:Nat} (h:j ≠ k):setLD L k L' j=L j:=if_neg h
theorem Duo.aft (x:Duo m h q s nd lb L) {k:Nat} (hk:k < m) (a:Aft h q s nd (L k) h' q' s' nd' L'):Duo m h' q' s' nd' lb (setLD L k L'):=by
 have hh:∀ j,(setLD L k L' j).hd=(L j).hd:=fun j=>by
  unfold setLD
  split
  ·rename_i e; rw [e]; exact a.hd
  ·rfl
 have dn:∀ y,y ∈ L'.all→∀ j,j < m→j ≠ k→y ∉ (L j).all:=fun y hy j hj hne hy'=>by
  rcases a.new y hy with z | z
  ·exact x.dis k j hk hj (fun e=>hne e.symm) y z hy'
  ·have:=x.g.lt ((x.o j hj).here hy'); omega
 refine ⟨a.g,fun j hj=>?_,fun j j2 hj hj2 hne y hy hy'=>?_,fun j=>?_,?_,a.lim.trans x.lim,x.m2⟩
 ·unfold setLD
  split
  ·rename_i e; subst e; exact a.opn (x.o j hj)
  ·rename_i e; exact a.other (x.o j hj) (x.dis j k hj hk e)
 ·by_cases e:j=k
  ·subst e
   rw [setLD_self] at hy
   rw [setLD_ne (fun e=>hne e.symm)] at hy'
   exact dn y hy j2 hj2 (fun e=>hne e.symm) hy'
  ·rw [setLD_ne e] at hy
   by_cases e2:j2=k
   ·subst e2
    rw [setLD_self] at hy'
    exact dn y hy' j hj hne hy
   ·rw [setLD_ne e2] at hy'
    exact x.dis j j2 hj hj2 hne y hy hy'
 ·rw [a.req,x.rt]
  split
  ·rw [hh j]
  ·rfl
 ·have:=a.rlen; have:=x.free; have:=x.rl; have:=x.m2; omega
theorem Duo.keepO (x:Duo m h q s nd lb L) {S:Nat→Prop} (k:Kept S h h') (hS:∀ b,S b→q.role b=.out) (hl:∀ j,j < m→¬ S (lb j)):Duo m h' q s nd lb L :=
 ⟨x.g.keepO k hS,fun j hj=>(have o:=x.o j hj; ⟨o.g.keepO k hS,⟨kept_row k o.l.row (hl j hj),o.l.out⟩,o.pos,o.lt,o.held,o.c⟩),x.dis,x.rt,x.rl,x.lim,x.m2⟩
theorem Duo.keepN (x:Duo m h q s nd lb L) (k:Kept N h h'):Duo m h' q s nd lb L:=x.keepO k (fun _ e=>e.elim) fun _ _ e=>e
/-- The heap has moved its objects; all is there. -/
theorem Duo.gc (x:Duo m h q s nd lb L) (g:Gs h' q' s' nd) (er:s'.roots=s.roots) (el:s'.limit=s.limit) (ex:Ex h q h' q'):Duo m h' q' s' nd lb L :=
 ⟨g,fun j hj=>(have o:=x.o j hj; ⟨g,o.l.ex ex,o.pos,o.lt,by rw [er]; exact o.held,o.c⟩),x.dis,fun j=>by rw [er]; exact x.rt j,by rw [er]; exact x.rl,el.trans x.lim,x.m2⟩
theorem Duo.rootsN (x:Duo 2 h q s nd lb L):s.rootsN=2:=by
 have h0:=x.rt 0
 have h1:=x.rt 1
 have h2:=x.rt 2
 have hl:=x.rl
 unfold RS.rootsN
 generalize s.roots=l at h0 h1 h2 hl
 match l with
 | []=>simp at h0
 | [_]=>simp at h1
 | [some a,some c]=>rfl
 | [none,c]=>simp at h0
 | [some a,none]=>simp at h1
 | [a,c,some d]=>simp at h2
 | [some a,some c,none]=>rfl
 | [none,c,none]=>simp at h0
 | [some a,none,none]=>simp at h1
 | _ :: _ :: _ :: _ :: _=>simp at hl
def setN (f:Nat→Nat) (k:Nat) (x:Nat):Nat→Nat:=fun j=>if j=k then x else f j
/-- One list more. -/
theorem Duo.new (x:Duo m h q s nd lb L) (hm:m < 2) (hw:wtM L m ≤ 131150)
  (hok:∀ h' q' s' nd' b L',Duo (m + 1) h' q' s' nd' (setN lb m b) (setLD L m L')→L'.rows=[]→Ex h q h' q'→h.size ≤ b→R (.tuple #[.pointer (some (ad b)),.int .i64 0]) h') :
  CallTo Try.prog 12 #[.pointer (some (ad q.hb))] h R:=by
 have hrl:=x.rl
 have hf:=x.free
 refine lnew x.g (by omega) (fun h' q' s' g er el ex hr=>absurd ?_ (hr _ x.lv)) fun h' q' s' b o er el ex hb _=>hok h' q' s' _ b ⟨nd.length,[],[],[]⟩ ⟨o.g,fun j hj=>?_,fun j k hj hk hne y hy hy'=>?_,fun j=>?_,?_,el.trans x.lim,by omega⟩ rfl ex hb
 ·have:=x.live m (Nat.le_refl _)
  rw [x.lim]
  unfold roomK
  rw [if_pos (by omega)]
  omega
 ·by_cases e:j=m
  ·subst e
   rw [setLD_self]
   unfold setN
   rw [if_pos rfl]
   rw [hf] at o
   exact o
  ·have oj:=x.o j (by omega)
   rw [setLD_ne e]
   unfold setN
   rw [if_neg e]
   refine ⟨o.g,oj.l.ex ex,oj.pos,oj.lt,?_,oj.c.keep fun y hy=>List.getElem?_append_left (oj.g.lt (oj.here hy))⟩
   rw [er,rootL_get,if_neg (by rw [hf]; omega)]
   exact oj.held
 ·have key:∀ j,j < m→∀ y,y ∈ (L j).all→y ∉ (⟨nd.length,[],[],[]⟩:LD).all:=fun j hj y hy hy'=>by
   have h1:=x.g.lt ((x.o j hj).here hy)
   have h2:y=nd.length:=by
    have:y ∈ [nd.length]:=hy'
    simpa using this
   omega
  by_cases e:j=m
  ·subst e
   rw [setLD_self] at hy
   rw [setLD_ne (fun e=>hne e.symm)] at hy'
   exact key k (by omega) y hy' hy
  ·rw [setLD_ne e] at hy
   by_cases e2:k=m
   ·subst e2
    rw [setLD_self] at hy'
    exact key j (by omega) y hy hy'
   ·rw [setLD_ne e2] at hy'
    exact x.dis j k (by omega) (by omega) hne y hy hy'
 ·rw [er,rootL_get,hf]
  by_cases e:j=m
  ·subst e
   rw [if_pos rfl,if_pos (by omega),setLD_self]
  ·rw [if_neg e,x.rt,setLD_ne e]
   by_cases hj:j < m
   ·rw [if_pos hj,if_pos (by omega)]
   ·rw [if_neg hj,if_neg (by omega)]
 ·rw [er]
  have:=rootL_len3 s.roots nd.length
  omega
/-! ### Two heaps -/
structure Two (S:Nat→Prop) (h1 h:Hp) (m:Nat) (q:HQ) (s:RS) (nd:List NodeD) (lb:Nat→Nat) (L:Nat→LD) (m':Nat) (q':HQ) (s':RS) (nd':List NodeD) (lb':Nat→Nat) (L':Nat→LD):Prop where
 a:Duo m h q s nd lb L
 b:Duo m' h q' s' nd' lb' L'
 dis:∀ x,q.role x ≠ .out→q'.role x=.out
 la:∀ k,k < m→q'.role (lb k)=.out
 lc:∀ k,k < m'→q.role (lb' k)=.out
 k:Kept S h1 h
 fa:Frsh h1 q
 fb:Frsh h1 q'
 ha:∀ k,k < m→h1.size ≤ lb k
 hc:∀ k,k < m'→h1.size ≤ lb' k
variable {Lb Lb2 La:Nat→LD} {lb' lb2:Nat→Nat} {s0 s1:RS} {q0 q1:HQ} {nd0 nd1:List NodeD} {S:Nat→Prop} {m' m2:Nat}
theorem Two.swap (x:Two S h1 h m q s nd lb L m' q' s' nd' lb' Lb):Two S h1 h m' q' s' nd' lb' Lb m q s nd lb L :=
 ⟨x.b,x.a,fun y hy=>Classical.byContradiction fun hn=>hy (x.dis y hn),x.lc,x.la,x.k,x.fb,x.fa,x.hc,x.ha⟩
theorem Two.keepN (x:Two S h1 h m q s nd lb L m' q' s' nd' lb' Lb) (k:Kept N h h2):Two S h1 h2 m q s nd lb L m' q' s' nd' lb' Lb :=
 ⟨x.a.keepN k,x.b.keepN k,x.dis,x.la,x.lc,⟨Nat.le_trans x.k.1 k.1,fun b hb hn=>(k.2 b (Nat.lt_of_lt_of_le hb x.k.1) _root_.id).trans (x.k.2 b hb hn)⟩,x.fa,x.fb,x.ha,x.hc⟩
/-- Written in what was there ahead of both. -/
theorem Two.write (x:Two S h1 h m q s nd lb L m' q' s' nd' lb' Lb) {tb:Nat} (ht:tb < h1.size) (hS:S tb) (k:Kept (fun b=>b=tb) h h2):Two S h1 h2 m q s nd lb L m' q' s' nd' lb' Lb :=
 ⟨x.a.keepO k (fun b e=>e ▸ x.fa.old ht) fun j hj e=>(by have:=x.ha j hj; omega),x.b.keepO k (fun b e=>e ▸ x.fb.old ht) fun j hj e=>(by have:=x.hc j hj; omega),x.dis,x.la,x.lc,⟨Nat.le_trans x.k.1 k.1,fun b hb hn=>(k.2 b (Nat.lt_of_lt_of_le hb x.k.1) fun e=>hn (e ▸ hS)).trans (x.k.2 b hb hn)⟩,x.fa,x.fb,x.ha,x.hc⟩
end
end Go.Ev
set_option linter.all false
set_option maxRecDepth 1000000
namespace Go.Ev
open Go.Proofs
/-- A step of a script. -/
structure OpD where
 k:Int
 x1:Int
 x2:Int
 fr:Bool
 i:Int
 m:Int
 a:Sl
 b:List Nat
def OpD.cells (o:OpD):List Value:=[.int .i64 o.k,.int .i64 o.x1,.int .i64 o.x2,.bool o.fr,.int .i64 o.i,.int .i64 o.m,.slice o.a.a o.a.n o.a.c]
structure OpD.Ok (h:Hp) (o:OpD):Prop where
 bt:Bt h o.a o.b
 k:-9223372036854775808 ≤ o.k∧o.k < 9223372036854775808
 x1:-9223372036854775808 ≤ o.x1∧o.x1 < 9223372036854775808
 i:-9223372036854775808 ≤ o.i∧o.i < 9223372036854775808
 m:-9223372036854775808 ≤ o.m∧o.m < 9223372036854775808
section
variable {h h' h2 h0 h1:Hp} {q q' q2:HQ} {s s' s2:RS} {nd nd' nd2:List NodeD} {n:NodeD} {id hn m:Nat} {L Lb:Nat→LD} {L' L2:LD} {R:Value→Hp→Prop} {b:List Nat} {lb lb':Nat→Nat} {S:Nat→Prop} {o:OpD} {ob b3 b4:Nat} {a:Sl}
theorem Bt.src0 (y:Bt h0 a b) (k:Kept N h0 h) (f:Frsh h0 q):Src h q a b :=
 ⟨reads_keptN k y.rd,y.n,y.b8,fun p hp hn=>⟨f.old (y.out p hp hn),Nat.lt_of_lt_of_le (y.out p hp hn) k.1⟩⟩
theorem exrow {c:Nat} {cs:List Value} (e:Ex h q h' q') (r:Row h c cs) (ho:q.role c=.out):Row h' c cs:=kept_row e.kept r fun hn=>hn ho
theorem kept_base (k0:Kept N h0 h1) (hS:∀ b,S b→h0.size ≤ b) (k:Kept S h1 h):Kept N h0 h :=
 ⟨Nat.le_trans k0.1 k.1,fun j hj _=>(k.2 j (Nat.lt_of_lt_of_le hj k0.1) fun hs=>by have:=hS j hs; omega).trans (k0.2 j hj _root_.id)⟩
end
end Go.Ev
set_option linter.all false
set_option maxRecDepth 1000000
namespace Go.Ev
open Go.Proofs
/-- A script, where it lies. -/
structure Ops (h:Hp) (a:Sl) (ops:List OpD):Prop where
 n:a.n=ops.length
 at_:∀ (i:Nat) (o:OpD),ops[i]?=some o→∃ p,a.a=some p∧(∀ (j:Nat) (v:Value),o.cells[j]?=some v→cell h ((p.add (i * 7)).add j)=some v)∧o.Ok h
section
variable {h h' h2 h0 h1:Hp} {q q' q2:HQ} {s s' s2:RS} {nd nd' nd2:List NodeD} {n:NodeD} {id hn m:Nat} {L Lb:Nat→LD} {L' L2:LD} {R:Value→Hp→Prop} {b:List Nat} {lb lb':Nat→Nat} {S:Nat→Prop} {o:OpD} {ob b3 b4:Nat} {a:Sl} {ops:List OpD}
theorem cell_keptN {p:Addr} {v:Value} (k:Kept N h h') (e:cell h p=some v):cell h' p=some v:=by
 have hb:p.block < h.size:=Nat.lt_of_not_le fun hle=>by
  unfold cell at e
  rw [Array.getElem?_eq_none hle] at e
  cases e
 unfold cell at e ⊢
 rw [k.2 _ hb _root_.id]
 exact e
theorem RowsAt.rl {a:Sl} {M:Mem} {cs:List Nat} {rows:List (List Nat)} (x:RowsAt h0 h a M cs rows) (ho:∀ b,M.own b→q.role b=.out) (b8:∀ r ∈ rows,Bytes8 r∧r.length ≤ 4096):RL h q a (rowSls cs rows) rows:=by
 refine ⟨slAt_reads (x.sl.slAt x.sep),by rw [x.n_eq,rowSls_len x.len],rowSls_len x.len,fun i c r hc hr=>?_,fun p hp hn=>?_⟩
 ·obtain ⟨d,bk,hcs,_,_,row,_⟩:=x.get hr
  have hc2:=rowSls_get hcs hr
  rw [hc] at hc2
  obtain rfl:=Option.some.inj hc2
  have b:=b8 r (List.mem_of_getElem? hr)
  have e1:=(x.el i d r hcs hr).1
  exact ⟨row_src row b.1 (ho d ⟨_,e1⟩),Nat.le_refl _,by have:=b.2; omega⟩
 ·obtain ⟨c,hb,ha⟩:=x.sl.some_of (fun e=>hn (List.map_eq_nil_iff.1 e))
  rw [hp] at ha
  obtain rfl:p=ad c:=Option.some.inj ha
  exact ⟨ho c ⟨0,hb⟩,x.sep.lt hb⟩
end
end Go.Ev
set_option linter.all false
set_option maxRecDepth 100000
namespace Go.Proofs.Ytngcoodbepbhbaa
open Go.ChangeShapes Go.WideShapes Go.ChangeAt Go.RowKit
open Go.Ev (Reads ReadsO uv bv slV I64 Sl RL0 Bt OpD Ops)
theorem c62:Try.prog.cellsOf 62=1:=by kernel_rfl
theorem c68:Try.prog.cellsOf 68=7:=by kernel_rfl
section
variable {H:Type} {enc:TypeId × Value→H} {W:World}
theorem i64r {x:Int} (h:I64 x):-9223372036854775808 ≤ x∧x < 9223372036854775808:=by
 have:=h
 unfold I64 at this
 omega
theorem op_of {n:Nat} {cs:List Value} {x:DataW H × List MemPlace} (h:DataW.trod enc Try.prog W 0 (fun _=>true) true n 68 cs=some x) (hw:∀ m ∈ x.1.weights Try.prog 68,m ≤ reachBytes):∃ o:OpD,cs=o.cells∧o.Ok W.heap:=by
 obtain ⟨xs,n,_,rfl,hl,hn,hel⟩:=DataW.trod_struct Try.underlying68 h
 rw [c68] at hl
 have e0:DataW.trod enc Try.prog W 0 (fun _=>true) true n 3 ((cs.drop 0).take (Try.prog.cellsOf 3))=xs[0]?:=hel 0 _ rfl
 have e1:DataW.trod enc Try.prog W 0 (fun _=>true) true n 3 ((cs.drop 1).take (Try.prog.cellsOf 3))=xs[1]?:=hel 1 _ rfl
 have e2:DataW.trod enc Try.prog W 0 (fun _=>true) true n 3 ((cs.drop 2).take (Try.prog.cellsOf 3))=xs[2]?:=hel 2 _ rfl
 have e3:DataW.trod enc Try.prog W 0 (fun _=>true) true n 4 ((cs.drop 3).take (Try.prog.cellsOf 4))=xs[3]?:=hel 3 _ rfl
 have e4:DataW.trod enc Try.prog W 0 (fun _=>true) true n 3 ((cs.drop 4).take (Try.prog.cellsOf 3))=xs[4]?:=hel 4 _ rfl
 have e5:DataW.trod enc Try.prog W 0 (fun _=>true) true n 3 ((cs.drop 5).take (Try.prog.cellsOf 3))=xs[5]?:=hel 5 _ rfl
 have e6:DataW.trod enc Try.prog W 0 (fun _=>true) true n 23 ((cs.drop 6).take (Try.prog.cellsOf 23))=xs[6]?:=hel 6 _ rfl
 rw [c3] at e0 e1 e2 e4 e5
 rw [c4] at e3
 rw [c23] at e6
 match xs,hn with
 | [x0,x1,x2,x3,x4,x5,x6],_ =>
  match cs,hl with
  | [v0,v1,v2,v3,v4,v5,v6],_ =>
   obtain ⟨n0,a0,_,w0⟩:=DataW.trod_int Try.underlying3 (show DataW.trod enc Try.prog W 0 (fun _=>true) true n 3 [v0]=some x0 from e0)
   obtain ⟨n1,a1,_,w1⟩:=DataW.trod_int Try.underlying3 (show DataW.trod enc Try.prog W 0 (fun _=>true) true n 3 [v1]=some x1 from e1)
   obtain ⟨n2,a2,_,w2⟩:=DataW.trod_int Try.underlying3 (show DataW.trod enc Try.prog W 0 (fun _=>true) true n 3 [v2]=some x2 from e2)
   obtain ⟨n3,a3,_⟩:=DataW.trod_bool Try.underlying4 (show DataW.trod enc Try.prog W 0 (fun _=>true) true n 4 [v3]=some x3 from e3)
   obtain ⟨n4,a4,_,w4⟩:=DataW.trod_int Try.underlying3 (show DataW.trod enc Try.prog W 0 (fun _=>true) true n 3 [v4]=some x4 from e4)
   obtain ⟨n5,a5,_,w5⟩:=DataW.trod_int Try.underlying3 (show DataW.trod enc Try.prog W 0 (fun _=>true) true n 3 [v5]=some x5 from e5)
   obtain ⟨d,l,q6,r⟩:=bytes_of (show DataW.trod enc Try.prog W 0 (fun _=>true) true n 23 [v6]=some x6 from e6) (fun m hm=>hw m (by
    simp only [DataW.weights,Try.underlying68]
    exact DataW.weights_mem_each (j:=6) (t:=23) rfl rfl m hm))
   simp only [List.cons.injEq,and_true] at a0 a1 a2 a3 a4 a5
   refine ⟨⟨n0,n1,n2,n3,n4,n5,d,l⟩,?_,⟨⟨r.1,r.2.1,r.2.2.2.2.2,r.2.2.1,r.2.2.2.1,r.2.2.2.2.1⟩,i64r (i64_of w0),i64r (i64_of w1),i64r (i64_of w4),i64r (i64_of w5)⟩⟩
   rw [a0,a1,a2,a3,a4,a5,q6]
   rfl
theorem ops_of {n:Nat} {v:Value} {x:DataW H × List MemPlace} (h:DataW.trod enc Try.prog W 0 (fun _=>true) true n 62 [v]=some x) (hw:∀ m ∈ x.1.weights Try.prog 62,m ≤ reachBytes) :
  ∃ (sl:Sl) (ops:List OpD),v=.slice sl.a sl.n sl.c∧Ops W.heap sl ops:=by
 rcases DataW.trod_slice Try.underlying62 h with ⟨hc,_⟩ | ⟨a,len,cap,elems,rest,k,_,hc,rfl,_,_,_,hlen,hel3,_,_⟩
 ·exact ⟨⟨none,0,0⟩,[],(List.cons.inj hc).1,⟨rfl,fun i o ho=>by cases ho⟩⟩
 ·rw [c68] at hel3
  have each:∀ i,i < len→∃ o:OpD,o.Ok W.heap∧∀ j v,o.cells[j]?=some v→Go.Ev.cell W.heap ((a.add (i * 7)).add j)=some v:=fun i hi=>by
   have h1:=hel3 i hi
   have hi2:i < elems.length:=by omega
   rw [List.getElem?_eq_getElem hi2] at h1
   obtain ⟨cs1,hc1,hd⟩:=Option.bind_eq_some_iff.1 h1
   obtain ⟨_,hcl,hcc⟩:=World.cells?_some hc1
   obtain ⟨o,ho,hok⟩:=op_of hd (fun m hm=>hw m (by
    simp only [DataW.weights,Try.underlying62,List.mem_cons,List.mem_append]
    exact .inr (.inl (weightsAll_mem (List.mem_map.2 ⟨_,List.getElem_mem hi2,rfl⟩) m hm))))
   refine ⟨o,hok,fun j v hj=>?_⟩
   have hjl:j < 7:=(List.getElem?_eq_some_iff.1 hj).1
   have h3:Go.Ev.cell W.heap ((a.add (i * 7)).add j)=cs1[j]?:=hcc j hjl
   rw [h3,ho,hj]
  obtain ⟨f,hf⟩:∃ f:Nat→OpD,∀ i,i < len→(f i).Ok W.heap∧∀ j v,(f i).cells[j]?=some v→Go.Ev.cell W.heap ((a.add (i * 7)).add j)=some v :=
   ⟨fun i=>if hi:i < len then (each i hi).choose else ⟨0,0,0,false,0,0,⟨none,0,0⟩,[]⟩,fun i hi=>by dsimp only; rw [dif_pos hi]; exact (each i hi).choose_spec⟩
  refine ⟨⟨some a,len,cap⟩,(List.range len).map f,(List.cons.inj hc).1,⟨by simp,fun i o ho=>?_⟩⟩
  have hi:i < len:=by have:=(List.getElem?_eq_some_iff.1 ho).1; simpa using this
  rw [List.getElem?_map,List.getElem?_range hi] at ho
  obtain rfl:=Option.some.inj ho
  exact ⟨a,rfl,(hf i hi).2,(hf i hi).1⟩
end
end Go.Proofs.Ytngcoodbepbhbaa
set_option linter.all false
set_option maxRecDepth 100000
namespace Go.Proofs.Ytngcoodbepbhbaa
open Go.ChangeShapes Go.WideShapes Go.ChangeAt Go.RowKit
open Go.Ev (Reads ReadsO uv bv slV I64 Sl RL0 Bt OpD Ops)
theorem c73:Try.prog.cellsOf 73=2:=by kernel_rfl
section
variable {H:Type} {enc:TypeId × Value→H} {W:World}
theorem play_of {n:Nat} {cs:List Value} {x:DataW H × List MemPlace} (h:DataW.trod enc Try.prog W 0 (fun _=>true) true n 73 cs=some x) (hw:∀ m ∈ x.1.weights Try.prog 73,m ≤ reachBytes) :
  ∃ (lm:Int) (sB:Sl) (ops:List OpD),cs=[.int .i64 lm,.slice sB.a sB.n sB.c]∧I64 lm∧Ops W.heap sB ops:=by
 obtain ⟨xs,n,_,rfl,hl,hn,hel⟩:=DataW.trod_struct Try.underlying73 h
 rw [c73] at hl
 have e0:DataW.trod enc Try.prog W 0 (fun _=>true) true n 3 ((cs.drop 0).take (Try.prog.cellsOf 3))=xs[0]?:=hel 0 _ rfl
 have e1:DataW.trod enc Try.prog W 0 (fun _=>true) true n 62 ((cs.drop 1).take (Try.prog.cellsOf 62))=xs[1]?:=hel 1 _ rfl
 rw [c3] at e0
 rw [c62] at e1
 match xs,hn with
 | [x0,x1],_ =>
  match cs,hl with
  | [v0,v1],_ =>
   obtain ⟨n0,a0,_,w0⟩:=DataW.trod_int Try.underlying3 (show DataW.trod enc Try.prog W 0 (fun _=>true) true n 3 [v0]=some x0 from e0)
   obtain ⟨d1,l1,q1,r1⟩:=ops_of (show DataW.trod enc Try.prog W 0 (fun _=>true) true n 62 [v1]=some x1 from e1) (fun m hm=>hw m (by
    simp only [DataW.weights,Try.underlying73]
    exact DataW.weights_mem_each (j:=1) (t:=62) rfl rfl m hm))
   simp only [List.cons.injEq,and_true] at a0
   exact ⟨n0,d1,l1,by rw [a0,q1],i64_of w0,r1⟩
end
end Go.Proofs.Ytngcoodbepbhbaa
