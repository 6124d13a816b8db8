/- The program's list: New, Open, Close, Push; the heap's New; a heap with one list / blob / Printed by a program (own work) out of the loaded functions: what each says of the heap, and that the evaluator says the same / The outright statements' helpers: into, at, made, waste, Eq / The outright statements' helpers on lists: num, within, lists of bytes in memory, Eq, EqLists, holds / The outright statements' make: a list with these elements, on a heap with room / ChainTurns: what its parts come to / The chain statements' arguments, out of the datum that is read / ChainTurns: the law's own call / ChainStrikes: the statement's own rest / ChainStrikes: the law's own call / ChainFull: the law's own call / ChainShaken: what a step tells. No condition but that these are ones. -/
import Derived.Test.YtngcoodbepbhbaaG18
import Derived.Test.YtngcoodbepbhbaaG15
import Derived.Test.YtngcoodbepbhbaaG4
import Derived.Test.YtngcoodbepbhbaaG14
import Derived.ProofKit
import Derived.SizedLaws
import Derived.LaidMore
import Derived.OpenShut
set_option linter.all false
set_option maxRecDepth 1000000
namespace Go.Ev
open Go.Proofs
section
variable {h h' h2:Hp} {q q' q2:HQ} {s s' s2:RS} {nd nd' nd2:List NodeD} {n:NodeD} {id lb hn:Nat} {L L' L2:LD} {R:Value→Hp→Prop} {b:List Nat} {ids:List Nat} {lim:Nat}
/-- A handle more for an object that is there, and a List for it. -/
theorem lhold (x:Gs h q s nd) (hh:s.here id) (hrl:s.roots.length < 99999999)
  (hR:∀ h' q' s' lb,Gs h' q' s' nd→s'.Alk s→s'.roots=rootL s.roots id→Ex h q h' q'→Lst h' q' lb (RS.freeAt s.roots + 1)→h.size ≤ lb→R (.tuple #[.pointer (some (ad lb)),.int .i64 0]) h') :
  CallTo Try.prog 41 #[.pointer (some (ad q.hb)),uv (s.ref id)] h R:=by
 refine f41F_ok ?_
 unfold f41F
 refine q_root x (.inr hh) (by omega) fun h1 q1 s1 g1 al1 er1 ex1=>⟨_,_,rfl,Cond_f rfl (Let_mk fun h2 e2=>?_)⟩
 have k2:Kept N h1 h2:=e2 ▸ kept_push _ _ _
 have hout:q1.role h1.size=.out:=g1.st.fr (Nat.le_refl _)
 have row:Row h2 h1.size [.pointer (some (ad q1.hb)),.int .i64 ((RS.freeAt s.roots + 1:Nat):Int)]:=by
  rw [ex1.1]; exact e2 ▸ row_new h1 #[.pointer (some (ad q.hb)),.int .i64 ((RS.freeAt s.roots + 1:Nat):Int)] _
 exact hR h2 q1 s1 h1.size (g1.keepN k2) al1 er1 (ex1.trans (Ex.of_kept k2 fun b hb=>g1.st.fr hb)) ⟨row,hout⟩ ex1.2.1
theorem lnew (x:Gs h q s nd) (hrl:s.roots.length < 99999999)
  (hfull:∀ h' q' s',Gs h' q' s' nd→s'.roots=s.roots→s'.limit=s.limit→Ex h q h' q'→(∀ ids,Lv nd s.roots ids→¬ roomK s.limit (1 + RS.liveS nd ids) (RS.liveB nd ids) 4)→R (.tuple #[.pointer none,.int .i64 31]) h')
  (hok:∀ h' q' s' lb,Opn h' q' s' (nd ++ [⟨2,[0,0],[0]⟩]) lb (RS.freeAt s.roots + 1) ⟨nd.length,[],[],[]⟩→s'.roots=rootL s.roots nd.length→s'.limit=s.limit→Ex h q h' q'→h.size ≤ lb→(∀ ids,Lv nd s.roots ids→roomK s.limit (1 + RS.liveS nd ids) (RS.liveB nd ids) 4)→R (.tuple #[.pointer (some (ad lb)),.int .i64 0]) h') :
  CallTo Try.prog 12 #[.pointer (some (ad q.hb))] h R:=by
 refine f12F_ok ?_
 unfold f12F
 refine q_alloc x (⟨⟨by omega,by omega⟩,⟨by omega,by omega⟩,by omega,by omega⟩:Shape ((2:Nat):Int) ((2:Nat):Int) ((1:Nat):Int)) rfl rfl rfl (fun h1 q1 s1 g1 er1 el1 ex1 hr=>⟨_,_,rfl,Cond_t rfl (hfull h1 q1 s1 g1 er1 el1 ex1 fun ids lv z=>hr ((x.room lv 2 1).2 z))⟩) fun h1 q1 s1 g1 er1 el1 hh1 ex1 hr=>⟨_,_,rfl,Cond_f rfl ?_⟩
 rw [← ex1.1]
 refine lhold g1 hh1 (by rw [er1]; exact hrl) fun h2 q2 s2 lb g2 al2 er2 ex2 l2 hlb=>⟨_,_,rfl,?_⟩
 rw [er1] at er2 l2
 have hf:=RS.freeAt_le s.roots
 have hp:=x.pos
 have hget:(nd ++ [⟨2,List.replicate 2 0,List.replicate 1 0⟩]:List NodeD)[nd.length]?=some ⟨2,[0,0],[0]⟩:=by rw [List.getElem?_append_right (Nat.le_refl _),Nat.sub_self]; rfl
 refine hok h2 q2 s2 lb ⟨g2,l2,by omega,by omega,?_,⟨rfl,rfl,hget,fun i hi=>absurd hi (by simp),fun i r hr=>(by cases hr),by simp,fun y hy=>?_⟩⟩ er2 (al2.lim.trans el1) (ex1.trans ex2) (Nat.le_trans ex1.2.1 hlb) fun ids lv=>(x.room lv 2 1).1 hr
 ·rw [er2,rootL_get]; exact if_pos rfl
 ·have:y=nd.length:=by simpa using hy
  omega
theorem lpush (o:Opn h q s nd lb hn L) {a:Sl} (sr:Src h q a b) (hbl:b.length < 140737488355328) (hrl:s.roots.length < 99999999) {fr:Bool}
  (hlong:4096 < b.length→∀ h' q',Aft h q s nd L h' q' s nd L→R (.int .i64 41) h')
  (hfull:b.length ≤ 4096→∀ h' q' s' nd',Aft h q s nd L h' q' s' nd' L→(∀ ids,Lv nd s.roots ids→¬ room2 s.limit (1 + RS.liveS nd ids) (RS.liveB nd ids) (2 + wordsN b.length))→R (.int .i64 31) h')
  (hok:∀ h' q' s' nd' L',Okb b→Aft h q s nd L h' q' s' nd' L'→L'.rows=(if fr=true then b :: L.rows else L.rows ++ [b])→(∀ ids,Lv nd s.roots ids→room2 s.limit (1 + RS.liveS nd ids) (RS.liveB nd ids) (2 + wordsN b.length))→R (.int .i64 0) h') :
  CallTo Try.prog 13 #[.pointer (some (ad lb)),.bool fr,.slice a.a a.n a.c] h R:=by
 have hl:=o.len
 refine f13F_ok ?_
 unfold f13F
 cases fr with
 | true =>
  have hin:InL L.rows.length 0 0:=⟨by omega,by omega,by omega,by omega⟩
  refine Cond_t rfl (linsert o sr hbl hrl ⟨by omega,by omega⟩ (fun hb=>absurd hin hb) (fun _ hl h' q' a'=>⟨_,rfl,hlong hl h' q' a'⟩) (fun _ hl h' q' s' nd' a' hr=>⟨_,rfl,hfull hl h' q' s' nd' a' hr⟩) fun h' q' s' nd' L' _ ok a' er hr=>⟨_,rfl,hok h' q' s' nd' L' ok a' ?_ hr⟩)
  rw [er,if_pos rfl]; rfl
 | false =>
  have hin:InL L.rows.length (L.rows.length:Nat) 0:=⟨by omega,by omega,by omega,by omega⟩
  refine Cond_f rfl (llen o ⟨_,rfl,linsert o sr hbl hrl ⟨by omega,by omega⟩ (fun hb=>absurd hin hb) (fun _ hl h' q' a'=>⟨_,rfl,hlong hl h' q' a'⟩) (fun _ hl h' q' s' nd' a' hr=>⟨_,rfl,hfull hl h' q' s' nd' a' hr⟩) fun h' q' s' nd' L' _ ok a' er hr=>⟨_,rfl,hok h' q' s' nd' L' ok a' ?_ hr⟩⟩)
  rw [er,if_neg (by simp),Int.toNat_natCast]; unfold ins; simp
/-! ### Live words of lists -/
def rowS (rows:List (List Nat)):Nat:=(rows.map fun r=>cntS (2 + wordsN r.length)).sum
def rowB (rows:List (List Nat)):Nat:=(rows.map fun r=>cntB (2 + wordsN r.length)).sum
theorem sum_at {α:Type} {f:Nat→Nat} {g:α→Nat} {l:List Nat} {m:List α} (hl:l.length=m.length) (h:∀ (i x:Nat) (y:α),l[i]?=some x→m[i]?=some y→f x=g y):(l.map f).sum=(m.map g).sum:=by
 congr 1
 apply List.ext_getElem?
 intro i
 rw [List.getElem?_map,List.getElem?_map]
 by_cases hi:i < l.length
 ·rw [List.getElem?_eq_getElem hi,List.getElem?_eq_getElem (by omega)]
  exact congrArg some (h i _ _ (List.getElem?_eq_getElem hi) (List.getElem?_eq_getElem (by omega)))
 ·rw [List.getElem?_eq_none (by omega),List.getElem?_eq_none (by omega)]; rfl
theorem szAt_of {m:NodeD} {x:Nat} (h:nd[x]?=some m):RS.szAt nd x=m.sz:=by unfold RS.szAt; rw [h]; rfl
theorem live_all (c:L.ok nd):RS.liveS nd L.all=4 + 4 * L.rows.length + rowS L.rows∧RS.liveB nd L.all=rowB L.rows:=by
 have nxs:∀ (l:List Nat) (i x:Nat),l[i]?=some x→nx l i=x:=fun l i x h=>by unfold nx; rw [List.getD_eq_getElem?_getD,h]; rfl
 have eh:RS.szAt nd L.hd=4:=szAt_of c.hn
 have en:∀ i x,L.ns[i]?=some x→RS.szAt nd x=4:=fun i x hx=>by
  have hi:i < L.rows.length:=by rw [← c.ln]; exact (List.getElem?_eq_some_iff.1 hx).1
  have:=szAt_of (c.nn i hi)
  rw [nxs _ _ _ hx] at this
  exact this
 have eb:∀ (i x:Nat) (r:List Nat),L.bs[i]?=some x→L.rows[i]?=some r→RS.szAt nd x=2 + wordsN r.length:=fun i x r hx hr=>by
  obtain ⟨h1,ok⟩:=c.bn i r hr
  rw [nxs _ _ _ hx] at h1
  rw [szAt_of h1]
  show 1 + 0 + (blobRaws r).length=_
  rw [ok.is.len]; omega
 have s1:∀ (f:Nat→Nat) (m:Nat) (l:List Nat),(∀ x ∈ l,f x=m)→(l.map f).sum=m * l.length:=fun f m l=>by
  induction l with
  | nil=>intro _; simp
  | cons y l ih =>
   intro h
   rw [List.map_cons,List.sum_cons,h y (List.mem_cons_self ..),ih fun x hx=>h x (List.mem_cons_of_mem _ hx),List.length_cons,Nat.mul_succ]
   omega
 have hS:RS.liveS nd L.ns=4 * L.rows.length∧RS.liveB nd L.ns=0:=by
  have q:∀ x ∈ L.ns,RS.szAt nd x=4:=fun x hx=>by obtain ⟨i,hi⟩:=List.mem_iff_getElem?.1 hx; exact en i x hi
  constructor
  ·unfold RS.liveS; rw [s1 _ 4 _ fun x hx=>by rw [q x hx]; rfl,c.ln]
  ·unfold RS.liveB; rw [s1 _ 0 _ fun x hx=>by rw [q x hx]; rfl,Nat.zero_mul]
 have hB:RS.liveS nd L.bs=rowS L.rows∧RS.liveB nd L.bs=rowB L.rows:=by
  constructor
  ·exact sum_at c.lb fun i x r hx hr=>by show (if RS.szAt nd x ≤ 64 then _ else _)=_; rw [eb i x r hx hr]; rfl
  ·exact sum_at c.lb fun i x r hx hr=>by show (if RS.szAt nd x ≤ 64 then _ else _)=_; rw [eb i x r hx hr]; rfl
 have e1:L.all=[L.hd] ++ (L.ns ++ L.bs):=rfl
 have hH:RS.liveS nd [L.hd]=4∧RS.liveB nd [L.hd]=0:=by
  unfold RS.liveS RS.liveB
  simp [eh]
 rw [e1,(live_append _ _).1,(live_append _ _).1,(live_append _ _).2,(live_append _ _).2,hS.1,hS.2,hB.1,hB.2,hH.1,hH.2]
 omega
/-- A heap on which one list lies, that one handle holds. -/
structure Solo (h:Hp) (q:HQ) (s:RS) (nd:List NodeD) (lb:Nat) (L:LD) (lim:Nat):Prop where
 o:Opn h q s nd lb 1 L
 rt:∀ j,s.roots.getD j none=if j=0 then some L.hd else none
 rl:s.roots.length ≤ 2
 lim:s.limit=lim
theorem Solo.free (x:Solo h q s nd lb L lim):RS.freeAt s.roots ≤ 1:=by
 have h0:=x.rt 0
 have h1:=x.rt 1
 revert h0 h1
 generalize s.roots=l
 intro h0 h1
 match l with
 | []=>simp at h0
 | [_]=>exact RS.freeAt_le _
 | a :: none :: l=>cases a with
  | none=>simp at h0
  | some _=>show 0 + 1 ≤ 1; omega
 | a :: some b :: l=>simp at h1
theorem Solo.lv (x:Solo h q s nd lb L lim):Lv nd s.roots L.all:=by
 refine Lv.of x.o.c.dis (fun id hid h0=>?_) (fun y hy m hm z hz h0=>x.o.c.closed hy hm hz h0) fun y hy=>x.o.rch hy
 obtain ⟨j,hj⟩:=mem_roots.1 hid
 rw [x.rt] at hj
 split at hj
 ·rw [← Option.some.inj hj]; exact List.mem_cons_self ..
 ·cases hj
theorem Solo.aft (x:Solo h q s nd lb L lim) (a:Aft h q s nd L h' q' s' nd' L'):Solo h' q' s' nd' lb L' lim :=
 ⟨a.opn x.o,fun j=>by rw [a.req,x.rt,a.hd],by have:=a.rlen; have:=x.free; have:=x.rl; omega,a.lim.trans x.lim⟩
theorem Solo.keepN (x:Solo h q s nd lb L lim) (k:Kept N h h'):Solo h' q s nd lb L lim:=⟨x.o.keepN k,x.rt,x.rl,x.lim⟩
/-- What a heap with one list has room for. -/
theorem Solo.room (x:Solo h q s nd lb L lim) {z:Nat}:(∀ ids,Lv nd s.roots ids→room2 s.limit (1 + RS.liveS nd ids) (RS.liveB nd ids) z) ↔ room2 lim (5 + 4 * L.rows.length + rowS L.rows) (rowB L.rows) z:=by
 obtain ⟨e1,e2⟩:=live_all x.o.c
 constructor
 ·intro h
  have:=h _ x.lv
  rw [e1,e2,x.lim] at this
  rw [show 5 + 4 * L.rows.length + rowS L.rows=1 + (4 + 4 * L.rows.length + rowS L.rows) by omega]
  exact this
 ·intro h ids lv
  have hp:ids.Perm L.all:=(List.perm_ext_iff_of_nodup lv.nod x.lv.nod).2 fun y=>(lv.iff y).trans (x.lv.iff y).symm
  rw [(live_perm hp).1,(live_perm hp).2,e1,e2,x.lim,show 1 + (4 + 4 * L.rows.length + rowS L.rows)=5 + 4 * L.rows.length + rowS L.rows by omega]
  exact h
/-! ### The heap's New, and a list on it -/
theorem hn_ok {i:Int} (hbad:¬ (128 ≤ i∧i ≤ 1048576)→R (.tuple #[.pointer none,.int .i64 30]) h)
  (hgood:∀ h' q',128 ≤ i∧i ≤ 1048576→Gs h' q' (RS.new i.toNat) [⟨0,[],[]⟩]→Kept N h h'→(∀ b,q'.role b ≠ .out→h.size ≤ b)→R (.tuple #[.pointer (some (ad q'.hb)),.int .i64 0]) h'):CallTo Try.prog 9 #[.int .i64 i] h R :=
 hnew_ok hbad fun h' hb role G hn rp fr k=>hgood h' ⟨hb,role,G,[]⟩ hn ⟨⟨rp,RS.new_inv (by omega) (by omega)⟩,⟨rfl,fun id hid=>by unfold RS.here RS.new at hid; simp at hid⟩⟩ k fr
theorem lv_new:Lv [⟨0,[],[]⟩] (RS.new lim).roots []:=⟨List.nodup_nil,fun x=>⟨nofun,fun r=>by
 exfalso
 induction r with
 | root a b=>unfold RS.new at a; simp at a
 | next _ _ _ _ ih=>exact ih⟩⟩
/-- The first list of a heap. -/
theorem snew (x:Gs h q (RS.new lim) [⟨0,[],[]⟩]) (h1:128 ≤ lim) (h2:lim ≤ 1048576)
  (hok:∀ h' q' s' nd' lb L',Solo h' q' s' nd' lb L' lim→L'.rows=[]→Ex h q h' q'→h.size ≤ lb→R (.tuple #[.pointer (some (ad lb)),.int .i64 0]) h'):CallTo Try.prog 12 #[.pointer (some (ad q.hb))] h R:=by
 refine lnew x (by show 0 < _; omega) (fun h' q' s' g er el ex hr=>absurd ?_ (hr [] lv_new)) fun h' q' s' lb o er el ex hlb hr=>hok h' q' s' _ lb ⟨1,[],[],[]⟩ ⟨o,fun j=>?_,?_,el⟩ rfl ex hlb
 ·show roomK lim (1 + 0) 0 4
  unfold roomK
  rw [if_pos (by omega)]; omega
 ·rw [er]
  show (rootL [] 1).getD j none=_
  rw [rootL_get]
  show (if j=0 then _ else _)=_
  by_cases e:j=0
  ·rw [if_pos e,if_pos e]
  ·rw [if_neg e,if_neg e]; simp
 ·rw [er]; show (rootL [] 1).length ≤ 2; unfold rootL RS.freeAt; simp
end
end Go.Ev
set_option linter.all false
set_option maxRecDepth 1000000
namespace Go.Ev
open Go.Proofs
section
variable {h h' h2:Hp} {q q' q2:HQ} {s s':RS} {nd:List NodeD} {b t:List Nat} {id:Nat} {R:Value→Hp→Prop}
end
end Go.Ev
set_option linter.all false
set_option maxRecDepth 100000
namespace Go.Ev
open Go.Proofs
/- larder/larderlaw5.ChainFull -/
def lv3 (m:Nat):List Nat:=if m=12 then [1,3,5,7,8,9] else if m=15 then [1,3,5,7,8,9,10] else if m=27 then [1,3,5,7,8,9,10,13,15] else []
/- larder/larderlaw5.ChainTurns -/
/- larder/larderlaw5.ChainStrikes -/
/- larder/larderlaw5.ChainGreat -/
noncomputable def body6:Code:=(Try.f6.body).getD .skip
def lv6 (m:Nat):List Nat:=[]
def f6K1  (x1:Option Addr) (x21:Bool) (h:Hp) (R:Value→Hp→Prop):Prop :=
 Cond x21 (R (.bool false:Value) h) (CallTo Try.prog 23 #[.pointer x1,.int .i64 70000] h fun r h2=>∃ t24_0:Sl,∃ t24_1:Int,r=.tuple #[.slice t24_0.a t24_0.n t24_0.c,.int .i64 t24_1]∧CallTo Try.prog 29 #[.int .i64 65536] h2 fun r h3=>∃ t29:Sl,r=.slice t29.a t29.n t29.c∧CallTo Try.prog 26 #[.pointer x1,.bool false,.int .i64 1,.slice t29.a t29.n t29.c] h3 fun r h4=>∃ t30_0:Int,∃ t30_1:Int,r=.tuple #[.int .i64 t30_0,.int .i64 t30_1]∧CallTo Try.prog 19 #[.pointer x1,.int .i64 2,.int .i64 69995] h4 fun r h5=>∃ t34:Int,r=.int .i64 t34∧CallTo Try.prog 11 #[.int .i64 t24_1] h5 fun r h6=>∃ t36:Int,r=.int .i64 t36∧Cond (t36 != (52:Int)) (R (.bool false:Value) h6) (Cond (t30_0 != (1:Int)) (R (.bool false:Value) h6) (CallTo Try.prog 11 #[.int .i64 t30_1] h6 fun r h7=>∃ t44:Int,r=.int .i64 t44∧Cond (t44 != (0:Int)) (R (.bool false:Value) h7) (CallTo Try.prog 11 #[.int .i64 t34] h7 fun r h8=>∃ t49:Int,r=.int .i64 t49∧Cond (t49 != (0:Int)) (R (.bool false:Value) h8) (CallTo Try.prog 16 #[.pointer x1] h8 fun r h9=>∃ t54:Int,r=.int .i64 t54∧Cond (t54 != (4:Int)) (R (.bool false:Value) h9) (CallTo Try.prog 15 #[.pointer x1,.int .i64 0,.int .i64 4] h9 fun r h10=>∃ t59_0:Sl,∃ t59_1:Int,r=.tuple #[.slice t59_0.a t59_0.n t59_0.c,.int .i64 t59_1]∧CallTo Try.prog 22 #[.pointer x1,.bool false] h10 fun r h11=>∃ t64_0:Sl,∃ t64_1:Int,r=.tuple #[.slice t64_0.a t64_0.n t64_0.c,.int .i64 t64_1]∧CallTo Try.prog 11 #[.int .i64 t59_1] h11 fun r h12=>∃ t68:Int,r=.int .i64 t68∧Cond (t68 == (0:Int)) (CallTo Try.prog 11 #[.int .i64 t64_1] h12 fun r h13=>∃ t72:Int,r=.int .i64 t72∧Cond (t72 == (0:Int)) (CallTo Try.prog 29 #[.int .i64 69999] h13 fun r h14=>∃ t77:Sl,r=.slice t77.a t77.n t77.c∧CallTo Try.prog 18 #[.slice t64_0.a t64_0.n t64_0.c,.slice t77.a t77.n t77.c] h14 fun r h15=>∃ t78:Bool,r=.bool t78∧Cond t78 (CallTo Try.prog 29 #[.int .i64 0] h15 fun r h16=>∃ t82:Sl,r=.slice t82.a t82.n t82.c∧CallTo Try.prog 29 #[.int .i64 1] h16 fun r h17=>∃ t83:Sl,r=.slice t83.a t83.n t83.c∧CallTo Try.prog 29 #[.int .i64 69998] h17 fun r h18=>∃ t84:Sl,r=.slice t84.a t84.n t84.c∧CallTo Try.prog 29 #[.int .i64 69999] h18 fun r h19=>∃ t85:Sl,r=.slice t85.a t85.n t85.c∧Let (h19.push (.cells #[.slice t82.a t82.n t82.c,.slice t83.a t83.n t83.c,.slice t84.a t84.n t84.c,.slice t85.a t85.n t85.c] 23)) fun h20=>CallTo Try.prog 30 #[.slice t59_0.a t59_0.n t59_0.c,.slice (some (nb h19)) 4 4] h20 fun r h21=>∃ t87:Bool,r=.bool t87∧Cond t87 (CallTo Try.prog 16 #[.pointer x1] h21 fun r h22=>∃ t91:Int,r=.int .i64 t91∧R ((.bool (t91 == (3:Int)):Value)) h22) (R (.bool false:Value) h21)) (R (.bool false:Value) h15)) (R (.bool false:Value) h13)) (R (.bool false:Value) h12)))))))
def f6F  (h:Hp) (R:Value→Hp→Prop):Prop :=
 CallTo Try.prog 27 #[.int .i64 70000] h fun r h1=>∃ t9:Option Addr,r=.pointer t9∧Cond (Option.isNone t9) (f6K1  t9 true h1 R) (CallTo Try.prog 16 #[.pointer t9] h1 fun r h23=>∃ t14:Int,r=.int .i64 t14∧Cond (t14 != (70000:Int)) (f6K1  t9 true h23 R) (CallTo Try.prog 28 #[.pointer t9,.int .i64 70000] h23 fun r h24=>∃ t19:Bool,r=.bool t19∧f6K1  t9 (!t19) h24 R))
theorem f6F_eq  (h:Hp) (R:Value→Hp→Prop):evF Try.prog tab lv6 Try.f6 body6 [] [] h R=f6F  h R:=by kernel_rfl
theorem f6F_ok {h:Hp} {R:Value→Hp→Prop} (hF:f6F h R):CallTo Try.prog 6 #[] h R :=
 callTo_of_ev (lv:=lv6) (hints:=[]) (c:=body6) (args:=[]) mixed tab_ok Try.func6 (by kernel_rfl) (by kernel_rfl) (by rw [f6F_eq]; exact hF)
/- larder/larderlaw5.ChainShaken -/
/- larder/larderlaw5.within -/
/- larder/larderlaw5.num -/
noncomputable def body11:Code:=(Try.f11.body).getD .skip
def lv11 (m:Nat):List Nat:=[]
def f11F (a0:Int) (h:Hp) (R:Value→Hp→Prop):Prop :=
 R (.int .i64 a0:Value) h
theorem f11F_eq (a0:Int) (h:Hp) (R:Value→Hp→Prop):evF Try.prog tab lv11 Try.f11 body11 [] [.int .i64 a0] h R=f11F a0 h R:=by kernel_rfl
theorem f11F_ok {a0:Int} {h:Hp} {R:Value→Hp→Prop} (hF:f11F a0 h R):CallTo Try.prog 11 #[.int .i64 a0] h R :=
 callTo_of_ev (lv:=lv11) (hints:=[]) (c:=body11) (args:=[.int .i64 a0]) mixed tab_ok Try.func11 (by kernel_rfl) (by kernel_rfl) (by rw [f11F_eq]; exact hF)
/- larder/larderlaw5.make1 -/
/- larder/larderlaw5.holds -/
/- larder/larderlaw5.rest -/
/- larder/larderlaw5.great -/
noncomputable def body27:Code:=(Try.f27.body).getD .skip
def lv27 (m:Nat):List Nat:=if m=8 then [0,5,6] else []
def f27I1 (J:Nat→Int→Option Addr→Int→Hp→Prop) (n:Nat) (env:List Value) (h:Hp):Prop:=lenIs env 43 (DecI .i64 env 0 fun s0=>DecP env 5 fun s5=>DecI .i64 env 6 fun s6=>J n s0 s5 s6 h)
def f27K2  (x0:Int) (x5:Option Addr) (x29:Bool) (h:Hp) (R:Value→Hp→Prop):Prop :=
 Cond x29 (R (.pointer none:Value) h) (LoopEv (evC Try.prog tab lv27 (sub [1,1,1,1,1,0,1,0,0] body27)) (contAt Try.prog tab lv27 [1,1,1,1,1,0,1,0] body27 [] (bodyK Try.prog Try.f27 [] R)) [(0,.int .i64 x0),(5,.pointer x5),(6,.int .i64 0)] 43 h)
def f27K1  (x0:Int) (x3:Option Addr) (x17:Bool) (h:Hp) (R:Value→Hp→Prop):Prop :=
 Cond x17 (R (.pointer none:Value) h) (CallTo Try.prog 12 #[.pointer x3] h fun r h3=>∃ t20_0:Option Addr,∃ t20_1:Int,r=.tuple #[.pointer t20_0,.int .i64 t20_1]∧CallTo Try.prog 11 #[.int .i64 t20_1] h3 fun r h4=>∃ t24:Int,r=.int .i64 t24∧Cond (t24 != (0:Int)) (f27K2  x0 t20_0 true h4 R) (f27K2  x0 t20_0 (Option.isNone t20_0) h4 R))
def f27L1 (J1:Nat→Int→Option Addr→Int→Hp→Prop) (n1:Nat) (s0:Int) (s5:Option Addr) (s6:Int) (g:Nat→Value) (h:Hp) (R:Value→Hp→Prop):Prop :=
 Cond (decide (s6 < s0)) (CallTo Try.prog 29 #[.int .i64 s6] h fun r h5=>∃ t37:Sl,r=.slice t37.a t37.n t37.c∧CallTo Try.prog 13 #[.pointer s5,.bool false,.slice t37.a t37.n t37.c] h5 fun r h6=>∃ t38:Int,r=.int .i64 t38∧CallTo Try.prog 11 #[.int .i64 t38] h6 fun r h7=>∃ t40:Int,r=.int .i64 t40∧Cond (t40 != (0:Int)) (R (.pointer none:Value) h7) (∃ m,m < n1∧J1 m s0 s5 (IntKind.wrap .i64 (s6 + (1:Int))) h7)) (R (.pointer s5:Value) h)
theorem f27L1_eq (J1:Nat→Int→Option Addr→Int→Hp→Prop) (n1:Nat) (s0:Int) (s5:Option Addr) (s6:Int) (g:Nat→Value) (h:Hp) (R:Value→Hp→Prop):(evC Try.prog tab lv27 (sub [1,1,1,1,1,0,1,0,0] body27)) (loopK (f27I1 J1) n1 (contAt Try.prog tab lv27 [1,1,1,1,1,0,1,0] body27 [] (bodyK Try.prog Try.f27 [] R))) (mkEnv 43 [(0,.int .i64 s0),(5,.pointer s5),(6,.int .i64 s6)] g) h=f27L1 J1 n1 s0 s5 s6 g h R:=by kernel_rfl
theorem f27I1_at (J:Nat→Int→Option Addr→Int→Hp→Prop) (n:Nat) (s0:Int) (s5:Option Addr) (s6:Int) (g:Nat→Value) (h:Hp):f27I1 J n (mkEnv 43 [(0,.int .i64 s0),(5,.pointer s5),(6,.int .i64 s6)] g) h=J n s0 s5 s6 h:=by kernel_rfl
theorem f27L1_rule  {R:Value→Hp→Prop} {s0:Int} {s5:Option Addr} {s6:Int} {h0:Hp} (J:Nat→Int→Option Addr→Int→Hp→Prop) (n0:Nat) (hi:J n0 s0 s5 s6 h0)
  (hr:∀ n s0 s5 s6 g h,J n s0 s5 s6 h→f27L1  J n s0 s5 s6 g h R):LoopEv (evC Try.prog tab lv27 (sub [1,1,1,1,1,0,1,0,0] body27)) (contAt Try.prog tab lv27 [1,1,1,1,1,0,1,0] body27 [] (bodyK Try.prog Try.f27 [] R)) [(0,.int .i64 s0),(5,.pointer s5),(6,.int .i64 s6)] 43 h0:=by
 refine ⟨f27I1 J,n0,fun g=>by rw [f27I1_at]; exact hi,fun n env h hI=>?_⟩
 clear hi
 clear s0 s5 s6
 obtain ⟨hlen,hI⟩:=Cond_true' hI
 have hlen:env.length=43:=by simpa using hlen
 obtain ⟨s0,es0,hI⟩:=DecI.out hI
 obtain ⟨s5,es5,hI⟩:=DecP.out hI
 obtain ⟨s6,es6,hI⟩:=DecI.out hI
 rw [mkEnv_of (l:=[(0,.int .i64 s0),(5,.pointer s5),(6,.int .i64 s6)]) hlen (by simp only [List.mem_cons,List.not_mem_nil,or_false,forall_eq_or_imp,forall_eq]; exact ⟨es0,es5,es6⟩)]
 rw [f27L1_eq]
 exact hr n s0 s5 s6 _ h hI
def f27F (a0:Int) (h:Hp) (R:Value→Hp→Prop):Prop :=
 CallTo Try.prog 9 #[.int .i64 1048576] h fun r h1=>∃ t8_0:Option Addr,∃ t8_1:Int,r=.tuple #[.pointer t8_0,.int .i64 t8_1]∧CallTo Try.prog 11 #[.int .i64 t8_1] h1 fun r h2=>∃ t12:Int,r=.int .i64 t12∧Cond (t12 != (0:Int)) (f27K1  a0 t8_0 true h2 R) (f27K1  a0 t8_0 (Option.isNone t8_0) h2 R)
theorem f27F_eq (a0:Int) (h:Hp) (R:Value→Hp→Prop):evF Try.prog tab lv27 Try.f27 body27 [] [.int .i64 a0] h R=f27F a0 h R:=by kernel_rfl
theorem f27F_ok {a0:Int} {h:Hp} {R:Value→Hp→Prop} (hF:f27F a0 h R):CallTo Try.prog 27 #[.int .i64 a0] h R :=
 callTo_of_ev (lv:=lv27) (hints:=[]) (c:=body27) (args:=[.int .i64 a0]) mixed tab_ok Try.func27 (by kernel_rfl) (by kernel_rfl) (by rw [f27F_eq]; exact hF)
/- larder/larderlaw5.three -/
noncomputable def body29:Code:=(Try.f29.body).getD .skip
def lv29 (m:Nat):List Nat:=[]
def f29F (a0:Int) (h:Hp) (R:Value→Hp→Prop):Prop :=
 0 ≤ (8:Int)∧0 ≤ (16:Int)∧Let (h.push (.cells #[.int .u8 (IntKind.wrap .u8 a0),.int .u8 (IntKind.wrap .u8 (Int.fdiv a0 (2 ^ (min (8:Int).toNat (IntKind.bits .i64))))),.int .u8 (IntKind.wrap .u8 (Int.fdiv a0 (2 ^ (min (16:Int).toNat (IntKind.bits .i64)))))] 5)) fun h1=>R ((.slice (some (nb h)) 3 3:Value)) h1
theorem f29F_eq (a0:Int) (h:Hp) (R:Value→Hp→Prop):evF Try.prog tab lv29 Try.f29 body29 [] [.int .i64 a0] h R=f29F a0 h R:=by kernel_rfl
theorem f29F_ok {a0:Int} {h:Hp} {R:Value→Hp→Prop} (hF:f29F a0 h R):CallTo Try.prog 29 #[.int .i64 a0] h R :=
 callTo_of_ev (lv:=lv29) (hints:=[]) (c:=body29) (args:=[.int .i64 a0]) mixed tab_ok Try.func29 (by kernel_rfl) (by kernel_rfl) (by rw [f29F_eq]; exact hF)
/- larder/larderlaw5.told -/
end Go.Ev
set_option linter.all false
set_option maxRecDepth 100000
namespace Go.Ev
open Go.Proofs
/- larder/larderref0.Eq -/
noncomputable def body18:Code:=(Try.f18.body).getD .skip
def lv18 (m:Nat):List Nat:=[]
def f18F (a0:Sl) (a1:Sl) (h:Hp) (R:Value→Hp→Prop):Prop :=
 CallTo Try.prog 51 #[.slice a0.a a0.n a0.c,.slice a1.a a1.n a1.c] h fun r h1=>∃ t7:Int,r=.int .i64 t7∧R ((.bool (t7 == (0:Int)):Value)) h1
theorem f18F_eq (a0:Sl) (a1:Sl) (h:Hp) (R:Value→Hp→Prop):evF Try.prog tab lv18 Try.f18 body18 [] [.slice a0.a a0.n a0.c,.slice a1.a a1.n a1.c] h R=f18F a0 a1 h R:=by kernel_rfl
theorem f18F_ok {a0:Sl} {a1:Sl} {h:Hp} {R:Value→Hp→Prop} (hF:f18F a0 a1 h R):CallTo Try.prog 18 #[.slice a0.a a0.n a0.c,.slice a1.a a1.n a1.c] h R :=
 callTo_of_ev (lv:=lv18) (hints:=[]) (c:=body18) (args:=[.slice a0.a a0.n a0.c,.slice a1.a a1.n a1.c]) mixed tab_ok Try.func18 (by kernel_rfl) (by kernel_rfl) (by rw [f18F_eq]; exact hF)
/- larder/larderref0.EqLists -/
noncomputable def body30:Code:=(Try.f30.body).getD .skip
def lv30 (m:Nat):List Nat:=if m=4 then [0,1,5] else []
def f30I1 (J:Nat→Sl→Sl→Int→Hp→Prop) (n:Nat) (env:List Value) (h:Hp):Prop:=lenIs env 27 (DecL env 0 fun s0=>DecL env 1 fun s1=>DecI .i64 env 5 fun s5=>J n s0 s1 s5 h)
def f30L1 (J1:Nat→Sl→Sl→Int→Hp→Prop) (n1:Nat) (s0:Sl) (s1:Sl) (s5:Int) (g:Nat→Value) (h:Hp) (R:Value→Hp→Prop):Prop :=
 Cond (decide (s5 < (((s0.n:Nat):Int)))) ((0 ≤ s5∧s5 < ((s0.n:Nat):Int))∧PtrOk s0.a fun p19=>∃ t20:Sl,cell h (p19.add (s5.toNat * 1))=some (.slice t20.a t20.n t20.c)∧(0 ≤ s5∧s5 < ((s1.n:Nat):Int))∧PtrOk s1.a fun p23=>∃ t24:Sl,cell h (p23.add (s5.toNat * 1))=some (.slice t24.a t24.n t24.c)∧∃ t25:Int,CallTo Try.prog 51 #[.slice t20.a t20.n t20.c,.slice t24.a t24.n t24.c] h (fun v h'=>v=(.int .i64 t25)∧h'=h)∧Cond (t25 != (0:Int)) (R (.bool false:Value) h) (∃ m,m < n1∧J1 m s0 s1 (IntKind.wrap .i64 (s5 + (1:Int))) h)) (R (.bool true:Value) h)
theorem f30L1_eq (J1:Nat→Sl→Sl→Int→Hp→Prop) (n1:Nat) (s0:Sl) (s1:Sl) (s5:Int) (g:Nat→Value) (h:Hp) (R:Value→Hp→Prop):(evC Try.prog tab lv30 (sub [1,1,0,1,0,0] body30)) (loopK (f30I1 J1) n1 (contAt Try.prog tab lv30 [1,1,0,1,0] body30 [] (bodyK Try.prog Try.f30 [] R))) (mkEnv 27 [(0,.slice s0.a s0.n s0.c),(1,.slice s1.a s1.n s1.c),(5,.int .i64 s5)] g) h=f30L1 J1 n1 s0 s1 s5 g h R:=by kernel_rfl
theorem f30I1_at (J:Nat→Sl→Sl→Int→Hp→Prop) (n:Nat) (s0:Sl) (s1:Sl) (s5:Int) (g:Nat→Value) (h:Hp):f30I1 J n (mkEnv 27 [(0,.slice s0.a s0.n s0.c),(1,.slice s1.a s1.n s1.c),(5,.int .i64 s5)] g) h=J n s0 s1 s5 h:=by kernel_rfl
theorem f30L1_rule  {R:Value→Hp→Prop} {s0:Sl} {s1:Sl} {s5:Int} {h0:Hp} (J:Nat→Sl→Sl→Int→Hp→Prop) (n0:Nat) (hi:J n0 s0 s1 s5 h0)
  (hr:∀ n s0 s1 s5 g h,J n s0 s1 s5 h→f30L1  J n s0 s1 s5 g h R):LoopEv (evC Try.prog tab lv30 (sub [1,1,0,1,0,0] body30)) (contAt Try.prog tab lv30 [1,1,0,1,0] body30 [] (bodyK Try.prog Try.f30 [] R)) [(0,.slice s0.a s0.n s0.c),(1,.slice s1.a s1.n s1.c),(5,.int .i64 s5)] 27 h0:=by
 refine ⟨f30I1 J,n0,fun g=>by rw [f30I1_at]; exact hi,fun n env h hI=>?_⟩
 clear hi
 clear s0 s1 s5
 obtain ⟨hlen,hI⟩:=Cond_true' hI
 have hlen:env.length=27:=by simpa using hlen
 obtain ⟨s0,es0,hI⟩:=DecL.out hI
 obtain ⟨s1,es1,hI⟩:=DecL.out hI
 obtain ⟨s5,es5,hI⟩:=DecI.out hI
 rw [mkEnv_of (l:=[(0,.slice s0.a s0.n s0.c),(1,.slice s1.a s1.n s1.c),(5,.int .i64 s5)]) hlen (by simp only [List.mem_cons,List.not_mem_nil,or_false,forall_eq_or_imp,forall_eq]; exact ⟨es0,es1,es5⟩)]
 rw [f30L1_eq]
 exact hr n s0 s1 s5 _ h hI
def f30F (a0:Sl) (a1:Sl) (h:Hp) (R:Value→Hp→Prop):Prop :=
 Cond ((((a0.n:Nat):Int)) != (((a1.n:Nat):Int))) (R (.bool false:Value) h) (LoopEv (evC Try.prog tab lv30 (sub [1,1,0,1,0,0] body30)) (contAt Try.prog tab lv30 [1,1,0,1,0] body30 [] (bodyK Try.prog Try.f30 [] R)) [(0,.slice a0.a a0.n a0.c),(1,.slice a1.a a1.n a1.c),(5,.int .i64 0)] 27 h)
theorem f30F_eq (a0:Sl) (a1:Sl) (h:Hp) (R:Value→Hp→Prop):evF Try.prog tab lv30 Try.f30 body30 [] [.slice a0.a a0.n a0.c,.slice a1.a a1.n a1.c] h R=f30F a0 a1 h R:=by kernel_rfl
theorem f30F_ok {a0:Sl} {a1:Sl} {h:Hp} {R:Value→Hp→Prop} (hF:f30F a0 a1 h R):CallTo Try.prog 30 #[.slice a0.a a0.n a0.c,.slice a1.a a1.n a1.c] h R :=
 callTo_of_ev (lv:=lv30) (hints:=[]) (c:=body30) (args:=[.slice a0.a a0.n a0.c,.slice a1.a a1.n a1.c]) mixed tab_ok Try.func30 (by kernel_rfl) (by kernel_rfl) (by rw [f30F_eq]; exact hF)
/- larder/larderref0.Cmp -/
noncomputable def body51:Code:=(Try.f51.body).getD .skip
def lv51 (m:Nat):List Nat:=if m=2 then [0,1,5] else []
def f51I1 (J:Nat→Sl→Sl→Int→Hp→Prop) (n:Nat) (env:List Value) (h:Hp):Prop:=lenIs env 46 (DecL env 0 fun s0=>DecL env 1 fun s1=>DecI .i64 env 5 fun s5=>J n s0 s1 s5 h)
def f51K1 (J1:Nat→Sl→Sl→Int→Hp→Prop) (n1:Nat) (x0:Sl) (x1:Sl) (x5:Int) (x15:Bool) (h:Hp) (R:Value→Hp→Prop):Prop :=
 Cond x15 ((0 ≤ x5∧x5 < ((x0.n:Nat):Int))∧PtrOk x0.a fun p20=>∃ t21:Int,cell h (p20.add (x5.toNat * 1))=some (.int .u8 t21)∧(0 ≤ x5∧x5 < ((x1.n:Nat):Int))∧PtrOk x1.a fun p24=>∃ t25:Int,cell h (p24.add (x5.toNat * 1))=some (.int .u8 t25)∧Cond (decide (t21 < t25)) (R ((.int .i64 (-1):Value)) h) ((0 ≤ x5∧x5 < ((x0.n:Nat):Int))∧PtrOk x0.a fun p29=>∃ t30:Int,cell h (p29.add (x5.toNat * 1))=some (.int .u8 t30)∧(0 ≤ x5∧x5 < ((x1.n:Nat):Int))∧PtrOk x1.a fun p33=>∃ t34:Int,cell h (p33.add (x5.toNat * 1))=some (.int .u8 t34)∧Cond (decide (t30 > t34)) (R (.int .i64 1:Value) h) (∃ m,m < n1∧J1 m x0 x1 (IntKind.wrap .i64 (x5 + (1:Int))) h))) (Cond (decide ((((x0.n:Nat):Int)) < (((x1.n:Nat):Int)))) (R ((.int .i64 (-1):Value)) h) (Cond (decide ((((x0.n:Nat):Int)) > (((x1.n:Nat):Int)))) (R (.int .i64 1:Value) h) (R (.int .i64 0:Value) h)))
def f51L1 (J1:Nat→Sl→Sl→Int→Hp→Prop) (n1:Nat) (s0:Sl) (s1:Sl) (s5:Int) (g:Nat→Value) (h:Hp) (R:Value→Hp→Prop):Prop :=
 Cond (decide (s5 < (((s0.n:Nat):Int)))) (f51K1 J1 n1 s0 s1 s5 (decide (s5 < (((s1.n:Nat):Int)))) h R) (f51K1 J1 n1 s0 s1 s5 false h R)
theorem f51L1_eq (J1:Nat→Sl→Sl→Int→Hp→Prop) (n1:Nat) (s0:Sl) (s1:Sl) (s5:Int) (g:Nat→Value) (h:Hp) (R:Value→Hp→Prop):(evC Try.prog tab lv51 (sub [1,0,1,0,0] body51)) (loopK (f51I1 J1) n1 (contAt Try.prog tab lv51 [1,0,1,0] body51 [] (bodyK Try.prog Try.f51 [] R))) (mkEnv 46 [(0,.slice s0.a s0.n s0.c),(1,.slice s1.a s1.n s1.c),(5,.int .i64 s5)] g) h=f51L1 J1 n1 s0 s1 s5 g h R:=by kernel_rfl
theorem f51I1_at (J:Nat→Sl→Sl→Int→Hp→Prop) (n:Nat) (s0:Sl) (s1:Sl) (s5:Int) (g:Nat→Value) (h:Hp):f51I1 J n (mkEnv 46 [(0,.slice s0.a s0.n s0.c),(1,.slice s1.a s1.n s1.c),(5,.int .i64 s5)] g) h=J n s0 s1 s5 h:=by kernel_rfl
theorem f51L1_rule  {R:Value→Hp→Prop} {s0:Sl} {s1:Sl} {s5:Int} {h0:Hp} (J:Nat→Sl→Sl→Int→Hp→Prop) (n0:Nat) (hi:J n0 s0 s1 s5 h0)
  (hr:∀ n s0 s1 s5 g h,J n s0 s1 s5 h→f51L1  J n s0 s1 s5 g h R):LoopEv (evC Try.prog tab lv51 (sub [1,0,1,0,0] body51)) (contAt Try.prog tab lv51 [1,0,1,0] body51 [] (bodyK Try.prog Try.f51 [] R)) [(0,.slice s0.a s0.n s0.c),(1,.slice s1.a s1.n s1.c),(5,.int .i64 s5)] 46 h0:=by
 refine ⟨f51I1 J,n0,fun g=>by rw [f51I1_at]; exact hi,fun n env h hI=>?_⟩
 clear hi
 clear s0 s1 s5
 obtain ⟨hlen,hI⟩:=Cond_true' hI
 have hlen:env.length=46:=by simpa using hlen
 obtain ⟨s0,es0,hI⟩:=DecL.out hI
 obtain ⟨s1,es1,hI⟩:=DecL.out hI
 obtain ⟨s5,es5,hI⟩:=DecI.out hI
 rw [mkEnv_of (l:=[(0,.slice s0.a s0.n s0.c),(1,.slice s1.a s1.n s1.c),(5,.int .i64 s5)]) hlen (by simp only [List.mem_cons,List.not_mem_nil,or_false,forall_eq_or_imp,forall_eq]; exact ⟨es0,es1,es5⟩)]
 rw [f51L1_eq]
 exact hr n s0 s1 s5 _ h hI
def f51F (a0:Sl) (a1:Sl) (h:Hp) (R:Value→Hp→Prop):Prop :=
 LoopEv (evC Try.prog tab lv51 (sub [1,0,1,0,0] body51)) (contAt Try.prog tab lv51 [1,0,1,0] body51 [] (bodyK Try.prog Try.f51 [] R)) [(0,.slice a0.a a0.n a0.c),(1,.slice a1.a a1.n a1.c),(5,.int .i64 0)] 46 h
theorem f51F_eq (a0:Sl) (a1:Sl) (h:Hp) (R:Value→Hp→Prop):evF Try.prog tab lv51 Try.f51 body51 [] [.slice a0.a a0.n a0.c,.slice a1.a a1.n a1.c] h R=f51F a0 a1 h R:=by kernel_rfl
theorem f51F_ok {a0:Sl} {a1:Sl} {h:Hp} {R:Value→Hp→Prop} (hF:f51F a0 a1 h R):CallTo Try.prog 51 #[.slice a0.a a0.n a0.c,.slice a1.a a1.n a1.c] h R :=
 callTo_of_ev (lv:=lv51) (hints:=[]) (c:=body51) (args:=[.slice a0.a a0.n a0.c,.slice a1.a a1.n a1.c]) mixed tab_ok Try.func51 (by kernel_rfl) (by kernel_rfl) (by rw [f51F_eq]; exact hF)
end Go.Ev
set_option linter.all false
set_option maxRecDepth 1000000
namespace Go.Ev
open Go.Proofs
def I64 (n:Int):Prop:=-9223372036854775808 ≤ n∧n < 9223372036854775808
section
variable {h h' h2:Hp} {q q' q2:HQ} {s s':RS} {nd:List NodeD} {b t:List Nat} {id:Nat} {R:Value→Hp→Prop}
theorem cmp_ok {a c:Sl} {l:List Nat} (ha:ReadsO h a.a (l.map bv)) (hb:ReadsO h c.a (l.map bv)) (na:a.n=l.length) (nb:c.n=l.length) (hn:l.length < 9223372036854775807) (hR:R (.int .i64 0) h) :
  CallTo Try.prog 51 #[.slice a.a a.n a.c,.slice c.a c.n c.c] h R:=by
 refine f51F_ok ?_
 unfold f51F
 refine f51L1_rule (s0:=a) (s1:=c) (fun q s0 s1 s5 h'=>∃ i:Nat,i ≤ l.length∧q=l.length - i∧a=s0∧c=s1∧s5=(i:Int)∧h=h') l.length ⟨0,Nat.zero_le _,rfl,rfl,rfl,rfl,rfl⟩ ?_
 rintro q s0 s1 s5 g0 h2 ⟨i,hi,rfl,rfl,rfl,rfl,rfl⟩
 have hend:∀ J,¬ i < l.length→f51K1 J (l.length - i) a c (i:Int) false h R:=fun J _=>by
  unfold f51K1
  refine Cond_f rfl (Cond_f (by rw [na,nb]; simp) (Cond_f (by rw [na,nb]; simp) hR))
 unfold f51L1
 refine Cond_dec (fun hlt=>?_) (fun hlt=>hend _ (by rw [na] at hlt; omega))
 have hil:i < l.length:=by rw [na] at hlt; omega
 have e0:(l.map bv)[i]?=some (bv l[i]):=by rw [List.getElem?_map,List.getElem?_eq_getElem hil]; rfl
 obtain ⟨p,hp,cp⟩:=readsO_get ha e0
 obtain ⟨p',hp',cp'⟩:=readsO_get hb e0
 unfold f51K1
 refine Cond_t (by rw [nb]; exact decide_eq_true (by omega)) ?_
 refine ⟨⟨by omega,hlt⟩,PtrOk_mk' hp ⟨_,by rw [Int.toNat_natCast,Nat.mul_one]; exact cp,⟨by omega,by rw [nb]; omega⟩,PtrOk_mk' hp' ⟨_,by rw [Int.toNat_natCast,Nat.mul_one]; exact cp',Cond_f (by simp) ?_⟩⟩⟩
 refine ⟨⟨by omega,hlt⟩,PtrOk_mk' hp ⟨_,by rw [Int.toNat_natCast,Nat.mul_one]; exact cp,⟨by omega,by rw [nb]; omega⟩,PtrOk_mk' hp' ⟨_,by rw [Int.toNat_natCast,Nat.mul_one]; exact cp',Cond_f (by simp) ?_⟩⟩⟩
 refine ⟨l.length - (i + 1),by omega,i + 1,hil,rfl,rfl,rfl,?_,rfl⟩
 rw [wrap_i64' (by omega) (by omega)]; rfl
/-- The graph only grows. -/
def Gr (nd nd':List NodeD):Prop:=∀ (i:Nat) (n:NodeD),nd[i]?=some n→nd'[i]?=some n
theorem Gr.refl (nd:List NodeD):Gr nd nd:=fun _ _ h=>h
theorem Gr.trans {a b c:List NodeD} (x:Gr a b) (y:Gr b c):Gr a c:=fun i n h=>y i n (x i n h)
theorem Gr.app (nd l:List NodeD):Gr nd (nd ++ l):=fun i n h=>by rw [List.getElem?_append_left (List.getElem?_eq_some_iff.1 h).1]; exact h
/-- Something comes or goes that no handle holds. -/
structure Idle (s:RS) (nd:List NodeD) (s':RS) (nd':List NodeD):Prop where
 sh:s'.Shd nd'
 gr:Gr nd nd'
 rt:s'.roots=s.roots
 lm:s'.limit=s.limit
theorem Idle.refl (sh:s.Shd nd):Idle s nd s nd:=⟨sh,Gr.refl _,rfl,rfl⟩
theorem Idle.trans {s2:RS} {nd' nd2:List NodeD} (a:Idle s nd s' nd') (b:Idle s' nd' s2 nd2):Idle s nd s2 nd2:=⟨b.sh,a.gr.trans b.gr,b.rt.trans a.rt,b.lm.trans a.lm⟩
theorem Idle.collect (v:s.Inv) (sh:s.Shd nd):Idle s nd s.collect nd:=⟨sh.sub (RS.Sub.collect v),Gr.refl _,(RS.Sub.collect v).roots,RS.collect_lim⟩
theorem Idle.alloc (v:s.Inv) (sh:s.Shd nd) (k r w:Int):∃ nd',Idle s nd (s.alloc k r w).1 nd':=by
 have lm:=RS.alloc_lim (s:=s) k r w
 rcases RS.alloc_cases v k r w with ⟨_,e⟩ | ⟨_,t,st,vt,e | ⟨t',ref,e,n⟩⟩
 ·rw [e]; exact ⟨nd,Idle.refl sh⟩
 ·rw [e] at lm ⊢; exact ⟨nd,sh.sub st,Gr.refl _,st.roots,lm⟩
 ·rw [e] at lm ⊢; exact ⟨_,n.shd vt (sh.sub st),Gr.app _ _,n.roots.trans st.roots,lm⟩
end
end Go.Ev
set_option linter.all false
set_option maxRecDepth 1000000
namespace Go.Ev
open Go.Proofs
/-- Lists of bytes, where they lie: none of the heap's own memory. -/
structure RL (h:Hp) (q:HQ) (a:Sl) (sls:List Sl) (rows:List (List Nat)):Prop where
 rd:ReadsO h a.a (sls.map slV)
 n:a.n=sls.length
 len:sls.length=rows.length
 each:∀ (i:Nat) (c:Sl) (r:List Nat),sls[i]?=some c→rows[i]?=some r→Src h q c r∧c.n ≤ c.c∧r.length < 140737488355328
 out:∀ p,a.a=some p→sls ≠ []→q.role p.block=.out∧p.block < h.size
section
variable {h h' h2 h0:Hp} {q q' q2:HQ} {s s' s2:RS} {nd nd' nd2:List NodeD} {n:NodeD} {id lb hn:Nat} {L L' L2:LD} {R:Value→Hp→Prop} {b:List Nat} {ids:List Nat} {lim:Nat} {a:Sl} {sls:List Sl} {rows:List (List Nat)}
theorem RL.ex (x:RL h q a sls rows) (e:Ex h q h' q'):RL h' q' a sls rows :=
 ⟨reads_kept2 e.kept x.rd fun p hp hn=>(have hn':sls ≠ []:=fun z=>hn (by rw [z]; rfl); ⟨(x.out p hp hn').2,fun hx=>hx (x.out p hp hn').1⟩),x.n,x.len,
  fun i c r hc hr=>(have z:=x.each i c r hc hr; ⟨z.1.ex e,z.2⟩),fun p hp hn=>⟨e.out (x.out p hp hn).2 (x.out p hp hn).1,Nat.lt_of_lt_of_le (x.out p hp hn).2 e.2.1⟩⟩
theorem RL.keepN (x:RL h q a sls rows) (k:Kept N h h') (fr:∀ b,h.size ≤ b→q.role b=.out):RL h' q a sls rows:=x.ex (Ex.of_kept k fr)
theorem RL.get (x:RL h q a sls rows) {i:Nat} {r:List Nat} (hr:rows[i]?=some r):∃ c p,sls[i]?=some c∧a.a=some p∧cell h (p.add (i * 1))=some (.slice c.a c.n c.c)∧Src h q c r∧c.n ≤ c.c∧r.length < 140737488355328∧i < a.n:=by
 have hi:=(List.getElem?_eq_some_iff.1 hr).1
 have hs:sls[i]?=some (sls[i]'(by rw [x.len]; exact hi)):=List.getElem?_eq_getElem _
 obtain ⟨p,hp,hc⟩:=readsO_get x.rd (i:=i) (v:=slV (sls[i]'(by rw [x.len]; exact hi))) (by rw [List.getElem?_map,hs]; rfl)
 obtain ⟨e1,e2,e3⟩:=x.each i _ r hs hr
 exact ⟨_,p,hs,hp,by rw [Nat.mul_one]; exact hc,e1,e2,e3,by rw [x.n,x.len]; exact hi⟩
theorem lnum {n:Int} (hR:R (.int .i64 n) h):CallTo Try.prog 11 #[.int .i64 n] h R:=f11F_ok (by unfold f11F; exact hR)
/-! ### Eq, EqLists -/
theorem leq {a c:Sl} {l:List Nat} (ha:ReadsO h a.a (l.map bv)) (hb:ReadsO h c.a (l.map bv)) (na:a.n=l.length) (nc:c.n=l.length) (hl:l.length < 9223372036854775807) (hR:R (.bool true) h) :
  CallTo Try.prog 18 #[.slice a.a a.n a.c,.slice c.a c.n c.c] h R:=by
 refine f18F_ok ?_
 unfold f18F
 exact cmp_ok ha hb na nc hl ⟨_,rfl,hR⟩
theorem RowsAt.get {M:Mem} {cs:List Nat} (x:RowsAt h0 h a M cs rows) {i:Nat} {r:List Nat} (hr:rows[i]?=some r):∃ c b,cs[i]?=some c∧a.a=some (ad b)∧cell h ((ad b).add (i * 1))=some (.slice (some (ad c)) r.length r.length)∧Row h c (r.map bv)∧i < a.n:=by
 have hi:=(List.getElem?_eq_some_iff.1 hr).1
 have hc:cs[i]?=some (cs[i]'(by rw [x.len]; exact hi)):=List.getElem?_eq_getElem _
 obtain ⟨b,h1,h2,h3,h4⟩:=sl_at x.sl x.sep (rowSls_get hc hr)
 obtain ⟨e1,e2⟩:=x.el i _ r hc hr
 have row:=x.sep.row (i + 1) _ e1
 rw [e2] at row
 exact ⟨_,b,hc,h2,h3,row,by omega⟩
theorem RowsAt.n_eq {M:Mem} {cs:List Nat} (x:RowsAt h0 h a M cs rows):a.n=rows.length:=by have:=x.sl.len; rw [List.length_map,rowSls_len x.len] at this; omega
theorem leqlists {M:Mem} {cs:List Nat} {a c:Sl} (x:RowsAt h0 h a M cs rows) (y:RL h q c sls rows) (hbig:rows.length < 1000000000) (hR:R (.bool true) h) :
  CallTo Try.prog 30 #[.slice a.a a.n a.c,.slice c.a c.n c.c] h R:=by
 have xn:=x.n_eq
 have yn:=y.n
 have yl:=y.len
 refine f30F_ok ?_
 unfold f30F
 refine Cond_f (by rw [xn,yn,yl]; exact bne_self_eq_false _) ?_
 refine f30L1_rule (s0:=a) (s1:=c) (fun m s0 s1 s5 h1=>∃ k:Nat,k ≤ rows.length∧m=rows.length - k∧a=s0∧c=s1∧s5=(k:Int)∧h=h1) rows.length ⟨0,Nat.zero_le _,rfl,rfl,rfl,rfl,rfl⟩ ?_
 rintro m s0 s1 s5 g h1 ⟨k,hk,rfl,rfl,rfl,rfl,rfl⟩
 unfold f30L1
 refine Cond_dec (fun hlt=>?_) fun _=>hR
 have hkr:k < rows.length:=by omega
 have hr:rows[k]?=some (rows[k]'hkr):=List.getElem?_eq_getElem hkr
 obtain ⟨d,bk,_,ha,hc1,row,_⟩:=x.get hr
 obtain ⟨e,p,_,hp,hc2,src,_,hl,_⟩:=y.get hr
 refine ⟨⟨by omega,by omega⟩,PtrOk_of ha ⟨⟨_,_,_⟩,by rw [Int.toNat_natCast]; exact hc1,⟨by omega,by omega⟩,PtrOk_of hp ⟨e,by rw [Int.toNat_natCast]; exact hc2,_,cmp_ok (a:=⟨some (ad d),_,_⟩) (row_reads row) src.rd rfl src.n (by omega) ⟨rfl,rfl⟩,Cond_f rfl ?_⟩⟩⟩
 exact ⟨rows.length - (k + 1),by omega,k + 1,by omega,rfl,rfl,rfl,by rw [wrap_i64' (by omega) (by omega)]; rfl,rfl⟩
/-! ### holds -/
/-! ### A great heap with one list of short elements -/
theorem wordsN_le (n:Nat):wordsN n ≤ n / 8 + 1:=by unfold wordsN; omega
end
end Go.Ev
set_option linter.all false
set_option maxRecDepth 1000000
namespace Go.Ev
open Go.Proofs
/-- Lists of bytes, where they lie. -/
structure RL0 (h:Hp) (a:Sl) (sls:List Sl) (rows:List (List Nat)):Prop where
 rd:ReadsO h a.a (sls.map slV)
 n:a.n=sls.length
 len:sls.length=rows.length
 each:∀ (i:Nat) (c:Sl) (r:List Nat),sls[i]?=some c→rows[i]?=some r→ReadsO h c.a (r.map bv)∧c.n=r.length∧Bytes8 r∧c.n ≤ c.c∧r.length < 140737488355328∧∀ p,c.a=some p→r ≠ []→p.block < h.size
 out:∀ p,a.a=some p→sls ≠ []→p.block < h.size
/-- What is the heap's own is new. -/
def Frsh (h0:Hp) (q:HQ):Prop:=∀ b,q.role b ≠ .out→h0.size ≤ b
section
variable {h h' h2 h0:Hp} {q q' q2:HQ} {s s' s2:RS} {nd nd' nd2:List NodeD} {n:NodeD} {id lb hn:Nat} {L L' L2:LD} {R:Value→Hp→Prop} {b:List Nat} {ids:List Nat} {lim:Nat} {a:Sl} {sls:List Sl} {rows:List (List Nat)}
theorem Frsh.old (f:Frsh h0 q) {b:Nat} (hb:b < h0.size):q.role b=.out:=Classical.byContradiction fun hn=>by have:=f b hn; omega
theorem Frsh.ex (f:Frsh h0 q) (hs:h0.size ≤ h.size) (e:Ex h q h' q'):Frsh h0 q':=fun b hb=>Classical.byContradiction fun hlt=>hb (e.out (by omega) (f.old (by omega)))
theorem Frsh.kept (f:Frsh h0 q) (k:Kept N h0 h) (e:Ex h q h' q'):Kept N h0 h' :=
 ⟨Nat.le_trans k.1 e.2.1,fun i hi _=>(e.2.2 i (Nat.lt_of_lt_of_le hi k.1) (f.old hi)).2.trans (k.2 i hi _root_.id)⟩
theorem kept_tr {a b c:Hp} (x:Kept N a b) (y:Kept N b c):Kept N a c:=⟨Nat.le_trans x.1 y.1,fun j hj _=>(y.2 j (Nat.lt_of_lt_of_le hj x.1) _root_.id).trans (x.2 j hj _root_.id)⟩
theorem RL0.rl (x:RL0 h0 a sls rows) (k:Kept N h0 h) (f:Frsh h0 q):RL h q a sls rows :=
 ⟨reads_keptN k x.rd,x.n,x.len,fun i c r hc hr=>(have e:=x.each i c r hc hr; ⟨⟨reads_keptN k e.1,e.2.1,e.2.2.1,fun p hp hn=>⟨f.old (e.2.2.2.2.2 p hp hn),Nat.lt_of_lt_of_le (e.2.2.2.2.2 p hp hn) k.1⟩⟩,e.2.2.2.1,e.2.2.2.2.1⟩),
  fun p hp hn=>⟨f.old (x.out p hp hn),Nat.lt_of_lt_of_le (x.out p hp hn) k.1⟩⟩
theorem Src.take {c:Sl} {r:List Nat} (x:Src h q c r) (k:Nat):Src h q ⟨c.a,min c.n k,c.c⟩ (r.take k):=by
 refine ⟨?_,by rw [List.length_take,x.n]; exact Nat.min_comm _ _,fun y hy=>x.b8 y (List.mem_of_mem_take hy),fun p hp hn=>x.out p hp fun z=>hn (by rw [z,List.take_nil])⟩
 have rd:=x.rd
 rw [List.map_take]
 revert rd
 generalize r.map bv=vs
 intro rd
 by_cases h0:vs.take k=[]
 ·rw [h0]
  cases hc:c.a with
  | none=>rfl
  | some p=>exact fun j v hv=>by cases hv
 ·cases hc:c.a with
  | none=>rw [hc] at rd; exact absurd (by rw [show vs=[] from rd]; simp) h0
  | some p=>rw [hc] at rd; exact fun j v hv=>rd j v (by
    have hj:j < k:=by have:=(List.getElem?_eq_some_iff.1 hv).1; rw [List.length_take] at this; omega
    rwa [List.getElem?_take_of_lt hj] at hv)
/-- Slices of lists that are laid one by one into a new one. -/
structure SlsIn (h0 h:Hp) (M:Mem) (w:Sl) (l:List Sl):Prop where
 sep:Sep h M
 sl:IsSl 1 M 0 w (l.map slV)
 own:∀ b,M.own b→h0.size ≤ b
 k:Kept N h0 h
theorem SlsIn.nil (h0:Hp):SlsIn h0 h0 ⟨fun _=>none,fun _=>[]⟩ ⟨none,0,0⟩ [] :=
 ⟨⟨fun y b hy=>by (cases hy),fun y z b hy _=>by (cases hy)⟩,⟨by simp,fun _=>⟨rfl,rfl,rfl⟩,fun b hb=>by cases hb⟩,(fun b ⟨y,hy⟩=>by cases hy),Kept.refl _ _⟩
theorem SlsIn.len {M:Mem} {w:Sl} {l:List Sl} (x:SlsIn h0 h M w l):w.n=l.length:=by have:=x.sl.len; rw [List.length_map] at this; omega
theorem SlsIn.keepN {M:Mem} {w:Sl} {l:List Sl} (x:SlsIn h0 h M w l) (k:Kept N h h'):SlsIn h0 h' M w l:=⟨x.sep.keepN k,x.sl,x.own,kept_tr x.k k⟩
theorem SlsIn.add {M:Mem} {w c:Sl} {l:List Sl} (x:SlsIn h0 h M w l) (hl:l.length ≤ 100000000) {t e:TypeId} {K:Option Addr→Nat→Nat→Hp→Prop}
  (hK:∀ a' c' h2 M',SlsIn h0 h2 M' ⟨a',w.n + 1,c'⟩ (l ++ [c])→K a' (w.n + 1) c' h2) :
  Let (h.push (.cells #[.slice c.a c.n c.c] t)) fun h2=>appSl e 1 24 #[.slice none 0 0] w.a w.n w.c (some (nb h)) 1 h2 K:=by
 have hwn:=x.len
 refine x.sl.app1 x.sep rfl rfl (fun v hv=>by rw [List.mem_singleton.1 hv]; rfl) (by omega) (by omega) fun a' c' h2 ob cc p2 sl2 ch2=>?_
 refine hK a' c' h2 (M.upd 0 ob cc) ⟨p2,by rw [List.map_append]; exact sl2,fun b hb=>(ch2.2 b hb).elim (x.own b) fun z=>Nat.le_trans x.k.1 z,Nat.le_trans x.k.1 ch2.1.1,fun i hi _=>?_⟩
 exact (ch2.1.2 i (Nat.lt_of_lt_of_le hi x.k.1) fun ho=>by have:=x.own i ho; omega).trans (x.k.2 i hi _root_.id)
theorem SlsIn.rl {M:Mem} {w:Sl} {l:List Sl} (x:SlsIn h0 h M w l) (g:Gs h0 q s nd) (hl:l.length=rows.length) (he:∀ (i:Nat) (c:Sl) (r:List Nat),l[i]?=some c→rows[i]?=some r→Src h q c r∧c.n ≤ c.c∧r.length < 140737488355328):RL h q w l rows:=by
 refine ⟨slAt_reads (x.sl.slAt x.sep),x.len,hl,he,fun p hp hn=>?_⟩
 obtain ⟨b,hb,ha⟩:=x.sl.some_of (fun e=>hn (List.map_eq_nil_iff.1 e))
 rw [hp] at ha
 obtain rfl:p=ad b:=Option.some.inj ha
 exact ⟨g.st.fr (x.own b ⟨0,hb⟩),x.sep.lt hb⟩
end
end Go.Ev
set_option linter.all false
set_option maxRecDepth 1000000
namespace Go.Ev
open Go.Proofs
/-- A list on a great heap, what lay there ahead of it as it was. -/
structure Stg (h1 h:Hp) (q:HQ) (s:RS) (nd:List NodeD) (lb:Nat) (L:LD):Prop where
 x:Solo h q s nd lb L 1048576
 k:Kept N h1 h
 f:Frsh h1 q
/-- Bytes, where they lie. -/
structure Bt (h:Hp) (a:Sl) (b:List Nat):Prop where
 rd:ReadsO h a.a (b.map bv)
 n:a.n=b.length
 cap:a.n ≤ a.c
 b8:Bytes8 b
 lt:b.length < 140737488355328
 out:∀ p,a.a=some p→b ≠ []→p.block < h.size
section
variable {h h' h2 h0 h1:Hp} {q q' q2:HQ} {s s' s2:RS} {nd nd' nd2:List NodeD} {n:NodeD} {id lb hn:Nat} {L L' L2:LD} {R:Value→Hp→Prop} {b:List Nat} {ids:List Nat} {lim:Nat} {a:Sl} {sls:List Sl} {rows w:List (List Nat)} {M:Mem} {cs:List Nat} {r:List Nat} {c:Nat}
theorem Stg.ex (x:Stg h1 h q s nd lb L) (y:Solo h' q' s' nd' lb L' 1048576) (e:Ex h q h' q'):Stg h1 h' q' s' nd' lb L':=⟨y,x.f.kept x.k e,x.f.ex x.k.1 e⟩
theorem Stg.aft (x:Stg h1 h q s nd lb L) (a:Aft h q s nd L h' q' s' nd' L'):Stg h1 h' q' s' nd' lb L':=x.ex (x.x.aft a) a.ex
theorem Stg.keepN (x:Stg h1 h q s nd lb L) (k:Kept N h h'):Stg h1 h' q s nd lb L:=⟨x.x.keepN k,kept_tr x.k k,x.f⟩
theorem Bt.src (y:Bt h1 a b) (x:Stg h1 h q s nd lb L):Src h q a b:=⟨reads_keptN x.k y.rd,y.n,y.b8,fun p hp hn=>⟨x.f.old (y.out p hp hn),Nat.lt_of_lt_of_le (y.out p hp hn) x.k.1⟩⟩
theorem reads_take {a:Option Addr} {vs:List Value} (rd:ReadsO h a vs) (k:Nat):ReadsO h a (vs.take k):=by
 revert rd
 by_cases h0:vs.take k=[]
 ·intro _
  rw [h0]
  cases a with
  | none=>rfl
  | some p=>exact fun j v hv=>by cases hv
 ·intro rd
  cases a with
  | none=>exact absurd (by rw [show vs=[] from rd]; simp) h0
  | some p=>exact fun j v hv=>rd j v (by
    have hj:j < k:=by have:=(List.getElem?_eq_some_iff.1 hv).1; rw [List.length_take] at this; omega
    rwa [List.getElem?_take_of_lt hj] at hv)
theorem Bt.take (y:Bt h1 a b) (k:Nat):Bt h1 ⟨a.a,min a.n k,a.c⟩ (b.take k) :=
 ⟨by rw [List.map_take]; exact reads_take y.rd k,by rw [List.length_take,y.n]; exact Nat.min_comm _ _,by show min a.n k ≤ a.c; have:=y.cap; omega,fun x hx=>y.b8 x (List.mem_of_mem_take hx),by rw [List.length_take]; have:=y.lt; omega,fun p hp hn=>y.out p hp fun z=>hn (by rw [z,List.take_nil])⟩
theorem row_src (row:Row h c (r.map bv)) (b8:Bytes8 r) (ho:q.role c=.out):Src h q ⟨some (ad c),r.length,r.length⟩ r :=
 ⟨row_reads row,rfl,b8,fun p hp _=>by obtain rfl:=Option.some.inj hp; exact ⟨ho,row_lt row⟩⟩
/-! ### Pop on such a list; pushes -/
/-! ### Lists that are collected while the heap turns -/
theorem RowsAt.keep {S:Nat→Prop} (x:RowsAt h0 h a M cs rows) (k:Kept S h h') (hS:∀ b,M.own b→¬ S b):RowsAt h0 h' a M cs rows:=⟨x.sep.keep k hS,x.len,x.sl,x.el,x.no,x.new⟩
theorem RowsAt.ex (x:RowsAt h0 h a M cs rows) (ho:∀ b,M.own b→q.role b=.out) (e:Ex h q h' q'):RowsAt h0 h' a M cs rows∧∀ b,M.own b→q'.role b=.out :=
 ⟨x.keep e.kept fun b hb hn=>hn (ho b hb),fun b hb=>e.out (x.sep.own_lt hb) (ho b hb)⟩
end
end Go.Ev
set_option linter.all false
set_option maxRecDepth 100000
namespace Go.Proofs.Ytngcoodbepbhbaa
open Go.ChangeShapes Go.WideShapes Go.ChangeAt Go.RowKit
open Go.Ev (Reads ReadsO uv bv slV I64 Sl RL0 Bt)
theorem own:ownKnob Try.prog.godebug=none:=by kernel_rfl
theorem c3:Try.prog.cellsOf 3=1:=by kernel_rfl
theorem c5:Try.prog.cellsOf 5=1:=by kernel_rfl
theorem c4:Try.prog.cellsOf 4=1:=by kernel_rfl
theorem b3:Try.prog.bytesOf 3=8:=by kernel_rfl
theorem b5:Try.prog.bytesOf 5=1:=by kernel_rfl
section
variable {H:Type} {enc:TypeId × Value→H} {W:World}
theorem kept_all {W W':World} (hs:Go.Ev.Same W W') (hk:Go.Ev.Kept Go.Ev.N W.heap W'.heap) (may:MemPlace→Prop):W.keptBut W' may:=by
 refine ⟨hs.1,hs.2.2,fun i hi=>?_⟩
 rw [hk.2 i hi id]
 cases h:W.heap[i]? with
 | none=>rfl
 | some o =>
  cases o <;> first | exact rfl | exact ⟨rfl,rfl,rfl,fun _ _=>rfl⟩ | exact .inr ⟨rfl,rfl⟩
end
end Go.Proofs.Ytngcoodbepbhbaa
set_option linter.all false
set_option maxRecDepth 1000000
namespace Go.Ev
open Go.Proofs
section
variable {h h' h2 h0 h1:Hp} {q q' q2:HQ} {s s' s2:RS} {nd nd' nd2:List NodeD} {n:NodeD} {id lb hn:Nat} {L L' L2:LD} {R:Value→Hp→Prop} {b:List Nat} {ids:List Nat} {lim:Nat} {a:Sl} {sls:List Sl} {rows w:List (List Nat)} {M:Mem} {cs:List Nat} {r:List Nat} {c:Nat}
theorem RL0.keepN (x:RL0 h a sls rows) (k:Kept N h h'):RL0 h' a sls rows :=
 ⟨reads_keptN k x.rd,x.n,x.len,fun i c r hc hr=>(have e:=x.each i c r hc hr; ⟨reads_keptN k e.1,e.2.1,e.2.2.1,e.2.2.2.1,e.2.2.2.2.1,fun p hp hn=>Nat.lt_of_lt_of_le (e.2.2.2.2.2 p hp hn) k.1⟩),
  fun p hp hn=>Nat.lt_of_lt_of_le (x.out p hp hn) k.1⟩
theorem Bt.keepN (x:Bt h a b) (k:Kept N h h'):Bt h' a b:=⟨reads_keptN k x.rd,x.n,x.cap,x.b8,x.lt,fun p hp hn=>Nat.lt_of_lt_of_le (x.out p hp hn) k.1⟩
/-- What comes off such a list, from that end on. -/
def comes (fr:Bool) (w:List (List Nat)):List (List Nat):=if fr=true then w else w.reverse
def stays (fr:Bool) (w:List (List Nat)) (k:Nat):List (List Nat):=if fr=true then w.drop k else w.take (w.length - k)
def laid (fr:Bool) (w:List (List Nat)) (k:Nat):List (List Nat):=if fr=true then ((comes fr w).take k).reverse else (comes fr w).take k
end
end Go.Ev
set_option linter.all false
set_option maxRecDepth 1000000
namespace Go.Ev
open Go.Proofs
section
variable {h h' h2 h0 h1:Hp} {q q' q2:HQ} {s s' s2:RS} {nd nd' nd2:List NodeD} {n:NodeD} {id lb hn:Nat} {L L' L2:LD} {R:Value→Hp→Prop} {b:List Nat} {ids:List Nat} {lim:Nat} {a:Sl} {sls:List Sl} {rows w:List (List Nat)} {M:Mem} {cs:List Nat} {r:List Nat} {c:Nat}
theorem SlsIn.cap {w:Sl} {l:List Sl} (x:SlsIn h0 h M w l):w.n ≤ w.c:=by
 cases hl:M.loc 0 with
 | none=>have:=x.sl.nil hl; omega
 | some b=>exact (x.sl.row b hl).2.1
end
end Go.Ev
set_option linter.all false
set_option maxRecDepth 1000000
namespace Go.Ev
open Go.Proofs
section
variable {h h' h2 h0 h1:Hp} {q q' q2:HQ} {s s' s2:RS} {nd nd' nd2:List NodeD} {n:NodeD} {id lb hn:Nat} {L L' L2:LD} {R:Value→Hp→Prop} {b:List Nat} {ids:List Nat} {lim:Nat} {a:Sl} {sls:List Sl} {rows w:List (List Nat)} {M:Mem} {cs:List Nat} {r:List Nat} {c:Nat}
end
end Go.Ev
set_option linter.all false
set_option maxRecDepth 1000000
namespace Go.Ev
open Go.Proofs
section
variable {h h' h2 h0 h1:Hp} {q q' q2:HQ} {s s' s2:RS} {nd nd' nd2:List NodeD} {n:NodeD} {id lb hn:Nat} {L L' L2:LD} {R:Value→Hp→Prop} {b:List Nat} {ids:List Nat} {lim:Nat} {a:Sl} {sls:List Sl} {rows w:List (List Nat)} {M:Mem} {cs:List Nat} {r:List Nat} {c:Nat}
end
end Go.Ev
set_option linter.all false
set_option maxRecDepth 1000000
namespace Go.Ev
open Go.Proofs
instance (k:Nat) (i n:Int):Decidable (InL k i n):=by unfold InL; exact inferInstance
def byt (v:Int):Nat:=(IntKind.wrap .u8 v).toNat
theorem bv_byt (v:Int):Value.int .u8 (IntKind.wrap .u8 v)=bv (byt v):=by
 unfold bv byt
 have:=wrap_u8' (x:=v)
 have h0:0 ≤ IntKind.wrap .u8 v:=by rw [this]; omega
 rw [Int.toNat_of_nonneg h0]
theorem byt_lt (v:Int):byt v < 256:=by
 unfold byt
 have:=wrap_u8' (x:=v)
 omega
def hi8 (v:Int):Int:=Int.fdiv v (2 ^ (min (8:Int).toNat (IntKind.bits .i64)))
/-- Bytes that are laid into a slice of one's own. -/
structure By (h0 h:Hp) (q:HQ) (M:Mem) (w:Sl) (l:List Nat):Prop where
 sep:Sep h M
 sl:IsSl 1 M 0 w (l.map bv)
 own:∀ b,M.own b→h0.size ≤ b∧q.role b=.out
section
variable {h h' h2 h0 h1:Hp} {q q' q2:HQ} {s s' s2:RS} {nd nd' nd2:List NodeD} {n:NodeD} {id lb hn:Nat} {L L' L2:LD} {R:Value→Hp→Prop} {b:List Nat} {ids:List Nat} {lim:Nat} {a:Sl} {sls:List Sl} {rows:List (List Nat)} {M:Mem} {cs:List Nat} {r:List Nat} {c:Nat} {w:Sl} {l:List Nat}
theorem By.ex (x:By h0 h q M w l) (e:Ex h q h' q'):By h0 h' q' M w l :=
 ⟨x.sep.keep e.kept fun b hb hn=>hn (x.own b hb).2,x.sl,fun b hb=>⟨(x.own b hb).1,e.out (x.sep.own_lt hb) (x.own b hb).2⟩⟩
theorem By.keepN (x:By h0 h q M w l) (k:Kept N h h'):By h0 h' q M w l:=⟨x.sep.keepN k,x.sl,x.own⟩
theorem By.len (x:By h0 h q M w l):w.n=l.length:=by have:=x.sl.len; rw [List.length_map] at this; omega
theorem Aft.keepO (a:Aft h q s nd L h' q' s' nd' L') {S:Nat→Prop} (k:Kept S h' h2) (hS:∀ b,S b→h.size ≤ b∧q'.role b=.out):Aft h q s nd L h2 q' s' nd' L' :=
 ⟨a.g.keepO k fun b e=>(hS b e).2,⟨a.ex.1,Nat.le_trans a.ex.2.1 k.1,fun b hb ho=>⟨(a.ex.2.2 b hb ho).1,(k.2 b (Nat.lt_of_lt_of_le hb a.ex.2.1) fun e=>by have:=(hS b e).1; omega).trans (a.ex.2.2 b hb ho).2⟩⟩,a.req,a.rlen,a.lim,a.len,a.fr,a.new,a.hd,a.c⟩
theorem Aft.pre (k:Kept N h h2) (g:Gs h q s nd) (a:Aft h2 q s nd L h' q' s' nd' L'):Aft h q s nd L h' q' s' nd' L' :=
 ⟨a.g,(Ex.of_kept k fun b hb=>g.st.fr hb).trans a.ex,a.req,a.rlen,a.lim,a.len,a.fr,a.new,a.hd,a.c⟩
end
end Go.Ev
