/- ChainShaken: two lists on one heap; two such heaps / ChainShaken: one step on both heaps / ChainShaken: the law's own call / Ranges over functions, for the evaluator: rounds, yields, the statement itself. No condition but that these are ones. -/
import Derived.Test.YtngcoodbepbhbaaG19
import Derived.Test.YtngcoodbepbhbaaG7
import Derived.RangeFuncRecord
import Derived.OrdersIn
set_option linter.all false
set_option maxRecDepth 1000000
namespace Go.Ev
open Go.Proofs
/-- What lists come to, at most. -/
def wt (rows:List (List Nat)):Nat:=(rows.map fun r=>16 + r.length / 8).sum
theorem wt_ge:∀ rows:List (List Nat),4 * rows.length + rowS rows + rowB rows ≤ wt rows
 | []=>by simp [rowS,rowB,wt]
 | r :: t=>by
  have:=wt_ge t
  unfold rowS rowB wt at *
  simp only [List.map_cons,List.sum_cons,List.length_cons] at *
  have h1:=wordsN_le r.length
  have h2:cntS (2 + wordsN r.length) + cntB (2 + wordsN r.length) ≤ 3 + wordsN r.length:=by unfold cntS cntB; split <;> omega
  omega
theorem room_wt {S B z:Nat} (h1:S + B ≤ 131200) (h2:z ≤ 131200):room2 1048576 S B z:=by
 unfold room2 roomK cntS cntB
 constructor
 ·split
  ·omega
  ·omega
 ·rw [if_pos (by omega)]
  split <;> omega
theorem freeAt_of {l:List (Option Nat)}:∀ {m:Nat},(∀ j,j < m→l.getD j none ≠ none)→l.getD m none=none→RS.freeAt l=m:=by
 induction l with
 | nil =>
  intro m h _
  cases m with
  | zero=>rfl
  | succ m=>exact absurd rfl (h 0 (by omega))
 | cons x t ih =>
  intro m h h2
  cases m with
  | zero =>
   have:x=none:=h2
   subst this; rfl
  | succ m =>
   have h0:x ≠ none:=h 0 (by omega)
   cases x with
   | none=>exact absurd rfl h0
   | some x =>
    show RS.freeAt t + 1=m + 1
    rw [ih (m:=m) (fun j hj=>h (j + 1) (by omega)) h2]
/-- Some lists on one heap (two at most), each held by a handle. -/
structure Duo (m:Nat) (h:Hp) (q:HQ) (s:RS) (nd:List NodeD) (lb:Nat→Nat) (L:Nat→LD):Prop where
 g:Gs h q s nd
 o:∀ k,k < m→Opn h q s nd (lb k) (k + 1) (L k)
 dis:∀ j k,j < m→k < m→j ≠ k→∀ y,y ∈ (L j).all→y ∉ (L k).all
 rt:∀ j,s.roots.getD j none=if j < m then some (L j).hd else none
 rl:s.roots.length ≤ 3
 lim:s.limit=1048576
 m2:m ≤ 2
def idsM (L:Nat→LD):Nat→List Nat
 | 0=>[]
 | m + 1=>idsM L m ++ (L m).all
def wtM (L:Nat→LD):Nat→Nat
 | 0=>0
 | m + 1=>wtM L m + wt (L m).rows
section
variable {h h' h2 h0 h1:Hp} {q q' q2:HQ} {s s' s2:RS} {nd nd' nd2:List NodeD} {n:NodeD} {id hn m:Nat} {L:Nat→LD} {L' L2:LD} {R:Value→Hp→Prop} {b:List Nat} {ids:List Nat} {lb:Nat→Nat}
theorem mem_idsM {x:Nat}:∀ {m:Nat},x ∈ idsM L m ↔ ∃ j,j < m∧x ∈ (L j).all
 | 0=>⟨fun h=>(by cases h),fun ⟨j,hj,_⟩=>by omega⟩
 | m + 1=>by
  show x ∈ idsM L m ++ (L m).all ↔ _
  rw [List.mem_append,mem_idsM (m:=m)]
  constructor
  ·rintro (⟨j,hj,hx⟩ | hx)
   ·exact ⟨j,by omega,hx⟩
   ·exact ⟨m,by omega,hx⟩
  ·rintro ⟨j,hj,hx⟩
   by_cases e:j=m
   ·subst e; exact .inr hx
   ·exact .inl ⟨j,by omega,hx⟩
theorem Duo.nod (x:Duo m h q s nd lb L):∀ j,j ≤ m→(idsM L j).Nodup
 | 0,_=>List.nodup_nil
 | j + 1,hj=>List.nodup_append.2 ⟨x.nod j (by omega),(x.o j (by omega)).c.dis,fun a ha c hc e=>by
  obtain ⟨k,hk,hx⟩:=mem_idsM.1 ha
  exact x.dis k j (by omega) (by omega) (by omega) a hx (e ▸ hc)⟩
theorem Duo.lv (x:Duo m h q s nd lb L):Lv nd s.roots (idsM L m):=by
 refine Lv.of (x.nod m (Nat.le_refl _)) (fun id hid h0=>?_) (fun y hy n hn z hz h0=>?_) fun y hy=>?_
 ·obtain ⟨j,hj⟩:=mem_roots.1 hid
  rw [x.rt] at hj
  split at hj
  ·rename_i hj2
   rw [← Option.some.inj hj]
   exact mem_idsM.2 ⟨j,hj2,List.mem_cons_self ..⟩
  ·cases hj
 ·obtain ⟨j,hj,hx⟩:=mem_idsM.1 hy
  exact mem_idsM.2 ⟨j,hj,(x.o j hj).c.closed hx hn hz h0⟩
 ·obtain ⟨j,hj,hx⟩:=mem_idsM.1 hy
  exact (x.o j hj).rch hx
theorem Duo.free (x:Duo m h q s nd lb L):RS.freeAt s.roots=m :=
 freeAt_of (fun j hj=>by rw [x.rt,if_pos hj]; simp) (by rw [x.rt,if_neg (by omega)])
theorem Duo.live (x:Duo m h q s nd lb L):∀ j,j ≤ m→RS.liveS nd (idsM L j) + RS.liveB nd (idsM L j) ≤ 4 * j + wtM L j
 | 0,_=>by show RS.liveS nd [] + RS.liveB nd [] ≤ _; simp [RS.liveS,RS.liveB]
 | j + 1,hj=>by
  have ih:=x.live j (by omega)
  obtain ⟨a1,a2⟩:=live_all (x.o j (by omega)).c
  have g0:=wt_ge (L j).rows
  show RS.liveS nd (idsM L j ++ (L j).all) + RS.liveB nd (idsM L j ++ (L j).all) ≤ 4 * (j + 1) + (wtM L j + wt (L j).rows)
  rw [(live_append _ _).1,(live_append _ _).2,a1,a2]
  omega
theorem Duo.room (x:Duo m h q s nd lb L) (hw:wtM L m ≤ 131150) {z:Nat} (hz:z ≤ 131200):∃ ids,Lv nd s.roots ids∧room2 s.limit (1 + RS.liveS nd ids) (RS.liveB nd ids) z:=by
 have:=x.live m (Nat.le_refl _)
 have:=x.m2
 refine ⟨_,x.lv,?_⟩
 rw [x.lim]
 exact room_wt (by omega) hz
/-- A call on one of them. -/
def setLD (L:Nat→LD) (k:Nat) (L':LD):Nat→LD:=fun j=>if j=k then L' else L j
theorem setLD_self {k:Nat}:setLD L k L' k=L':=if_pos rfl
theorem setLD_ne {j k:Nat} (h:j ≠ k):setLD L k L' j=L j:=if_neg h
theorem Duo.aft (x:Duo m h q s nd lb L) {k:Nat} (hk:k < m) (a:Aft h q s nd (L k) h' q' s' nd' L'):Duo m h' q' s' nd' lb (setLD L k L'):=by
 have hh:∀ j,(setLD L k L' j).hd=(L j).hd:=fun j=>by
  unfold setLD
  split
  ·rename_i e; rw [e]; exact a.hd
  ·rfl
 have dn:∀ y,y ∈ L'.all→∀ j,j < m→j ≠ k→y ∉ (L j).all:=fun y hy j hj hne hy'=>by
  rcases a.new y hy with z | z
  ·exact x.dis k j hk hj (fun e=>hne e.symm) y z hy'
  ·have:=x.g.lt ((x.o j hj).here hy'); omega
 refine ⟨a.g,fun j hj=>?_,fun j j2 hj hj2 hne y hy hy'=>?_,fun j=>?_,?_,a.lim.trans x.lim,x.m2⟩
 ·unfold setLD
  split
  ·rename_i e; subst e; exact a.opn (x.o j hj)
  ·rename_i e; exact a.other (x.o j hj) (x.dis j k hj hk e)
 ·by_cases e:j=k
  ·subst e
   rw [setLD_self] at hy
   rw [setLD_ne (fun e=>hne e.symm)] at hy'
   exact dn y hy j2 hj2 (fun e=>hne e.symm) hy'
  ·rw [setLD_ne e] at hy
   by_cases e2:j2=k
   ·subst e2
    rw [setLD_self] at hy'
    exact dn y hy' j hj hne hy
   ·rw [setLD_ne e2] at hy'
    exact x.dis j j2 hj hj2 hne y hy hy'
 ·rw [a.req,x.rt]
  split
  ·rw [hh j]
  ·rfl
 ·have:=a.rlen; have:=x.free; have:=x.rl; have:=x.m2; omega
theorem Duo.keepO (x:Duo m h q s nd lb L) {S:Nat→Prop} (k:Kept S h h') (hS:∀ b,S b→q.role b=.out) (hl:∀ j,j < m→¬ S (lb j)):Duo m h' q s nd lb L :=
 ⟨x.g.keepO k hS,fun j hj=>(have o:=x.o j hj; ⟨o.g.keepO k hS,⟨kept_row k o.l.row (hl j hj),o.l.out⟩,o.pos,o.lt,o.held,o.c⟩),x.dis,x.rt,x.rl,x.lim,x.m2⟩
theorem Duo.keepN (x:Duo m h q s nd lb L) (k:Kept N h h'):Duo m h' q s nd lb L:=x.keepO k (fun _ e=>e.elim) fun _ _ e=>e
def setN (f:Nat→Nat) (k:Nat) (x:Nat):Nat→Nat:=fun j=>if j=k then x else f j
/-- One list more. -/
theorem Duo.new (x:Duo m h q s nd lb L) (hm:m < 2) (hw:wtM L m ≤ 131150)
  (hok:∀ h' q' s' nd' b L',Duo (m + 1) h' q' s' nd' (setN lb m b) (setLD L m L')→L'.rows=[]→Ex h q h' q'→h.size ≤ b→R (.tuple #[.pointer (some (ad b)),.int .i64 0]) h') :
  CallTo Try.prog 12 #[.pointer (some (ad q.hb))] h R:=by
 have hrl:=x.rl
 have hf:=x.free
 refine lnew x.g (by omega) (fun h' q' s' g er el ex hr=>absurd ?_ (hr _ x.lv)) fun h' q' s' b o er el ex hb _=>hok h' q' s' _ b ⟨nd.length,[],[],[]⟩ ⟨o.g,fun j hj=>?_,fun j k hj hk hne y hy hy'=>?_,fun j=>?_,?_,el.trans x.lim,by omega⟩ rfl ex hb
 ·have:=x.live m (Nat.le_refl _)
  rw [x.lim]
  unfold roomK
  rw [if_pos (by omega)]
  omega
 ·by_cases e:j=m
  ·subst e
   rw [setLD_self]
   unfold setN
   rw [if_pos rfl]
   rw [hf] at o
   exact o
  ·have oj:=x.o j (by omega)
   rw [setLD_ne e]
   unfold setN
   rw [if_neg e]
   refine ⟨o.g,oj.l.ex ex,oj.pos,oj.lt,?_,oj.c.keep fun y hy=>List.getElem?_append_left (oj.g.lt (oj.here hy))⟩
   rw [er,rootL_get,if_neg (by rw [hf]; omega)]
   exact oj.held
 ·have key:∀ j,j < m→∀ y,y ∈ (L j).all→y ∉ (⟨nd.length,[],[],[]⟩:LD).all:=fun j hj y hy hy'=>by
   have h1:=x.g.lt ((x.o j hj).here hy)
   have h2:y=nd.length:=by
    have:y ∈ [nd.length]:=hy'
    simpa using this
   omega
  by_cases e:j=m
  ·subst e
   rw [setLD_self] at hy
   rw [setLD_ne (fun e=>hne e.symm)] at hy'
   exact key k (by omega) y hy' hy
  ·rw [setLD_ne e] at hy
   by_cases e2:k=m
   ·subst e2
    rw [setLD_self] at hy'
    exact key j (by omega) y hy hy'
   ·rw [setLD_ne e2] at hy'
    exact x.dis j k (by omega) (by omega) hne y hy hy'
 ·rw [er,rootL_get,hf]
  by_cases e:j=m
  ·subst e
   rw [if_pos rfl,if_pos (by omega),setLD_self]
  ·rw [if_neg e,x.rt,setLD_ne e]
   by_cases hj:j < m
   ·rw [if_pos hj,if_pos (by omega)]
   ·rw [if_neg hj,if_neg (by omega)]
 ·rw [er]
  have:=rootL_len3 s.roots nd.length
  omega
/-! ### Two heaps -/
structure Two (S:Nat→Prop) (h1 h:Hp) (m:Nat) (q:HQ) (s:RS) (nd:List NodeD) (lb:Nat→Nat) (L:Nat→LD) (m':Nat) (q':HQ) (s':RS) (nd':List NodeD) (lb':Nat→Nat) (L':Nat→LD):Prop where
 a:Duo m h q s nd lb L
 b:Duo m' h q' s' nd' lb' L'
 dis:∀ x,q.role x ≠ .out→q'.role x=.out
 la:∀ k,k < m→q'.role (lb k)=.out
 lc:∀ k,k < m'→q.role (lb' k)=.out
 k:Kept S h1 h
 fa:Frsh h1 q
 fb:Frsh h1 q'
 ha:∀ k,k < m→h1.size ≤ lb k
 hc:∀ k,k < m'→h1.size ≤ lb' k
variable {Lb Lb2 La:Nat→LD} {lb' lb2:Nat→Nat} {s0 s1:RS} {q0 q1:HQ} {nd0 nd1:List NodeD} {S:Nat→Prop} {m' m2:Nat}
theorem Two.swap (x:Two S h1 h m q s nd lb L m' q' s' nd' lb' Lb):Two S h1 h m' q' s' nd' lb' Lb m q s nd lb L :=
 ⟨x.b,x.a,fun y hy=>Classical.byContradiction fun hn=>hy (x.dis y hn),x.lc,x.la,x.k,x.fb,x.fa,x.hc,x.ha⟩
theorem Two.keepN (x:Two S h1 h m q s nd lb L m' q' s' nd' lb' Lb) (k:Kept N h h2):Two S h1 h2 m q s nd lb L m' q' s' nd' lb' Lb :=
 ⟨x.a.keepN k,x.b.keepN k,x.dis,x.la,x.lc,⟨Nat.le_trans x.k.1 k.1,fun b hb hn=>(k.2 b (Nat.lt_of_lt_of_le hb x.k.1) _root_.id).trans (x.k.2 b hb hn)⟩,x.fa,x.fb,x.ha,x.hc⟩
end
end Go.Ev
set_option linter.all false
set_option maxRecDepth 1000000
namespace Go.Ev
open Go.Proofs
/-- A step of a script. -/
structure OpD where
 k:Int
 x1:Int
 x2:Int
 fr:Bool
 i:Int
 m:Int
 a:Sl
 b:List Nat
def OpD.cells (o:OpD):List Value:=[.int .i64 o.k,.int .i64 o.x1,.int .i64 o.x2,.bool o.fr,.int .i64 o.i,.int .i64 o.m,.slice o.a.a o.a.n o.a.c]
structure OpD.Ok (h:Hp) (o:OpD):Prop where
 bt:Bt h o.a o.b
 k:-9223372036854775808 ≤ o.k∧o.k < 9223372036854775808
 x1:-9223372036854775808 ≤ o.x1∧o.x1 < 9223372036854775808
 i:-9223372036854775808 ≤ o.i∧o.i < 9223372036854775808
 m:-9223372036854775808 ≤ o.m∧o.m < 9223372036854775808
section
variable {h h' h2 h0 h1:Hp} {q q' q2:HQ} {s s' s2:RS} {nd nd' nd2:List NodeD} {n:NodeD} {id hn m:Nat} {L Lb:Nat→LD} {L' L2:LD} {R:Value→Hp→Prop} {b:List Nat} {lb lb':Nat→Nat} {S:Nat→Prop} {o:OpD} {ob b3 b4:Nat} {a:Sl}
theorem kept_base (k0:Kept N h0 h1) (hS:∀ b,S b→h0.size ≤ b) (k:Kept S h1 h):Kept N h0 h :=
 ⟨Nat.le_trans k0.1 k.1,fun j hj _=>(k.2 j (Nat.lt_of_lt_of_le hj k0.1) fun hs=>by have:=hS j hs; omega).trans (k0.2 j hj _root_.id)⟩
end
end Go.Ev
set_option linter.all false
set_option maxRecDepth 1000000
namespace Go.Ev
open Go.Proofs
section
variable {h h' h2 h0 h1:Hp} {q q' q2:HQ} {s s' s2:RS} {nd nd' nd2:List NodeD} {n:NodeD} {id hn m:Nat} {L Lb:Nat→LD} {L' L2:LD} {R:Value→Hp→Prop} {b:List Nat} {lb lb':Nat→Nat} {S:Nat→Prop} {o:OpD} {ob b3 b4:Nat} {a:Sl} {ops:List OpD}
theorem cell_keptN {p:Addr} {v:Value} (k:Kept N h h') (e:cell h p=some v):cell h' p=some v:=by
 have hb:p.block < h.size:=Nat.lt_of_not_le fun hle=>by
  unfold cell at e
  rw [Array.getElem?_eq_none hle] at e
  cases e
 unfold cell at e ⊢
 rw [k.2 _ hb _root_.id]
 exact e
theorem RowsAt.rl {a:Sl} {M:Mem} {cs:List Nat} {rows:List (List Nat)} (x:RowsAt h0 h a M cs rows) (ho:∀ b,M.own b→q.role b=.out) (b8:∀ r ∈ rows,Bytes8 r∧r.length ≤ 4096):RL h q a (rowSls cs rows) rows:=by
 refine ⟨slAt_reads (x.sl.slAt x.sep),by rw [x.n_eq,rowSls_len x.len],rowSls_len x.len,fun i c r hc hr=>?_,fun p hp hn=>?_⟩
 ·obtain ⟨d,bk,hcs,_,_,row,_⟩:=x.get hr
  have hc2:=rowSls_get hcs hr
  rw [hc] at hc2
  obtain rfl:=Option.some.inj hc2
  have b:=b8 r (List.mem_of_getElem? hr)
  have e1:=(x.el i d r hcs hr).1
  exact ⟨row_src row b.1 (ho d ⟨_,e1⟩),Nat.le_refl _,by have:=b.2; omega⟩
 ·obtain ⟨c,hb,ha⟩:=x.sl.some_of (fun e=>hn (List.map_eq_nil_iff.1 e))
  rw [hp] at ha
  obtain rfl:p=ad c:=Option.some.inj ha
  exact ⟨ho c ⟨0,hb⟩,x.sep.lt hb⟩
end
end Go.Ev
set_option linter.all false
namespace Go.Ev
/-- No fence but the round that one is in. -/
def FR (ro:Option Nat):Fence:={ Fence.wide with round:=ro }
section
variable {P:Program} {ops:Array Oper} {Q:Exit→Act→World→Prop} {ro:Option Nat} {n:Nat}
theorem callsIn_FR {f:FuncId} {args:Array Value} {w:World} {R:Ending→World→Prop} (h:Calls P f args w R):CallsIn (FR ro) n P f args w R :=
 ⟨trivial,fun cs _=>let ⟨e,w',fr,r,s,x⟩:=h cs; ⟨e,w',fr,r,comesIn_wide.2 s,x⟩⟩
theorem wpInOp {o:Oper} {a:Act} {w:World} {K:Act→World→Prop} (hd:∀ c,o.op ≠ .defer c) (h:o.wp P a w K Q):o.wpIn (FR ro) n P a w K Q:=by
 refine ⟨fun _ _=>trivial,?_⟩
 rw [Oper.semAt_eq _ _ _ hd]
 unfold Oper.wp at h
 generalize (execOp a.eval o).run P w=r at h ⊢
 cases r with
 | ok x w' =>
  cases x <;> simp only [Oper.upon,Oper.uponIn] at h ⊢
  case value=>exact h
  case skip=>exact h
  case defer=>exact h
  case enter=>exact ⟨nofun,callsIn_FR h⟩
  case row=>exact ⟨nofun,fun c cs _=>let ⟨v,w',r,s⟩:=h c cs; ⟨v,w',r,stepsIn_wide.2 s⟩⟩
 | halt x w'=>cases x <;> simp only [Oper.upon,Oper.uponIn] at h ⊢ <;> exact h
theorem noDef_at (h:noDefOps ops=true) {i:Nat} {o:Oper} (ho:ops[i]?=some o):∀ c,o.op ≠ .defer c:=fun c hc=>by
 have:=List.all_eq_true.1 h o (by
  rw [← Array.getElem?_toList] at ho
  exact List.mem_of_getElem? ho)
 rw [hc] at this
 cases this
theorem wpOpIn_of (hd:noDefOps ops=true) (hQ:¬ LetsOut Q) {i:Nat} {a:Act} {w:World} {K:Act→World→Prop} (h:wpOp P ops Q i K a w):wpOpIn (FR ro) n P ops Q i K a w:=by
 unfold wpOp at h
 unfold wpOpIn
 cases ho:ops[i]? with
 | none=>simpa only [ho] using h
 | some o =>
  simp only [ho] at h ⊢
  split
  ·rename_i hw
   rw [if_pos hw] at h
   exact wpInOp (noDef_at hd ho) (h.resolve_right fun z=>hQ z.2)
  ·rename_i hw
   rw [if_neg hw] at h
   exact ⟨fun _ _=>trivial,h⟩
theorem wpOpsIn_of (hd:noDefOps ops=true) (hQ:¬ LetsOut Q):∀ (l:List Nat) (a:Act) (w:World),wpOps P ops Q l a w→wpOpsIn (FR ro) n P ops Q l a w
 | [],_,_,h=>h
 | i :: l,a,w,h=>by
  rw [wpOps_cons] at h
  rw [wpOpsIn_cons]
  exact wpOpIn_mono (fun a w=>wpOpsIn_of hd hQ l a w) (wpOpIn_of hd hQ h)
theorem wpAnyIn_of {md:Region.Mode} (hd:noDefOps ops=true) (hQ:¬ LetsOut Q):∀ (fuel:Nat) (listed:Array Bool) (a:Act) (w:World),wpAny P md ops Q fuel listed a w→wpAnyIn (FR ro) n P md ops Q fuel listed a w
 | 0,_,_,_,h=>h
 | fuel + 1,_,a,w,h=>⟨h.1,fun i hi=>wpOpIn_mono (fun a w=>wpAnyIn_of hd hQ fuel _ a w) (wpOpIn_of hd hQ (h.2 i hi))⟩
theorem wpIn_loopEv {F:Fence} {c:Code} {a:Act} {w:World} (I:Nat→Act→World→Prop) (m:Nat) (h0:I m a w)
  (round:∀ m a w,I m a w→c.wpIn F n P (Exit.then (fun a' w'=>∃ m',m' < m∧I m' a' w') Q) a w):(Code.loop c).wpIn F n P Q a w:=by
 intro b k cs hro hb hr
 have key:∀ m a w,I m a w →
   ∃ e a' w',Q e a' w'∧ArrivesIn (Machine.fenced P F) P (lone (b.atR a (.code c :: .inLoop c :: k)) cs w) b k cs e a' w':=by
  intro m
  induction m using Nat.strongRecOn with
  | _ m ih =>
   intro a w hI
   obtain ⟨e,a₁,w₁,hq,harr⟩:=round m a w hI b (.inLoop c :: k) cs hro hb hr
   cases e with
   | normal =>
    obtain ⟨m',hlt,hI₁⟩:=hq
    obtain ⟨e₂,a₂,w₂,hq₂,harr₂⟩:=ih m' hlt a₁ w₁ hI₁
    exact ⟨e₂,a₂,w₂,hq₂,.of_steps (StepsIn.trans harr (.one (fenced_calm hb hr rfl) stepR_inLoop)) harr₂⟩
   | exit id=>exact ⟨_,a₁,w₁,hq,.pass (x:=.inLoop c) rfl (fun _ _=>.inl (by simp)) harr⟩
   | goto l=>exact ⟨_,a₁,w₁,hq,.pass (x:=.inLoop c) rfl (fun _ _=>.inl (by simp)) harr⟩
   | ret=>exact ⟨_,a₁,w₁,hq,.pass (x:=.inLoop c) rfl (fun _ _=>.inl (by simp)) harr⟩
   | panic ch=>exact ⟨_,a₁,w₁,hq,.pass (x:=.inLoop c) rfl (fun _ _=>.inl (by simp)) harr⟩
   | outgrown=>exact ⟨_,a₁,w₁,hq,.pass (x:=.inLoop c) rfl (fun _ _=>.inl (by simp)) harr⟩
 obtain ⟨e,a',w',hq,harr⟩:=key m a w h0
 exact ⟨e,a',w',hq,.of_steps (.one (fenced_calm hb hr rfl) stepR_loop) harr⟩
end
section
variable {P:Program} {ops:Array Oper} {F:Fence} {n:Nat} {Q Q':Exit→Act→World→Prop}
theorem Oper.wpIn_mono2 (hq:∀ e a w,Q e a w→Q' e a w) (hQ:¬ LetsOut Q) {o:Oper} {a:Act} {w:World} {K K':Act→World→Prop} (h:∀ a w,K a w→K' a w) (hh:o.wpIn F n P a w K Q):o.wpIn F n P a w K' Q':=by
 unfold Oper.wpIn at *
 refine ⟨hh.1,?_⟩
 have hh:=hh.2
 generalize (o.semAt F.round a.eval).run P w=r at *
 cases r with
 | ok x w' =>
  cases x <;> simp only [Oper.uponIn] at hh ⊢ <;>
   first
    | exact h _ _ hh
    | exact ⟨hh.1,CallsIn.mono hh.2 (fun e w'' he=>by cases e <;> first | exact h _ _ he | exact hq _ _ _ he | exact (hQ he).elim)⟩
    | exact ⟨hh.1,RowsIn.mono hh.2 (fun _ _ he=>h _ _ he)⟩
    | exact ⟨hh.1,RoundIn.mono hh.2 (fun e w'' he=>by cases e <;> first | exact h _ _ he | exact hq _ _ _ he | exact (hQ he).elim)⟩
 | halt x w'=>cases x <;> simp only [Oper.uponIn] at hh ⊢ <;> first | exact hq _ _ _ hh | exact hh
theorem wpOpsIn_mono2 (hq:∀ e a w,Q e a w→Q' e a w) (hQ:¬ LetsOut Q):∀ (l:List Nat) (a:Act) (w:World),wpOpsIn F n P ops Q l a w→wpOpsIn F n P ops Q' l a w
 | [],_,_,h=>hq _ _ _ h
 | i :: l,a,w,h=>by
  rw [wpOpsIn_cons] at h ⊢
  unfold wpOpIn at h ⊢
  split
  ·rename_i ho
   simp only [ho] at h
   exact wpOpsIn_mono2 hq hQ l _ _ h
  ·rename_i o ho
   simp only [ho] at h
   split
   ·rename_i hw
    rw [if_pos hw] at h
    exact Oper.wpIn_mono2 hq hQ (fun a w=>wpOpsIn_mono2 hq hQ l a w) h
   ·rename_i hw
    rw [if_neg hw] at h
    exact ⟨h.1,wpOpsIn_mono2 hq hQ l _ _ h.2⟩
end
/-! ### Yields -/
/-- What a call of yield owes: a round. -/
def YieldTo (P:Program) (l:Nat) (args:List Value) (h:Hp) (R:Value→Hp→Prop):Prop :=
 ∀ w:World,w.heap=h→∃ fn tmps assign body,(Instr.yield l args.toArray).run P w=.ok (.round l fn tmps assign body) w ∧
  RoundIn Fence.wide 0 P l fn tmps assign body w fun e w'=>∃ v,e=.returned v∧Same w w'∧R v w'.heap
/-- A call of whatever a value holds, yield among them. -/
def DynY (P:Program) (v:Value) (args:List Value) (h:Hp) (R:Value→Hp→Prop):Prop :=
 Dyn P v args h R ∨ ∃ l,v=.func (.yield l) #[] #[]∧YieldTo P l args h R
/-- Whether a function's value is nil. -/
def FnNil (v:Value) (b:Bool):Prop:=(v=.nilFunc∧b=true) ∨ ∃ f a c,v=.func f a c∧b=false
def isNilFn:Operand→Bool
 | .const .nilFunc=>true
 | _=>false
def fnNilEv (P:Program) (t:TypeId) (v:Value) (h:Hp) (K:Value→Hp→Prop):Prop :=
 match P.underlying t with
 | some (.func _ _ _)=>∃ b:Bool,FnNil v b∧K (.bool b) h
 | _=>False
def evOpY (P:Program) (T:Tab) (o:Oper) (env:List Value) (h:Hp) (K:Value→Hp→Prop):Prop :=
 match o.op with
 | .binOp .eql t x y _=>if isNilFn y=true then fnNilEv P t (evalL env x) h K else evOp P T o env h K
 | .call c=>match c.callee with
  | .value f=>if isTmp f=true then DynY P (evalL env f) (c.args.toList.map (evalL env)) h (fun r h'=>resEx (T.rt o.type) fun u=>r=u∧K u h') else evOp P T o env h K
  | _=>evOp P T o env h K
 | _=>evOp P T o env h K
def evOpsY (P:Program) (T:Tab) (ops:Array Oper):List Oper→List Value→Hp→(List Value→Hp→Prop)→Prop
 | [],env,h,Q=>Q env h
 | o :: rest,env,h,Q=>evG ops o env (fun env'=>evOpY P T o env' h fun v h'=>evOpsY P T ops rest (putL env' o.dst v) h' Q)
   (fun env'=>evOpsY P T ops rest (putL env' o.dst undef) h Q)
def evCY (P:Program) (T:Tab) (lv:Nat→List Nat):Code→Kc→List Value→Hp→Prop
 | .skip,Q,env,h=>Q .normal env h
 | .ret,Q,env,h=>Q .ret env h
 | .exit id,Q,env,h=>Q (.exit id) env h
 | .seq a b,Q,env,h=>evCY P T lv a (seqK (evCY P T lv b Q) Q) env h
 | .cond c a b,Q,env,h=>match evalL env c with
  | .bool t=>Cond t (evCY P T lv a Q env h) (evCY P T lv b Q env h)
  | _=>False
 | .block id c,Q,env,h=>evCY P T lv c (blockK id Q) env h
 | .loop c,Q,env,h=>LoopEv (evCY P T lv c) Q (pairsOf (lv (firstR c)) env) env.length h
 | .region id ops draw,Q,env,h=>if draw=true then evC P T lv (.region id ops draw) Q env h else evOpsY P T ops ops.toList env h (Q .normal)
 | _,_,_,_=>False
/-- No deferred call in any region. -/
def noDef:Code→Bool
 | .seq a b=>noDef a && noDef b
 | .cond _ a b=>noDef a && noDef b
 | .block _ c=>noDef c
 | .loop c=>noDef c
 | .region _ ops _=>noDefOps ops
 | _=>true
section
variable {P:Program} {T:Tab} {D:List Deferred} {w0:World} {ro:Option Nat} {n:Nat}
theorem lift_noOut {Q:Kc}:¬ LetsOut (lift D w0 Q):=fun ⟨_,_,_,_,_,h⟩=>h
/-- Code in a round (or not) is as the evaluator says. -/
theorem evC_soundIn {lv:Nat→List Nat} (hm:P.follows .mixedOrders=true) (hT:TabOk P T):∀ (c:Code),noSel c=true→noDef c=true→∀ (Q:Kc) (env:List Value) (w:World),Same w0 w→evC P T lv c Q env w.heap →
  c.wpIn (FR ro) n P (lift D w0 Q) (actL env D) w:=by
 intro c
 induction c with
 | skip=>exact fun _ _ Q env w hs h=>wpIn_skip ⟨hs,env,rfl,h⟩
 | ret=>exact fun _ _ Q env w hs h=>wpIn_ret ⟨hs,env,rfl,h⟩
 | exit id=>exact fun _ _ Q env w hs h=>wpIn_exit ⟨hs,env,rfl,h⟩
 | seq a b iha ihb =>
  intro hn hd Q env w hs h
  simp only [noSel,noDef,Bool.and_eq_true] at hn hd
  refine wpIn_seq (wpIn_mono (iha hn.1 hd.1 _ env w hs h) fun e a' w' hl=>?_)
  obtain ⟨hs',env',rfl,hl⟩:=hl
  cases e <;> first | exact hl.elim | exact ⟨hs',env',rfl,hl⟩ | exact ihb hn.2 hd.2 Q env' w' hs' hl
 | cond c a b iha ihb =>
  intro hn hd Q env w hs h
  simp only [noSel,noDef,Bool.and_eq_true] at hn hd
  unfold evC at h
  split at h
  ·rename_i t hc
   have hc':(actL env D).eval c=.bool t:=by rw [eval_actL]; exact hc
   rcases h.split with ⟨rfl,hx⟩ | ⟨rfl,hx⟩
   ·exact wpIn_cond_true hc' (iha hn.1 hd.1 Q env w hs hx)
   ·exact wpIn_cond_false hc' (ihb hn.2 hd.2 Q env w hs hx)
  ·exact h.elim
 | block id c ih =>
  intro hn hd Q env w hs h
  refine wpIn_block (wpIn_mono (ih hn hd _ env w hs h) fun e a' w' hl=>?_)
  obtain ⟨hs',env',rfl,hl⟩:=hl
  cases e with
  | exit id' =>
   show if id'=id then _ else _
   simp only [blockK] at hl
   split at hl
   ·rename_i hid; rw [if_pos hid]; exact ⟨hs',env',rfl,hl⟩
   ·rename_i hid; rw [if_neg hid]; exact ⟨hs',env',rfl,hl⟩
  | _=>first | exact hl.elim | exact ⟨hs',env',rfl,hl⟩
 | loop c ih =>
  intro hn hd Q env w hs h
  obtain ⟨I,m,hg,round⟩:=h
  have h0:I m env w.heap:=by
   have:=hg fun k=>env.getD k undef
   have e:mkEnv env.length (pairsOf (lv (firstR c)) env) (fun k=>env.getD k undef)=env:=mkEnv_self _ _
   rwa [e] at this
  refine wpIn_loopEv (fun m a w=>Same w0 w∧∃ env,a=actL env D∧I m env w.heap) m ⟨hs,env,rfl,h0⟩ fun m a w hI=>?_
  obtain ⟨hs',env',rfl,hI⟩:=hI
  refine wpIn_mono (ih hn hd _ env' w hs' (round m env' w.heap hI)) fun e a' w' hl=>?_
  obtain ⟨hs'',env'',rfl,hl⟩:=hl
  cases e <;> first | exact hl.elim | exact ⟨hs'',env'',rfl,hl⟩ | (obtain ⟨m',hlt,hm'⟩:=hl; exact ⟨m',hlt,hs'',env'',rfl,hm'⟩)
 | region id ops draw =>
  intro hn hd Q env w hs h
  unfold evC at h
  cases draw with
  | false =>
   simp only [Bool.false_eq_true,if_false] at h
   refine wpIn_region (wpOpsIn_of hd lift_noOut _ _ _ ?_)
   have:=evOps_sound (P:=P) (D:=D) (w0:=w0) hT (ops:=ops) ops.toList 0 env w (fun i=>by simp) hs h
   rw [Array.length_toList] at this
   rwa [List.range_eq_range']
  | true =>
   simp only [if_true] at h
   have hsel:Region.noSelect ops=true:=by simpa [noSel] using hn
   refine wpIn_region_any hm (wpAnyIn_of hd lift_noOut _ _ _ _ ?_)
   exact wpAny_of_P ops.size [] _ _ { w with drawn:=w.drawn + 1 } ⟨hs.1,hs.2.1,hs.2.2⟩ (evR_sound hT hsel ops.size [] _ env w.heap (fun p hp=>by cases hp) h)
 | _=>exact fun _ _ Q env w hs h=>h.elim
/-! ### A round -/
/-- The record at a round's end. -/
def EndR (l:Nat) (R:Value→Hp→Prop) (j:Option Code) (h:Hp):Prop :=
 ∃ r:Loop,h[l]?=some (.loop r)∧R (.bool j.isNone) (h.setIfInBounds l (.loop { r with state:=if j.isNone then .ready else .done,pending:=j }))
def roundK (l:Nat) (R:Value→Hp→Prop):Kc
 | .normal,_,h=>EndR l R none h
 | .ret,_,h=>EndR l R (some .ret) h
 | .exit id,_,h=>EndR l R (some (.exit id)) h
 | _,_,_=>False
def startK (P:Program) (T:Tab) (lv:Nat→List Nat) (l:Nat) (body:Code) (R:Value→Hp→Prop):Kc
 | .normal,env,h=>∃ r:Loop,h[l]?=some (.loop r)∧r.state=.ready∧evC P T lv body (roundK l R) env (h.setIfInBounds l (.loop { r with state:=.busy }))
 | _,_,_=>False
/-- A round, from the record's temporaries with yield's arguments put in. -/
def RoundEv (P:Program) (T:Tab) (lv:Nat→List Nat) (l:Nat) (assign body:Code) (env:List Value) (h:Hp) (R:Value→Hp→Prop):Prop :=
 evC P T lv assign (startK P T lv l body R) env h
theorem same_putObj {w:World} {l:Nat} {o:Obj}:Same w (w.putObj l o):=⟨rfl,rfl,rfl⟩
theorem yieldTo_of {lv:Nat→List Nat} (hm:P.follows .mixedOrders=true) (hT:TabOk P T) {l:Nat} {r:Loop} {args:List Value} {h:Hp} {R:Value→Hp→Prop} {env:List Value} (hl:h[l]?=some (.loop r)) (hs:args.toArray.size=r.params.size)
  (he:(r.params.zip args.toArray).foldl (fun tmps (t,a)=>tmps.setIfInBounds t a) r.tmps=env.toArray) (n1:noSel r.assign=true) (n2:noSel r.body=true) (d1:noDef r.assign=true) (d2:noDef r.body=true)
  (hr:RoundEv P T lv l r.assign r.body env h R):YieldTo P l args h R:=by
 intro w hw
 subst hw
 refine ⟨r.fn,env.toArray,r.assign,r.body,?_,?_⟩
 ·rw [← he]; exact run_yield hl hs
 refine roundIn_of_wpIn (F:=Fence.wide) trivial ?_
 have key:=evC_soundIn (P:=P) (T:=T) (D:=[]) (w0:=w) (ro:=some l) (n:=0) hm hT r.assign n1 d1 _ env w (Same.refl _) hr
 refine wpIn_mono key fun e a' w' hx=>?_
 obtain ⟨hs',env',rfl,hx⟩:=hx
 cases e <;> first | exact hx.elim | skip
 obtain ⟨r1,h1,hready,hx⟩:=hx
 refine ⟨w'.putObj l (.loop { r1 with state:=.busy }),run_beginRound h1 hready,?_⟩
 have key2:=evC_soundIn (P:=P) (T:=T) (D:=[]) (w0:=w) (ro:=some l) (n:=0) hm hT r.body n2 d2 _ env' (w'.putObj l (.loop { r1 with state:=.busy })) (hs'.trans same_putObj) hx
 refine wpIn_mono key2 fun e a2 w2 hy=>?_
 obtain ⟨hs2,env2,rfl,hy⟩:=hy
 cases e <;> first | exact hy.elim | skip
 all_goals
  obtain ⟨r2,h2,hy⟩:=hy
  exact ⟨_,_,run_endRound _ h2,_,rfl,hs2.trans same_putObj,hy⟩
/-! ### Code that yields -/
theorem run_callYield {o:Oper} {c:Call} {f:Operand} {env:List Value} {l:Nat} (hop:o.op=.call c) (hf:c.callee=.value f) (hv:evalL env f=.func (.yield l) #[] #[]) (w:World) :
  (execOp (evalL env) o).run P w=(Instr.yield l (c.args.toList.map (evalL env)).toArray).run P w:=by
 have ha:(#[]:Array Value) ++ c.args.map (evalL env)=(c.args.toList.map (evalL env)).toArray:=by
  apply Array.ext'
  simp
 simp only [execOp,hop,run_bind,resolve,hf,hv,Deferred.ofValue,run_pure,invoke,ha]
theorem fnNil_run {t:TypeId} {x y:Operand} {v:Value} {b:Bool} {ps rs:Array TypeId} {vd:Bool} (ht:P.underlying t=some (.func ps rs vd)) (hb:FnNil v b) (w:World) :
  (do eqGuard .eql t x y v .nilFunc; binOp .eql t v .nilFunc:Sem Value).run P w=.ok (.bool b) w:=by
 have hs:(Op.equal t v .nilFunc).run P w=.ok b w:=by
  rcases hb with ⟨rfl,rfl⟩ | ⟨f,a,c,rfl,rfl⟩
  ·unfold Op.equal
   rw [show Op.maxDepth=9999 + 1 from rfl,Op.equalIn.eq_def]
   simp only []
   rw [run_bind,run_underlying ht]
   rfl
  ·unfold Op.equal
   rw [show Op.maxDepth=9999 + 1 from rfl,Op.equalIn.eq_def]
   simp only []
   rw [run_bind,run_underlying ht]
   rfl
 have hg:(eqGuard .eql t x y v .nilFunc).run P w=.ok () w:=by
  rcases hb with ⟨rfl,rfl⟩ | ⟨f,a,c,rfl,rfl⟩ <;> rfl
 have e:binOp .eql t v .nilFunc=(do pure (.bool (← Op.equal t v .nilFunc)):Sem Value):=by
  rcases hb with ⟨rfl,rfl⟩ | ⟨f,a,c,rfl,rfl⟩ <;> rfl
 have hb2:(binOp .eql t v .nilFunc).run P w=.ok (.bool b) w:=by
  rw [e,run_bind,hs]
  rfl
 rw [run_bind,hg]
 exact hb2
theorem evOpY_sound (hT:TabOk P T) {o:Oper} {env:List Value} {w:World} {K:Value→Hp→Prop} (h:evOpY P T o env w.heap K) :
  OpOk P o env w K ∨ ∃ l args,(∀ w':World,(execOp (evalL env) o).run P w'=(Instr.yield l (List.toArray args)).run P w')∧(∀ c,o.op ≠ .defer c)∧YieldTo P l args w.heap K:=by
 unfold evOpY at h
 split at h
 ·rename_i t x y u hop
  split at h
  ·rename_i hy
   have ey:y=.const .nilFunc:=by
    unfold isNilFn at hy
    split at hy
    ·rfl
    ·cases hy
   subst ey
   unfold fnNilEv at h
   split at h
   ·rename_i ps rs vd ht
    obtain ⟨b,hb,hk⟩:=h
    refine .inl (.inl ⟨.bool b,w,.inl ?_,Same.refl _,hk⟩)
    have e1:=fnNil_run (x:=x) (y:=.const .nilFunc) ht hb w
    simp only [execOp,hop,Next.value]
    show (do let v ← (do eqGuard .eql t x (.const .nilFunc) (evalL env x) .nilFunc; binOp .eql t (evalL env x) .nilFunc:Sem Value); pure (Next.value v):Sem Next).run P w=_
    rw [run_bind,e1]
    rfl
   ·exact h.elim
  ·exact .inl (evOp_sound hT h)
 ·rename_i c hop
  split at h
  ·rename_i f hf
   split at h
   ·rename_i ht
    rcases h with h | ⟨l,hv,h⟩
    ·refine .inl (evOp_sound hT ?_)
     unfold evOp
     simp only [hop,hf,if_pos ht]
     exact h
    ·refine .inr ⟨l,_,run_callYield hop hf hv,(fun c' hc'=>by rw [hop] at hc'; cases hc'),fun w' hw'=>?_⟩
     obtain ⟨fn,tmps,assign,body,h1,h2⟩:=h w' hw'
     refine ⟨fn,tmps,assign,body,h1,h2.mono fun e w2 ⟨v,he,hs,hr⟩=>?_⟩
     obtain ⟨u,hu,hk⟩:=resEx_some hr
     exact ⟨v,he,hs,hu ▸ hk⟩
   ·exact .inl (evOp_sound hT h)
  ·exact .inl (evOp_sound hT h)
 ·exact .inl (evOp_sound hT h)
theorem evOpsY_sound (hT:TabOk P T) {ops:Array Oper} (hd:noDefOps ops=true) {Q:Kc}:∀ (l:List Oper) (k:Nat) (env:List Value) (w:World),(∀ i,l[i]?=ops[k + i]?)→Same w0 w →
  evOpsY P T ops l env w.heap (Q .normal)→wpOpsIn Fence.wide n P ops (lift D w0 Q) (List.range' k l.length) (actL env D) w:=by
 intro l
 induction l with
 | nil=>intro k env w _ hs h; exact ⟨hs,env,rfl,h⟩
 | cons o rest ih =>
  intro k env w hl hs h
  have ho:ops[k]?=some o:=by have:=hl 0; simpa using this.symm
  have hl':∀ i,rest[i]?=ops[k + 1 + i]?:=fun i=>by have:=hl (i + 1); rw [show k + (i + 1)=k + 1 + i by omega] at this; simpa using this
  rw [List.length_cons,List.range'_succ,wpOpsIn_cons]
  unfold wpOpIn
  simp only [ho]
  have e:(actL env D).tmps=env.toArray:=rfl
  rw [e]
  unfold evOpsY at h
  rcases evG_sound h with ⟨hw,h⟩ | ⟨hw,h⟩
  ·rw [if_pos hw]
   rcases evOpY_sound hT h with h | ⟨yl,args,hrun,hnd,hy⟩
   ·exact wpInOp (ro:=none) (noDef_at hd ho) (OpOk.wp hs h fun v w' hs' hk=>ih (k + 1) _ w' hl' hs' hk)
   ·obtain ⟨fn,tmps,assign,body,h1,h2⟩:=hy w rfl
    refine ⟨fun _ _=>trivial,?_⟩
    rw [Oper.semAt_eq _ _ _ hnd,eval_actL,hrun,h1,Oper.uponIn_round]
    refine ⟨nofun,h2.1,fun c cs _=>?_⟩
    obtain ⟨e,w',⟨v,he,hs',hk⟩,hst⟩:=h2.2 c cs (room_wide _)
    subst he
    refine ⟨.returned v,w',?_,hst⟩
    show wpOpsIn Fence.wide n P ops (lift D w0 Q) _ ((actL env D).put o.dst v) w'
    rw [put_actL]
    exact ih (k + 1) _ w' hl' (hs.trans hs') hk
  ·rw [hw]
   simp only [Bool.false_eq_true,if_false]
   rw [put_actL]
   exact ⟨fun _ _=>trivial,ih (k + 1) _ w hl' hs h⟩
theorem evCY_sound {lv:Nat→List Nat} (hm:P.follows .mixedOrders=true) (hT:TabOk P T):∀ (c:Code),noSel c=true→noDef c=true→∀ (Q:Kc) (env:List Value) (w:World),Same w0 w→evCY P T lv c Q env w.heap →
  c.wpIn Fence.wide n P (lift D w0 Q) (actL env D) w:=by
 intro c
 induction c with
 | skip=>exact fun _ _ Q env w hs h=>wpIn_skip ⟨hs,env,rfl,h⟩
 | ret=>exact fun _ _ Q env w hs h=>wpIn_ret ⟨hs,env,rfl,h⟩
 | exit id=>exact fun _ _ Q env w hs h=>wpIn_exit ⟨hs,env,rfl,h⟩
 | seq a b iha ihb =>
  intro hn hd Q env w hs h
  simp only [noSel,noDef,Bool.and_eq_true] at hn hd
  refine wpIn_seq (wpIn_mono (iha hn.1 hd.1 _ env w hs h) fun e a' w' hl=>?_)
  obtain ⟨hs',env',rfl,hl⟩:=hl
  cases e <;> first | exact hl.elim | exact ⟨hs',env',rfl,hl⟩ | exact ihb hn.2 hd.2 Q env' w' hs' hl
 | cond c a b iha ihb =>
  intro hn hd Q env w hs h
  simp only [noSel,noDef,Bool.and_eq_true] at hn hd
  unfold evCY at h
  split at h
  ·rename_i t hc
   have hc':(actL env D).eval c=.bool t:=by rw [eval_actL]; exact hc
   rcases h.split with ⟨rfl,hx⟩ | ⟨rfl,hx⟩
   ·exact wpIn_cond_true hc' (iha hn.1 hd.1 Q env w hs hx)
   ·exact wpIn_cond_false hc' (ihb hn.2 hd.2 Q env w hs hx)
  ·exact h.elim
 | block id c ih =>
  intro hn hd Q env w hs h
  refine wpIn_block (wpIn_mono (ih hn hd _ env w hs h) fun e a' w' hl=>?_)
  obtain ⟨hs',env',rfl,hl⟩:=hl
  cases e with
  | exit id' =>
   show if id'=id then _ else _
   simp only [blockK] at hl
   split at hl
   ·rename_i hid; rw [if_pos hid]; exact ⟨hs',env',rfl,hl⟩
   ·rename_i hid; rw [if_neg hid]; exact ⟨hs',env',rfl,hl⟩
  | _=>first | exact hl.elim | exact ⟨hs',env',rfl,hl⟩
 | loop c ih =>
  intro hn hd Q env w hs h
  obtain ⟨I,m,hg,round⟩:=h
  have h0:I m env w.heap:=by
   have:=hg fun k=>env.getD k undef
   have e:mkEnv env.length (pairsOf (lv (firstR c)) env) (fun k=>env.getD k undef)=env:=mkEnv_self _ _
   rwa [e] at this
  refine wpIn_loopEv (fun m a w=>Same w0 w∧∃ env,a=actL env D∧I m env w.heap) m ⟨hs,env,rfl,h0⟩ fun m a w hI=>?_
  obtain ⟨hs',env',rfl,hI⟩:=hI
  refine wpIn_mono (ih hn hd _ env' w hs' (round m env' w.heap hI)) fun e a' w' hl=>?_
  obtain ⟨hs'',env'',rfl,hl⟩:=hl
  cases e <;> first | exact hl.elim | exact ⟨hs'',env'',rfl,hl⟩ | (obtain ⟨m',hlt,hm'⟩:=hl; exact ⟨m',hlt,hs'',env'',rfl,hm'⟩)
 | region id ops draw =>
  intro hn hd Q env w hs h
  unfold evCY at h
  cases draw with
  | false =>
   simp only [Bool.false_eq_true,if_false] at h
   refine wpIn_region ?_
   have:=evOpsY_sound (P:=P) (D:=D) (w0:=w0) (n:=n) hT (ops:=ops) hd ops.toList 0 env w (fun i=>by simp) hs h
   rw [Array.length_toList] at this
   rwa [List.range_eq_range']
  | true =>
   simp only [if_true] at h
   exact evC_soundIn (ro:=none) hm hT (.region id ops true) hn hd Q env w hs h
 | _=>exact fun _ _ Q env w hs h=>h.elim
def evFY (P:Program) (T:Tab) (lv:Nat→List Nat) (fn:Func) (c:Code) (hints:List VK) (args:List Value) (h:Hp) (R:Value→Hp→Prop):Prop :=
 evCY P T lv c (bodyK P fn hints R) (envOf fn args) h
theorem callTo_of_evY {lv:Nat→List Nat} (hm:P.follows .mixedOrders=true) (hT:TabOk P T) {f:FuncId} {fn:Func} {c:Code} {hints:List VK} {args:List Value} {h:Hp} {R:Value→Hp→Prop} (hf:P.funcs[f]?=some fn) (hb:fn.body=some c)
  (hn:noSel c=true) (hd:noDef c=true) (he:evFY P T lv fn c hints args h R):CallTo P f args.toArray h R:=by
 intro w hw
 subst hw
 refine (callsIn_wide (n:=0)).1 (callsIn_of_wp hf hb trivial ?_)
 have key:=evCY_sound (D:=[]) (w0:=w) (n:=0) hm hT c hn hd _ _ w (Same.refl _) he
 have e:({ tmps:=args.toArray ++ Array.replicate (fn.ntmps - args.toArray.size) undef,defers:=[] }:Act)=actL (envOf fn args) []:=by
  unfold actL envOf
  congr 1
  apply Array.ext'
  simp
 rw [e]
 refine wpIn_mono key fun e a w' hl=>?_
 obtain ⟨hs,env,rfl,hl⟩:=hl
 cases e <;> first | exact hl.elim | skip
 all_goals
  obtain ⟨v,vs,hr,hk⟩:=rdSem_sound _ _ _ _ hl
  exact ⟨rfl,v,hr,v,rfl,hs,hk⟩
/-! ### The statement -/
/-- The record of a range over a function. -/
def recL (fn:FuncId) (tmps:List Value) (ps:Array Tmp) (assign body:Code) (b:Nat) (st:LoopState) (pend:Option Code):Loop :=
 {state:=st,pending:=pend,fn,tmps:=tmps.toArray,params:=ps,assign,body,defers:=b }
/-- A range over the function that a value holds: the block for what rounds defer, the record; the call; the pending jump. -/
def RangeEv (P:Program) (T:Tab) (v:Value) (ps:Array Tmp) (assign body:Code) (l:List (Nat × Value)) (N:Nat) (h:Hp) (K:Option Code→Hp→Prop):Prop :=
 ∃ g first cap,v=.func (.func g) first cap∧Callable P g∧∀ (fn:FuncId) (gl:Nat→Value),
  CallTo P g (first.toList ++ [Value.func (.yield (h.size + 1)) #[] #[]] ++ cap.toList).toArray ((h.push (.deferred (some []))).push (.loop (recL fn (mkEnv N l gl) ps assign body h.size .ready none))) fun _ h' =>
   ∃ st pend,h'[h.size + 1]?=some (.loop (recL fn (mkEnv N l gl) ps assign body h.size st pend))∧st ≠ .busy∧K pend (h'.setIfInBounds (h.size + 1) (.loop (recL fn (mkEnv N l gl) ps assign body h.size .exhausted pend)))
/-- Behind the range: on; or the jump that a round has left. -/
def AfterJ (kn kr:Hp→Prop) (ke:Nat→Hp→Prop):Option Code→Hp→Prop
 | none,h=>kn h
 | some .ret,h=>kr h
 | some (.exit id),h=>ke id h
 | _,_=>False
def afterR (Q:KcD) (D:List Deferred) (env:List Value):Option Code→Hp→Prop:=AfterJ (Q .normal D env) (Q .ret D env) fun id=>Q (.exit id) D env
def rfA:Code→Code
 | .rangeFunc _ _ a _=>a
 | c=>c
def rfB:Code→Code
 | .rangeFunc _ _ _ b=>b
 | c=>c
def contAtY (P:Program) (T:Tab) (lv:Nat→List Nat):List Nat→Code→List (Kc→Kc)→Kc→Kc
 | [],_,_,Q=>Q
 | 0 :: π,.seq a b,lk,Q=>contAtY P T lv π a lk (seqK (evCY P T lv b Q) Q)
 | _ :: π,.seq _ b,lk,Q=>contAtY P T lv π b lk Q
 | 0 :: π,.cond _ a _,lk,Q=>contAtY P T lv π a lk Q
 | _ :: π,.cond _ _ b,lk,Q=>contAtY P T lv π b lk Q
 | _ :: π,.block id c,lk,Q=>contAtY P T lv π c lk (blockK id Q)
 | _ :: π,.loop c,k :: lk,Q=>contAtY P T lv π c lk (k Q)
 | _,_,_,Q=>Q
def evCM (P:Program) (T:Tab) (lv:Nat→List Nat):Code→KcD→List Deferred→List Value→Hp→Prop
 | .seq a b,Q,D,env,h=>evCM P T lv a (seqKD (evCM P T lv b Q) Q) D env h
 | .cond c a b,Q,D,env,h=>match evalL env c with
  | .bool t=>Cond t (evCM P T lv a Q D env h) (evCM P T lv b Q D env h)
  | _=>False
 | .block id c,Q,D,env,h=>evCM P T lv c (blockKD id Q) D env h
 | .region id ops draw,Q,D,env,h=>if draw=true then evC P T lv (.region id ops draw) (withD Q D) env h else evOpsY P T ops ops.toList env h (withD Q D .normal)
 | .skip,Q,D,env,h=>Q .normal D env h
 | .ret,Q,D,env,h=>Q .ret D env h
 | .exit id,Q,D,env,h=>Q (.exit id) D env h
 | .loop c,Q,D,env,h=>evC P T lv (.loop c) (withD Q D) env h
 | .rangeFunc g ps assign body,Q,D,env,h=>RangeEv P T (evalL env g) ps assign body (pairsOf (lv (firstR assign)) env) env.length h (afterR Q ({ target:=.collected h.size,args:=#[] } :: D) env)
 | _,_,_,_,_=>False
def contAtM (P:Program) (T:Tab) (lv:Nat→List Nat):List Nat→Code→KcD→KcD
 | [],_,Q=>Q
 | 0 :: π,.seq a b,Q=>contAtM P T lv π a (seqKD (evCM P T lv b Q) Q)
 | _ :: π,.seq _ b,Q=>contAtM P T lv π b Q
 | 0 :: π,.cond _ a _,Q=>contAtM P T lv π a Q
 | _ :: π,.cond _ _ b,Q=>contAtM P T lv π b Q
 | _ :: π,.block id c,Q=>contAtM P T lv π c (blockKD id Q)
 | _,_,Q=>Q
theorem evCM_sound {lv:Nat→List Nat} (hm:P.follows .mixedOrders=true) (hT:TabOk P T):∀ (c:Code),noSel c=true→noDef c=true→∀ (Q:KcD) (D:List Deferred) (env:List Value) (w:World),Same w0 w →
  evCM P T lv c Q D env w.heap→c.wp P (liftD w0 Q) (actL env D) w:=by
 intro c
 induction c with
 | skip=>exact fun _ _ Q D env w hs h=>wp_skip ⟨hs,D,env,rfl,h⟩
 | ret=>exact fun _ _ Q D env w hs h=>wp_ret ⟨hs,D,env,rfl,h⟩
 | exit id=>exact fun _ _ Q D env w hs h=>wp_exit ⟨hs,D,env,rfl,h⟩
 | seq a b iha ihb =>
  intro hn hd Q D env w hs h
  simp only [noSel,noDef,Bool.and_eq_true] at hn hd
  refine wp_seq (wp_mono (iha hn.1 hd.1 _ D env w hs h) fun e a' w' hl=>?_)
  obtain ⟨hs',D',env',rfl,hl⟩:=hl
  cases e <;> first | exact hl.elim | exact ⟨hs',D',env',rfl,hl⟩ | exact ihb hn.2 hd.2 Q D' env' w' hs' hl
 | cond c a b iha ihb =>
  intro hn hd Q D env w hs h
  simp only [noSel,noDef,Bool.and_eq_true] at hn hd
  unfold evCM at h
  split at h
  ·rename_i t hc
   have hc':(actL env D).eval c=.bool t:=by rw [eval_actL]; exact hc
   rcases h.split with ⟨rfl,hx⟩ | ⟨rfl,hx⟩
   ·exact wp_cond_true hc' (iha hn.1 hd.1 Q D env w hs hx)
   ·exact wp_cond_false hc' (ihb hn.2 hd.2 Q D env w hs hx)
  ·exact h.elim
 | block id c ih =>
  intro hn hd Q D env w hs h
  refine wp_block (wp_mono (ih hn hd _ D env w hs h) fun e a' w' hl=>?_)
  obtain ⟨hs',D',env',rfl,hl⟩:=hl
  cases e with
  | exit id' =>
   show if id'=id then _ else _
   simp only [blockKD] at hl
   split at hl
   ·rename_i hid; rw [if_pos hid]; exact ⟨hs',D',env',rfl,hl⟩
   ·rename_i hid; rw [if_neg hid]; exact ⟨hs',D',env',rfl,hl⟩
  | _=>first | exact hl.elim | exact ⟨hs',D',env',rfl,hl⟩
 | loop c ih =>
  intro hn hd Q D env w hs h
  exact wp_mono (evC_sound (D:=D) hm hT (.loop c) hn (withD Q D) env w hs h) fun e a' w' hl=>lift_withD hl
 | region id ops draw =>
  intro hn hd Q D env w hs h
  unfold evCM at h
  cases draw with
  | false =>
   simp only [Bool.false_eq_true,if_false] at h
   refine (wpIn_wide (n:=0)).1 (wpIn_region ?_)
   have:=evOpsY_sound (P:=P) (D:=D) (w0:=w0) (n:=0) (Q:=withD Q D) hT (ops:=ops) hd ops.toList 0 env w (fun i=>by simp) hs h
   rw [Array.length_toList,← List.range_eq_range'] at this
   exact wpOpsIn_mono2 (fun e a' w' hl=>lift_withD hl) (fun ⟨_,_,_,_,_,h⟩=>h) _ _ _ this
  | true =>
   simp only [if_true] at h
   exact wp_mono (evC_sound (D:=D) hm hT (.region id ops true) hn (withD Q D) env w hs h) fun e a' w' hl=>lift_withD hl
 | rangeFunc g ps assign body _ _ =>
  intro hn hd Q D env w hs h
  refine (wpIn_wide (n:=0)).1 (wpIn_rangeFunc (F:=Fence.wide) fun fn _=>?_)
  obtain ⟨f,first,cap,hv,hcal,hcall⟩:=h
  have eenv:mkEnv env.length (pairsOf (lv (firstR assign)) env) (fun k=>env.getD k undef)=env:=mkEnv_self _ _
  have hcall:=hcall fn fun k=>env.getD k undef
  rw [eenv] at hcall
  let w1:World:=(w.alloc (.deferred (some []))).alloc (.loop (recL fn env ps assign body w.heap.size .ready none))
  have hev:(actL env D).eval g=.func (.func f) first cap:=by rw [eval_actL]; exact hv
  refine ⟨w.heap.size + 1,[{ target:=.collected w.heap.size,args:=#[] }],w1,{ target:=.fn (.func f) cap,args:=first ++ #[Value.func (.yield (w.heap.size + 1)) #[] #[]] },w1,f,(first.toList ++ [Value.func (.yield (w.heap.size + 1)) #[] #[]] ++ cap.toList).toArray,w1,run_enterLoop_outer ..,?_,fun _ _=>trivial,?_,nofun,?_⟩
  ·simp only [resolve,hev,Deferred.ofValue,run_pure,List.map_toArray,List.map_cons,List.map_nil]
   rfl
  ·have:=hcal (first ++ #[Value.func (.yield (w.heap.size + 1)) #[] #[]] ++ cap) w1
   simp only [invoke]
   rw [this]
   congr 2
   apply Array.ext'
   simp
  ·refine callsIn_wide.2 ((hcall w1 rfl).mono fun e w3 ⟨v,he,hs3,st,pend,hl,hb,hk⟩=>?_)
   subst he
   have s3:Same w0 (w3.putObj (w.heap.size + 1) (.loop (recL fn env ps assign body w.heap.size .exhausted pend))):=(hs.trans ⟨rfl,rfl,rfl⟩:Same w0 w1).trans (hs3.trans same_putObj)
   refine ⟨pend,w3.putObj (w.heap.size + 1) (.loop (recL fn env ps assign body w.heap.size .exhausted pend)),run_endLoop hl hb,?_⟩
   cases pend with
   | none=>exact ⟨s3,_,env,rfl,hk⟩
   | some j =>
    cases j <;> first | exact hk.elim | skip
    ·exact wpIn_exit ⟨s3,_,env,rfl,hk⟩
    ·exact wpIn_ret ⟨s3,_,env,rfl,hk⟩
 | _=>exact fun _ _ Q D env w hs h=>h.elim
/-- Behind the text: the blocks for what rounds have deferred are shut; then the results. -/
def leaveM (P:Program) (fn:Func) (hints:List VK) (R:Value→Hp→Prop):List Deferred→List Value→Hp→Prop
 | [],env,h=>rdSem P (results fn env.toArray) hints h fun v _=>R v h
 | d :: ds,env,h=>match d.target with
  | .collected r=>h[r]?=some (.deferred (some []))∧leaveM P fn hints R ds env (h.setIfInBounds r (.deferred none))
  | _=>False
theorem leaveM_sound {fn:Func} {hints:List VK} {R:Value→Hp→Prop}:∀ (D:List Deferred) (env:List Value) (w:World),Same w0 w→leaveM P fn hints R D env w.heap →
  LeavesInM Fence.wide 0 P fn env.toArray (fun e w'=>∃ v,e=.returned v∧Same w0 w'∧R v w'.heap) D .returning w:=by
 intro D
 induction D with
 | nil =>
  intro env w hs h
  obtain ⟨v,vs,hr,hk⟩:=rdSem_sound _ _ _ _ h
  exact ⟨v,hr,v,rfl,hs,hk⟩
 | cons d ds ih =>
  intro env w hs h
  unfold leaveM at h
  split at h
  ·rename_i r htar
   exact ⟨nofun,.inl ⟨r,_,htar,run_takeDeferred h.1,ih env _ (hs.trans same_putObj) h.2⟩⟩
  ·exact h.elim
def bodyKM (P:Program) (fn:Func) (hints:List VK) (R:Value→Hp→Prop):KcD
 | .normal,D,env,h=>leaveM P fn hints R D env h
 | .ret,D,env,h=>leaveM P fn hints R D env h
 | _,_,_,_=>False
def evFM (P:Program) (T:Tab) (lv:Nat→List Nat) (fn:Func) (c:Code) (hints:List VK) (args:List Value) (h:Hp) (R:Value→Hp→Prop):Prop :=
 evCM P T lv c (bodyKM P fn hints R) [] (envOf fn args) h
theorem callTo_of_evM {lv:Nat→List Nat} (hm:P.follows .mixedOrders=true) (hT:TabOk P T) {f:FuncId} {fn:Func} {c:Code} {hints:List VK} {args:List Value} {h:Hp} {R:Value→Hp→Prop} (hf:P.funcs[f]?=some fn) (hb:fn.body=some c)
  (hn:noSel c=true) (hd:noDef c=true) (he:evFM P T lv fn c hints args h R):CallTo P f args.toArray h R:=by
 intro w hw
 subst hw
 refine (callsIn_wide (n:=0)).1 (callsIn_of_wp_marks hf hb trivial ?_)
 have key:=wpIn_wide (n:=0) |>.2 (evCM_sound (w0:=w) hm hT c hn hd _ _ _ w (Same.refl _) he)
 have e:({ tmps:=args.toArray ++ Array.replicate (fn.ntmps - args.toArray.size) undef,defers:=[] }:Act)=actL (envOf fn args) []:=by
  unfold actL envOf
  congr 1
  apply Array.ext'
  simp
 rw [e]
 refine wpIn_mono key fun e a w' hl=>?_
 obtain ⟨hs,D,env,rfl,hl⟩:=hl
 cases e <;> first | exact hl.elim | skip
 all_goals exact leaveM_sound D env w' hs hl
end
end Go.Ev
