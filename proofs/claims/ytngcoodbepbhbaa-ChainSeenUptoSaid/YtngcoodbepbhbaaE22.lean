/- What All's answer does; ranges over it / ChainSeen: a step that is told, whatever room there is / ChainSeen: a range over a list's All whose body does what it likes with the list / ChainSeen: a round of the range / ChainSeen: the range / ChainSeen: the range ('over') / ChainSeen: the beginning. No condition but that these are ones. -/
import Derived.Test.YtngcoodbepbhbaaE20
import Derived.Test.YtngcoodbepbhbaaE21
set_option linter.all false
set_option maxRecDepth 1000000
namespace Go.Ev
open Go.Proofs
section
variable {h h' h2 h0 h1:Hp} {q q' q2:HQ} {s s' s2:RS} {nd nd' nd2:List NodeD} {n:NodeD} {id lb hn:Nat} {L L' L2:LD} {R:Value→Hp→Prop} {b:List Nat} {ids:List Nat} {lim:Nat} {a:Sl} {sls:List Sl} {rows w:List (List Nat)} {M:Mem} {cs:List Nat} {r:List Nat} {c:Nat}
/-- An object that is no block of cells turns. -/
theorem kept_obj {l:Nat} {o:Obj} (hl:l < h.size):Kept (fun b=>b=l) h (h.setIfInBounds l o) :=
 ⟨by simp,fun j hj hne=>by rw [Array.getElem?_setIfInBounds_ne (Ne.symm hne)]⟩
theorem obj_lt {l:Nat} {o:Obj} (hl:h[l]?=some o):l < h.size:=(Array.getElem?_eq_some_iff.1 hl).1
theorem obj_set {l:Nat} {o:Obj} (hl:l < h.size):(h.setIfInBounds l o)[l]?=some o:=by simp [hl]
theorem kept_obj_at {S:Nat→Prop} (k:Kept S h h') {l:Nat} {o:Obj} (hl:h[l]?=some o) (hn:¬ S l):h'[l]?=some o:=(k.2 l (obj_lt hl) hn).trans hl
theorem row_ne_loop {l b:Nat} {cs:List Value} {r:Loop} (hr:Row h b cs) (hl:h[l]?=some (.loop r)):b ≠ l:=by
 rintro rfl
 obtain ⟨t,ht⟩:=hr
 rw [ht] at hl
 cases hl
/-- A range over a list's All, from the iterator's side. -/
theorem all_ok (o:Opn h q s nd lb hn L) {c0:Addr} (hc:cell h c0=some (.pointer (some (ad lb)))) {l:Nat} (J:Nat→Sl→Mem→List Nat→Hp→Prop)
  (hst:∀ a M cs h1,RowsAt h h1 a M cs L.rows→Kept N h h1→J 0 a M cs h1)
  (hround:∀ k a M cs h2 c r,J k a M cs h2→L.rows[k]?=some r→cs[k]?=some c→RowsAt h h2 a M cs L.rows∧(Row h2 c (r.map bv)→YieldTo Try.prog l [.int .i64 (k:Nat),.slice (some (ad c)) r.length r.length] h2 fun v h3=>(v=.bool true∧J (k + 1) a M cs h3) ∨ (v=.bool false∧R (.tuple #[]) h3)))
  (hend:∀ a M cs h2,J L.rows.length a M cs h2→R (.tuple #[]) h2) :
  CallTo Try.prog 62 #[.func (.yield l) #[] #[],.pointer (some c0)] h R:=by
 have ol:=o.len
 refine f62F_ok ?_
 unfold f62F
 refine ⟨_,hc,_,hc,llen o ⟨_,rfl,⟨_,hc,rfl⟩,lslice o ⟨by omega,by omega⟩ (fun hb=>absurd ⟨by omega,by omega,by omega,by omega⟩ hb) fun a M cs h1 _ ra k1=>⟨_,_,rfl,?_⟩⟩⟩
 have e0:(L.rows.drop (0:Int).toNat).take ((L.rows.length:Nat):Int).toNat=L.rows:=by
  show (L.rows.drop 0).take _=_
  rw [List.drop_zero,Int.toNat_natCast,List.take_length]
 rw [e0] at ra
 have an:=ra.n_eq
 refine f62L1_rule (s14:=a) (fun p s0 s14 s15 s16 h2=>∃ k:Nat,k ≤ L.rows.length∧p=L.rows.length - k∧.func (.yield l) #[] #[]=s0∧a=s14∧s15=((L.rows.length:Nat):Int)∧s16=(k:Int)∧J k a M cs h2) L.rows.length
  ⟨0,Nat.zero_le _,rfl,rfl,rfl,by rw [an],rfl,hst a M cs h1 ra k1⟩ ?_
 rintro p s0 s14 s15 s16 g h2 ⟨k,hk,rfl,rfl,rfl,rfl,rfl,hJ⟩
 unfold f62L1
 refine Cond_dec (fun hlt=>?_) fun hge=>?_
 ·have hkl:k < L.rows.length:=by omega
  have hr:L.rows[k]?=some (L.rows[k]'hkl):=List.getElem?_eq_getElem hkl
  generalize L.rows[k]'hkl=r at hr
  have hcl:k < cs.length:=by rw [ra.len]; exact hkl
  obtain ⟨ra2,hy⟩:=hround k a M cs h2 _ r hJ hr (List.getElem?_eq_getElem hcl)
  obtain ⟨c,bk,hcs,ha,hc2,row,hka⟩:=ra2.get hr
  rw [List.getElem?_eq_getElem hcl] at hcs
  obtain rfl:=Option.some.inj hcs
  refine ⟨⟨by omega,by omega⟩,PtrOk_of ha ⟨⟨_,_,_⟩,by rw [Int.toNat_natCast]; exact hc2,.inr ⟨l,rfl,?_⟩⟩⟩
  refine fun w hw=>?_
  obtain ⟨fn,tmps,ac,bd,e1,e2⟩:=hy row w hw
  refine ⟨fn,tmps,ac,bd,e1,e2.mono fun e w' ⟨v,he,hs,hv⟩=>⟨v,he,hs,?_⟩⟩
  rcases hv with ⟨rfl,hJ'⟩ | ⟨rfl,hR⟩
  ·exact ⟨true,rfl,Cond_f rfl ⟨L.rows.length - (k + 1),by omega,k + 1,hkl,rfl,rfl,rfl,rfl,by rw [wrap_i64' (by omega) (by omega)]; rfl,hJ'⟩⟩
  ·exact ⟨false,rfl,Cond_t rfl hR⟩
 ·obtain rfl:k=L.rows.length:=by omega
  exact hend a M cs h2 hJ
/-- Such a range over a list that is closed. -/
theorem all0_ok (l:Lst h q lb 0) {c0:Addr} (hc:cell h c0=some (.pointer (some (ad lb)))) {yl:Nat} (hR:R (.tuple #[]) h):CallTo Try.prog 62 #[.func (.yield yl) #[] #[],.pointer (some c0)] h R:=by
 refine f62F_ok ?_
 unfold f62F
 refine ⟨_,hc,_,hc,llen0 l ⟨_,rfl,⟨_,hc,rfl⟩,?_⟩⟩
 refine f15F_ok ?_
 unfold f15F
 refine lspan0 l ⟨_,rfl,Cond_t rfl ⟨⟨none,0,0⟩,_,rfl,?_⟩⟩
 refine f62L1_rule (s14:=⟨none,0,0⟩) (fun p s0 s14 s15 s16 h2=>s15=0∧s16=0∧h=h2) 0 ⟨rfl,rfl,rfl⟩ ?_
 rintro p s0 s14 s15 s16 g h2 ⟨rfl,rfl,rfl⟩
 unfold f62L1
 exact Cond_f rfl hR
/-- Three bytes that are a number's own. -/
def th (i:Int):List Nat:=[byt i,byt (hi8 i),byt (Int.fdiv i (2 ^ (min (16:Int).toNat (IntKind.bits .i64))))]
end
end Go.Ev
set_option linter.all false
set_option maxRecDepth 1000000
namespace Go.Ev
open Go.Proofs
section
variable {h h' h2 h0 h1:Hp} {q q' q2:HQ} {s s' s2:RS} {nd nd' nd2:List NodeD} {n:NodeD} {id lb hn:Nat} {L L' L2:LD} {R:Value→Hp→Prop} {b:List Nat} {ids:List Nat} {lim:Nat} {a:Sl} {sls:List Sl} {rows:List (List Nat)} {M:Mem} {cs:List Nat} {r:List Nat} {c:Nat} {w:Sl} {l:List Nat}
theorem told_any (o:Opn h q s nd lb hn L) {a:Sl} (sr:Src h q a b) (hbl:b.length < 140737488355328) (hrl:s.roots.length < 99999999) {k x1 x2 i m:Int} {fr:Bool}
  (hk:-9223372036854775808 ≤ k∧k < 9223372036854775808) (hi:-9223372036854775808 ≤ i∧i < 9223372036854775808) (hm:-9223372036854775808 ≤ m∧m < 9223372036854775808)
  (hR:∀ h' q' s' nd' L' (w:Sl),Aft h q s nd L h' q' s' nd' L'→R (.slice w.a w.n w.c) h') :
  CallTo Try.prog 33 #[.pointer (some (ad lb)),.agg #[.int .i64 k,.int .i64 x1,.int .i64 x2,.bool fr,.int .i64 i,.int .i64 m,.slice a.a a.n a.c]] h R:=by
 refine f33F_ok ?_
 unfold f33F
 refine Let_mk fun h1 e1=>?_
 have k1:Kept N h h1:=e1 ▸ kept_push _ _ _
 have row1:Row h1 h.size [.int .i64 k,.int .i64 x1,.int .i64 x2,.bool fr,.int .i64 i,.int .i64 m,.slice a.a a.n a.c]:=e1 ▸ row_new h #[.int .i64 k,.int .i64 x1,.int .i64 x2,.bool fr,.int .i64 i,.int .i64 m,.slice a.a a.n a.c] _
 rw [show nb h=ad h.size from rfl]
 refine ⟨k,cell_row row1 0,Let_mk fun h2 e2=>?_⟩
 have k2:Kept N h1 h2:=e2 ▸ kept_push _ _ _
 have row2:Row h2 h1.size [.int .u8 (IntKind.wrap .u8 k)]:=e2 ▸ row_new h1 #[.int .u8 (IntKind.wrap .u8 k)] _
 rw [show nb h1=ad h1.size from rfl]
 have k12:=kept_tr k1 k2
 have o2:=o.keepN k12
 have row:=kept_row k2 row1 _root_.id
 have cl:∀ (j:Nat) (v:Value),[Value.int .i64 k,.int .i64 x1,.int .i64 x2,.bool fr,.int .i64 i,.int .i64 m,.slice a.a a.n a.c][j]?=some v→cell h2 ((ad h.size).add j)=some v:=fun j v hv=>by
  rw [add_ad]; exact (cell_row row j).trans hv
 refine ⟨k,cell_row row 0,?_⟩
 have sr2:Src h2 q a b:=sr.ex (Ex.of_kept k12 fun b hb=>o.g.st.fr hb)
 have by0:∃ M,By h h2 q M ⟨some (ad h1.size),1,1⟩ [byt k]:=by
  refine ⟨⟨fun y=>if y=0 then some h1.size else none,fun y=>[bv (byt k)]⟩,⟨fun y c hy=>?_,fun y z c hy hz=>?_⟩,⟨rfl,fun e=>?_,fun c e=>?_⟩,?_⟩
  ·have hy:(if y=0 then some h1.size else none)=some c:=hy
   split at hy
   ·obtain rfl:=Option.some.inj hy
    rw [← bv_byt]; exact row2
   ·cases hy
  ·have hy:(if y=0 then some h1.size else none)=some c:=hy
   have hz:(if z=0 then some h1.size else none)=some c:=hz
   split at hy
   ·split at hz
    ·omega
    ·cases hz
   ·cases hy
  ·cases e
  ·obtain rfl:=Option.some.inj e
   exact ⟨rfl,Nat.le_refl _,[],rfl,rfl⟩
  ·rintro c ⟨y,hy⟩
   have hy:(if y=0 then some h1.size else none)=some c:=hy
   split at hy
   ·obtain rfl:=Option.some.inj hy
    exact ⟨k1.1,o.g.st.fr k1.1⟩
   ·cases hy
 obtain ⟨M,by0⟩:=by0
 -- a call is done, some bytes more are told
 have fin:∀ {g:Hp} {q' s' nd' L'} (l2:List Int),Aft h2 q s nd L g q' s' nd' L'→l2.length ≤ 4→∀ {t e:TypeId} {K:Option Addr→Nat→Nat→Hp→Prop},
   (∀ g1,Kept N g g1→Aft h q s nd L g1 q' s' nd' L'→∀ a' c' h4 M',By h h4 q' M' ⟨a',1 + l2.length,c'⟩ (byt k :: l2.map byt)→Kept M.own g1 h4→(∀ b,M'.own b→M.own b ∨ g1.size ≤ b)→Aft h q s nd L h4 q' s' nd' L'→K a' (1 + l2.length) c' h4) →
   Let (g.push (.cells (l2.map fun v=>Value.int .u8 (IntKind.wrap .u8 v)).toArray t)) fun h5=>appSl e 1 1 #[.int .u8 0] (some (ad h1.size)) 1 1 (some (nb g)) l2.length h5 K:=fun {g q' s' nd' L'} l2 af hl2 {t e K} hK=>Let_mk fun h5 e5=>by
  have k5:Kept N g h5:=e5 ▸ kept_push _ _ _
  have row5:Row h5 g.size (l2.map fun v=>Value.int .u8 (IntKind.wrap .u8 v)):=e5 ▸ row_new g (l2.map fun v=>Value.int .u8 (IntKind.wrap .u8 v)).toArray _
  have em:(l2.map fun v=>Value.int .u8 (IntKind.wrap .u8 v))=(l2.map byt).map bv:=by rw [List.map_map]; exact List.map_congr_left fun v _=>bv_byt v
  rw [em] at row5
  have by5:=(by0.ex af.ex).keepN k5
  have af5:=(Aft.pre k12 o.g af).keepN k5
  have hsz:=af5.ex.2.1
  refine by5.addn (w:=⟨some (ad h1.size),1,1⟩) (l2:=l2.map byt) (fun b hb=>af5.g.st.fr hb) hsz (row_reads row5) (by simp) (by simp; omega) fun a' c' h4 M' by4 k4 own4=>?_
  exact hK h5 k5 af5 a' c' h4 M' by4 k4 own4 (af5.keepO k4 fun b hb=>by5.own b hb)
 -- and that is all
 have all:∀ {g:Hp} {q' s' nd' L'} (l2:List Int),Aft h2 q s nd L g q' s' nd' L'→l2.length ≤ 4→∀ {t e:TypeId},
   Let (g.push (.cells (l2.map fun v=>Value.int .u8 (IntKind.wrap .u8 v)).toArray t)) fun h5=>appSl e 1 1 #[.int .u8 0] (some (ad h1.size)) 1 1 (some (nb g)) l2.length h5 fun ra rn rc h6=>R (.slice ra rn rc) h6:=fun {g q' s' nd' L'} l2 af hl2 {t e} =>
  fin l2 af hl2 fun g1 kg af1 a' c' h4 M' by4 k4 own4 af4=>hR h4 q' s' nd' L' ⟨a',1 + l2.length,c'⟩ af4
 -- bytes of a block of the call's are told too
 have all2:∀ {g:Hp} {q' s' nd' L'} (l2:List Int) (a2:Sl) (r:List Nat),Aft h2 q s nd L g q' s' nd' L'→l2.length ≤ 4→ReadsO g a2.a (r.map bv)→a2.n=r.length→r.length ≤ 4096→(∀ p,a2.a=some p→h2.size ≤ p.block∧p.block < g.size)→∀ {t e e2:TypeId},
   Let (g.push (.cells (l2.map fun v=>Value.int .u8 (IntKind.wrap .u8 v)).toArray t)) fun h5=>appSl e 1 1 #[.int .u8 0] (some (ad h1.size)) 1 1 (some (nb g)) l2.length h5 fun ra rn rc h6=>appSl e2 1 1 #[.int .u8 0] ra rn rc a2.a a2.n h6 fun ra rn rc h7=>R (.slice ra rn rc) h7:=fun {g q' s' nd' L'} l2 a2 r af hl2 rd hn hr hp {t e e2}=>by
  refine fin l2 af hl2 fun g1 kg af1 a' c' h4 M' by4 k4 own4 af4=>?_
  have rd4:ReadsO h4 a2.a (r.map bv):=reads_kept2 k4 (reads_keptN kg rd) fun p hpa hn'=>⟨Nat.lt_of_lt_of_le (hp p hpa).2 kg.1,fun ho=>by have:=by0.sep.own_lt ho; have:=(hp p hpa).1; omega⟩
  refine by4.addn (w:=⟨a',1 + l2.length,c'⟩) (fun b hb=>af4.g.st.fr hb) af4.ex.2.1 rd4 hn (by simp; omega) fun a'' c'' h6 M'' by6 k6 own6=>?_
  exact hR h6 q' s' nd' L' ⟨a'',1 + l2.length + a2.n,c''⟩ (af4.keepO k6 fun b hb=>by4.own b hb)
 have stay:Aft h2 q s nd L h2 q s nd L:=Aft.refl o2 o2.g (Ex.refl _ _)
 have rl4:∀ r ∈ L.rows,r.length ≤ 4096:=fun r hr=>by
  obtain ⟨j,hj⟩:=List.mem_iff_getElem?.1 hr
  exact (o.c.bn j r hj).2.len
 by_cases hk5:k=5
 ·subst hk5
  refine Cond_t rfl ⟨fr,cl 3 _ rfl,a,cl 6 _ rfl,lpush o2 sr2 hbl hrl (fun hl h' q' af=>⟨_,rfl,lnum ⟨_,rfl,all [41] af (by simp)⟩⟩) (fun hl h' q' s' nd' af _=>⟨_,rfl,lnum ⟨_,rfl,all [31] af (by simp)⟩⟩) fun h' q' s' nd' L' ok af er _=>⟨_,rfl,lnum ⟨_,rfl,all [0] af (by simp)⟩⟩⟩
 refine Cond_f (by rw [beq_eq_false_iff_ne]; exact hk5) ?_
 by_cases hk8:k=8
 ·subst hk8
  refine Cond_t rfl ⟨i,cl 4 _ rfl,a,cl 6 _ rfl,lsetr o2 sr2 hbl hi (fun hin=>⟨_,rfl,lnum ⟨_,rfl,all [52] stay (by simp)⟩⟩) (fun hin hl h' q' af=>⟨_,rfl,lnum ⟨_,rfl,all [41] af (by simp)⟩⟩) (fun _ hl h' q' s' af _=>⟨_,rfl,lnum ⟨_,rfl,all [31] af (by simp)⟩⟩) fun h' q' s' nd' L' hin ok af _ er _=>⟨_,rfl,lnum ⟨_,rfl,all [0] af (by simp)⟩⟩⟩
 refine Cond_f (by rw [beq_eq_false_iff_ne]; exact hk8) ?_
 by_cases hk9:k=9
 ·subst hk9
  refine Cond_t rfl ⟨i,cl 4 _ rfl,a,cl 6 _ rfl,linsert o2 sr2 hbl hrl hi (fun hin=>⟨_,rfl,lnum ⟨_,rfl,all [52] stay (by simp)⟩⟩) (fun hin hl h' q' af=>⟨_,rfl,lnum ⟨_,rfl,all [41] af (by simp)⟩⟩) (fun _ hl h' q' s' nd' af _=>⟨_,rfl,lnum ⟨_,rfl,all [31] af (by simp)⟩⟩) fun h' q' s' nd' L' hin ok af er _=>⟨_,rfl,lnum ⟨_,rfl,all [0] af (by simp)⟩⟩⟩
 refine Cond_f (by rw [beq_eq_false_iff_ne]; exact hk9) ?_
 by_cases hk10:k=10
 ·subst hk10
  refine Cond_t rfl ⟨i,cl 4 _ rfl,m,cl 5 _ rfl,lcut o2 hi (fun hin=>⟨_,rfl,lnum ⟨_,rfl,all [52] stay (by simp)⟩⟩) fun h' q' s' nd' L' hin af _ er=>⟨_,rfl,lnum ⟨_,rfl,all [0] af (by simp)⟩⟩⟩
 refine Cond_f (by rw [beq_eq_false_iff_ne]; exact hk10) ?_
 by_cases hk6:k=6
 ·subst hk6
  refine Cond_t rfl ⟨fr,cl 3 _ rfl,lpop o2 (fun hemp=>⟨⟨_,_,_⟩,_,rfl,lnum ⟨_,rfl,all2 [53] ⟨none,0,0⟩ [] stay (by simp) rfl rfl (by simp) (fun p hp=>by cases hp)⟩⟩) fun r c h' q' s' nd' L' hr af _ er row hc ho=>⟨⟨_,_,_⟩,_,rfl,lnum ⟨_,rfl,all2 [0] ⟨some (ad c),r.length,r.length⟩ r af (by simp) (row_reads row) rfl (rl4 r (List.mem_of_getElem? hr)) (fun p hp=>?_)⟩⟩⟩
  ·obtain rfl:=Option.some.inj hp
   exact ⟨hc,row_lt row⟩
 refine Cond_f (by rw [beq_eq_false_iff_ne]; exact hk6) ?_
 by_cases hk7:k=7
 ·subst hk7
  refine Cond_t rfl ⟨i,cl 4 _ rfl,lgetr o2 hi (fun hin=>⟨⟨_,_,_⟩,_,rfl,lnum ⟨_,rfl,all2 [52] ⟨none,0,0⟩ [] stay (by simp) rfl rfl (by simp) (fun p hp=>by cases hp)⟩⟩) fun r c h' hin hr row hc kk=>⟨⟨_,_,_⟩,_,rfl,lnum ⟨_,rfl,all2 [0] ⟨some (ad c),r.length,r.length⟩ r (stay.keepN kk) (by simp) (row_reads row) rfl (rl4 r (List.mem_of_getElem? hr)) (fun p hp=>?_)⟩⟩⟩
  ·obtain rfl:=Option.some.inj hp
   exact ⟨hc,row_lt row⟩
 refine Cond_f (by rw [beq_eq_false_iff_ne]; exact hk7) ?_
 by_cases hk11:k=11
 ·subst hk11
  refine Cond_t rfl ⟨fr,cl 3 _ rfl,m,cl 5 _ rfl,a,cl 6 _ rfl,lstrike o2 hm sr2 fun h' q' s' nd' L' af _ er=>⟨_,_,rfl,lnum ⟨_,rfl,by omega,all [0,_,hi8 _] af (by simp)⟩⟩⟩
 refine Cond_f (by rw [beq_eq_false_iff_ne]; exact hk11) ?_
 by_cases hk12:k=12
 ·subst hk12
  have loop:∀ {g:Hp} {q':HQ} {s':RS} {nd':List NodeD} {L':LD} {a2:Sl} {Mr:Mem} {cs:List Nat} {T:List (List Nat)} {w:Sl} {M1:Mem} {l0:List Nat},By h g q' M1 w (byt 12 :: l0)→RowsAt h2 g a2 Mr cs T→(∀ b,M1.own b→¬ Mr.own b)→Aft h q s nd L g q' s' nd' L'→l0.length ≤ 4→T.length ≤ 2097152→(∀ r ∈ T,r.length ≤ 4096) →
    LoopEv (evC Try.prog tab lv33 (sub [1,1,0,1,0,1,1,1,1,1,1,1,1,1,1,1,1,1,1,1,0,1,1,1,0,0] body33)) (contAt Try.prog tab lv33 [1,1,0,1,0,1,1,1,1,1,1,1,1,1,1,1,1,1,1,1,0,1,1,1,0] body33 [] (bodyK Try.prog Try.f33 [] R)) [(5,.slice w.a w.n w.c),(16,.slice a2.a a2.n a2.c),(18,.int .i64 0)] 207 g:=fun {g q' s' nd' L' a2 Mr cs T w M1 l0} byg ra hd af hl0 hT hT4=>by
   have an:=ra.n_eq
   refine f33L1_rule (s5:=w) (s16:=a2) (fun p s5 s16 s18 h4=>∃ (j:Nat) (M2:Mem),j ≤ T.length∧p=T.length - j∧a2=s16∧s18=(j:Int)∧By h h4 q' M2 s5 ((byt 12 :: l0) ++ told2 (T.take j))∧RowsAt h2 h4 a2 Mr cs T∧(∀ b,M2.own b→¬ Mr.own b)∧Aft h q s nd L h4 q' s' nd' L') T.length
    ⟨0,M1,Nat.zero_le _,rfl,rfl,rfl,by simpa [told2] using byg,ra,hd,af⟩ ?_
   rintro p s5 s16 s18 g0 h4 ⟨j,M2,hj,rfl,rfl,rfl,by4,ra4,hd4,af4⟩
   unfold f33L1
   rw [an]
   refine Cond_dec (fun hlt=>?_) fun hge=>?_
   ·have hjl:j < T.length:=by omega
    have hTj:T[j]?=some (T[j]'hjl):=List.getElem?_eq_getElem hjl
    generalize T[j]'hjl=r at hTj
    have hr4:=hT4 r (List.mem_of_getElem? hTj)
    obtain ⟨c,bk,hcs,ha,hc2,row,_⟩:=ra4.get hTj
    have tl:=told2_le (rows:=T.take j) fun r hr=>hT4 r (List.mem_of_mem_take hr)
    have hjt:(T.take j).length ≤ 2097152:=by rw [List.length_take]; omega
    have bnd:(0:Int) ≤ (j:Int)∧(j:Int) < ((T.length:Nat):Int):=⟨by omega,by omega⟩
    refine ⟨bnd,PtrOk_of ha ⟨⟨_,_,_⟩,by rw [Int.toNat_natCast]; exact hc2,bnd,PtrOk_of ha ⟨⟨_,_,_⟩,by rw [Int.toNat_natCast]; exact hc2,by omega,Let_mk fun h5 e5=>?_⟩⟩⟩
    have k5:Kept N h4 h5:=e5 ▸ kept_push _ _ _
    have row5:Row h5 h4.size [.int .u8 (IntKind.wrap .u8 ((r.length:Nat):Int)),.int .u8 (IntKind.wrap .u8 (hi8 ((r.length:Nat):Int)))]:=e5 ▸ row_new h4 #[.int .u8 (IntKind.wrap .u8 ((r.length:Nat):Int)),.int .u8 (IntKind.wrap .u8 (hi8 ((r.length:Nat):Int)))] _
    rw [bv_byt,bv_byt] at row5
    have af5:=af4.keepN k5
    refine (by4.keepN k5).addn (l2:=[byt (r.length:Nat),byt (hi8 (r.length:Nat))]) (fun b hb=>af5.g.st.fr hb) af5.ex.2.1 (row_reads row5) rfl (by simp; omega) fun a6 c6 h6 M6 by6 k6 own6=>?_
    have ra5:=ra4.keepN k5
    have ra6:=ra5.keep k6 fun b hb ho=>hd4 b ho hb
    have hd6:∀ b,M6.own b→¬ Mr.own b:=fun b hb hr'=>(own6 b hb).elim (fun z=>hd4 b z hr') fun z=>by have:=ra5.sep.own_lt hr'; omega
    have af6:=af5.keepO k6 fun b hb=>by4.own b hb
    obtain ⟨c',bk',hcs',ha',hc2',row',_⟩:=ra6.get hTj
    refine ⟨bnd,PtrOk_of ha' ⟨⟨_,_,_⟩,by rw [Int.toNat_natCast]; exact hc2',?_⟩⟩
    refine by6.addn (w:=⟨a6,s5.n + 2,c6⟩) (l2:=r) (fun b hb=>af6.g.st.fr hb) af6.ex.2.1 (row_reads row') rfl (by simp; omega) fun a7 c7 h7 M7 by7 k7 own7=>?_
    refine ⟨T.length - (j + 1),by omega,j + 1,M7,hjl,rfl,rfl,by rw [wrap_i64' (by omega) (by omega)]; rfl,?_,ra6.keep k7 fun b hb ho=>hd6 b ho hb,fun b hb hr'=>(own7 b hb).elim (fun z=>hd6 b z hr') fun z=>(by have:=ra6.sep.own_lt hr'; omega),af6.keepO k7 fun b hb=>by6.own b hb⟩
    rw [told2_take hTj,← List.append_assoc,← List.append_assoc]
    exact by7
   ·obtain rfl:j=T.length:=by omega
    exact hR h4 q' s' nd' L' s5 af4
  refine Cond_t rfl ⟨i,cl 4 _ rfl,m,cl 5 _ rfl,lslice o2 hi (fun hin=>⟨⟨_,_,_⟩,_,rfl,lnum ⟨_,rfl,by omega,?_⟩⟩) fun a2 Mr cs h' hin ra kk=>⟨_,_,rfl,lnum ⟨_,rfl,by omega,?_⟩⟩⟩
  ·refine fin [52,((0:Nat):Int),hi8 ((0:Nat):Int)] stay (by simp) fun g1 kg af1 a' c' h4 M' by4 k4 own4 af4=>?_
   refine loop (w:=⟨a',1 + 3,c'⟩) (a2:=⟨none,0,0⟩) (T:=[]) (l0:=[(52:Int),((0:Nat):Int),hi8 ((0:Nat):Int)].map byt) by4 (RowsAt.nil h2 h4) (fun b hb ⟨y,hy⟩=>by cases hy) af4 (by simp) (by simp) (by simp)
  ·have ol:=o.len
   refine fin [0,((a2.n:Nat):Int),hi8 ((a2.n:Nat):Int)] (stay.keepN kk) (by simp) fun g1 kg af1 a' c' h4 M' by4 k4 own4 af4=>?_
   have hdis:∀ b,M.own b→¬ Mr.own b:=fun b hb hr'=>by have:=by0.sep.own_lt hb; have:=ra.new b hr'; omega
   refine loop (w:=⟨a',1 + 3,c'⟩) (l0:=[(0:Int),((a2.n:Nat):Int),hi8 ((a2.n:Nat):Int)].map byt) by4 ((ra.keepN kg).keep k4 fun b hb ho=>hdis b ho hb) (fun b hb hr'=>(own4 b hb).elim (fun z=>hdis b z hr') fun z=>by have:=(ra.keepN kg).sep.own_lt hr'; omega) af4 (by simp) (by rw [List.length_take,List.length_drop]; omega) fun r hr=>rl4 r (List.mem_of_mem_drop (List.mem_of_mem_take hr))
 refine Cond_f (by rw [beq_eq_false_iff_ne]; exact hk12) ?_
 by_cases hk4:k=4
 ·subst hk4
  exact Cond_t rfl (llen o2 ⟨_,rfl,by omega,all [((L.rows.length:Nat):Int),hi8 ((L.rows.length:Nat):Int)] stay (by simp)⟩)
 refine Cond_f (by rw [beq_eq_false_iff_ne]; exact hk4) ?_
 exact hR h2 q s nd L ⟨some (ad h1.size),1,1⟩ (Aft.pre k12 o.g stay)
end
end Go.Ev
set_option linter.all false
set_option maxRecDepth 1000000
namespace Go.Ev
open Go.Proofs
/-- A round's end. -/
def f37T (s7 s8 s10 s12 s13 s15:Addr) (l:Nat) (h:Hp) (R:Value→Hp→Prop):Prop :=
 ∃ t49:Int,cell h s15=some (.int .i64 t49)∧stOk h s15∧Let (setc h s15 (.int .i64 (IntKind.wrap .i64 (t49 + (1:Int))))) fun h10=>∃ t51:Option Addr,cell h10 s7=some (.pointer t51)∧PtrOk t51 fun p52=>∃ t54:Option Addr,cell h10 p52=some (.pointer t54)∧CallTo Try.prog 31 #[.pointer t54] h10 fun r h11=>r=.tuple #[]∧∃ t56:Bool,cell h11 s13=some (.bool t56)∧Cond t56 (∃ t58:Int,cell h11 s15=some (.int .i64 t58)∧∃ t59:Sl,cell h11 s10=some (.slice t59.a t59.n t59.c)∧Cond (t58 == (((t59.n:Nat):Int))) (∃ t63:Option Addr,cell h11 s8=some (.pointer t63)∧CallTo Try.prog 38 #[.pointer t63] h11 fun r h12=>r=.tuple #[]∧∃ t65:Int,cell h12 s15=some (.int .i64 t65)∧∃ t66:Int,cell h12 s12=some (.int .i64 t66)∧Cond (t65 == t66) (EndR l R (some (.exit 0)) h12) (EndR l R none h12)) (∃ t65:Int,cell h11 s15=some (.int .i64 t65)∧∃ t66:Int,cell h11 s12=some (.int .i64 t66)∧Cond (t65 == t66) (EndR l R (some (.exit 0)) h11) (EndR l R none h11))) (∃ t65:Int,cell h11 s15=some (.int .i64 t65)∧∃ t66:Int,cell h11 s12=some (.int .i64 t66)∧Cond (t65 == t66) (EndR l R (some (.exit 0)) h11) (EndR l R none h11))
/-- A list that is closed; no handle is held. -/
structure Shut (h:Hp) (q:HQ) (s:RS) (nd:List NodeD) (lb:Nat) (lim:Nat):Prop where
 g:Gs h q s nd
 l:Lst h q lb 0
 rt:∀ j,s.roots.getD j none=none
 rl:s.roots.length ≤ 2
 lim:s.limit=lim
/-- A local of the range's. -/
def Lc (h:Hp) (q:HQ) (b:Nat) (cs:List Value):Prop:=Row h b cs∧q.role b=.out
section
variable {h h' h2 h0 h1:Hp} {q q' q2:HQ} {s s' s2:RS} {nd nd' nd2:List NodeD} {id lb hn lim:Nat} {L L' L2:LD} {R:Value→Hp→Prop} {b:List Nat} {rows w:List (List Nat)} {M:Mem} {cs:List Nat} {r:List Nat} {c vb l db b7 b8 b10 b11 b12 b13 b14 b15:Nat} {a a3 a4:Sl} {sls:List Sl} {ops:List OpD} {most:Int} {sh:Bool}
theorem Lc.ex {b:Nat} {cs:List Value} (x:Lc h q b cs) (e:Ex h q h' q'):Lc h' q' b cs:=⟨exrow e x.1 x.2,e.out (row_lt x.1) x.2⟩
theorem Lc.keep {b:Nat} {cs:List Value} {S:Nat→Prop} (x:Lc h q b cs) (k:Kept S h h') (hn:¬ S b):Lc h' q b cs:=⟨kept_row k x.1 hn,x.2⟩
theorem Lc.at {b:Nat} {cs:List Value} (x:Lc h q b cs) {j:Nat} {v:Value} (hj:cs[j]?=some v):cell h ((ad b).add j)=some v:=by rw [add_ad]; exact (cell_row x.1 j).trans hj
theorem Lc.at0 {b:Nat} {v:Value} {cs:List Value} (x:Lc h q b (v :: cs)):cell h (ad b)=some v:=(cell_row x.1 0).trans rfl
theorem Solo.writeS (x:Solo h q s nd lb L lim) {S:Nat→Prop} (k:Kept S h h') (ho:∀ b,S b→q.role b=.out) (hne:¬ S lb):Solo h' q s nd lb L lim :=
 ⟨⟨x.o.g.keepO k ho,⟨kept_row k x.o.l.row hne,x.o.l.out⟩,x.o.pos,x.o.lt,x.o.held,x.o.c⟩,x.rt,x.rl,x.lim⟩
theorem RL.keepS (x:RL h q a sls rows) {S:Nat→Prop} (k:Kept S h h') (hS:∀ p,a.a=some p→sls ≠ []→¬ S p.block) (hS2:∀ (i:Nat) (c:Sl) (r:List Nat),sls[i]?=some c→rows[i]?=some r→∀ p,c.a=some p→r ≠ []→¬ S p.block):RL h' q a sls rows :=
 ⟨reads_kept2 k x.rd fun p hp hn=>(have hn':sls ≠ []:=fun z=>hn (by rw [z]; rfl); ⟨(x.out p hp hn').2,hS p hp hn'⟩),x.n,x.len,
  fun i c r hc hr=>(have z:=x.each i c r hc hr; ⟨⟨reads_kept2 k z.1.rd fun p hp hn=>(have hn':r ≠ []:=fun e=>hn (by rw [e]; rfl); ⟨(z.1.out p hp hn').2,hS2 i c r hc hr p hp hn'⟩),z.1.n,z.1.b8,fun p hp hn=>⟨(z.1.out p hp hn).1,Nat.lt_of_lt_of_le (z.1.out p hp hn).2 k.1⟩⟩,z.2⟩),fun p hp hn=>⟨(x.out p hp hn).1,Nat.lt_of_lt_of_le (x.out p hp hn).2 k.1⟩⟩
/-- What the range leans on besides the list. hB: where its own blocks begin. -/
structure Env (hB h0 h:Hp) (q:HQ) (vb lb:Nat) (a3 a4:Sl) (sls:List Sl) (rows:List (List Nat)) (most:Int) (sh:Bool) (b7 b8 b10 b11 b12 b13 b14 b15:Nat) (k:Nat):Prop where
 l7:Lc h q b7 [.pointer (some (ad vb))]
 l8:Lc h q b8 [.pointer (some (ad lb))]
 l10:Lc h q b10 [.slice a3.a a3.n a3.c]
 l11:Lc h q b11 [.slice a4.a a4.n a4.c]
 l12:Lc h q b12 [.int .i64 most]
 l13:Lc h q b13 [.bool sh]
 l14:Lc h q b14 [.bool false]
 l15:Lc h q b15 [.int .i64 (k:Nat)]
 v:∃ cs,Lc h q vb (.pointer (some (ad q.hb)) :: cs)
 vl:vb < hB.size
 rl:RL h q a3 sls rows
 rlo:∀ p,a3.a=some p→sls ≠ []→p.block < hB.size
 rle:∀ (i:Nat) (c:Sl) (r:List Nat),sls[i]?=some c→rows[i]?=some r→∀ p,c.a=some p→r ≠ []→p.block < hB.size
 k0:Kept N h0 h
 f0:Frsh h0 q
theorem Env.ex {hB:Hp} {k:Nat} (x:Env hB h0 h q vb lb a3 a4 sls rows most sh b7 b8 b10 b11 b12 b13 b14 b15 k) (e:Ex h q h' q'):Env hB h0 h' q' vb lb a3 a4 sls rows most sh b7 b8 b10 b11 b12 b13 b14 b15 k :=
 ⟨x.l7.ex e,x.l8.ex e,x.l10.ex e,x.l11.ex e,x.l12.ex e,x.l13.ex e,x.l14.ex e,x.l15.ex e,(by obtain ⟨cs,y⟩:=x.v; exact ⟨cs,by rw [e.1]; exact y.ex e⟩),x.vl,x.rl.ex e,x.rlo,x.rle,x.f0.kept x.k0 e,x.f0.ex x.k0.1 e⟩
/-- Written at a place of the range's own that is no local. -/
theorem Env.keep {hB:Hp} {k:Nat} {t:Nat} (x:Env hB h0 h q vb lb a3 a4 sls rows most sh b7 b8 b10 b11 b12 b13 b14 b15 k) (e:Kept (fun b=>b=t) h h') (ht:hB.size ≤ t) (h0B:h0.size ≤ hB.size) (hn:∀ b cs,Lc h q b cs→b=b7 ∨ b=b8 ∨ b=b10 ∨ b=b11 ∨ b=b12 ∨ b=b13 ∨ b=b14 ∨ b=b15→b ≠ t):Env hB h0 h' q vb lb a3 a4 sls rows most sh b7 b8 b10 b11 b12 b13 b14 b15 k:=by
 have vl:=x.vl
 refine ⟨x.l7.keep e (hn _ _ x.l7 (by simp)),x.l8.keep e (hn _ _ x.l8 (by simp)),x.l10.keep e (hn _ _ x.l10 (by simp)),x.l11.keep e (hn _ _ x.l11 (by simp)),x.l12.keep e (hn _ _ x.l12 (by simp)),x.l13.keep e (hn _ _ x.l13 (by simp)),x.l14.keep e (hn _ _ x.l14 (by simp)),x.l15.keep e (hn _ _ x.l15 (by simp)),?_,vl,x.rl.keepS e (fun p hp hs=>?_) (fun i c r hc hr p hp hs=>?_),x.rlo,x.rle,?_,x.f0⟩
 ·obtain ⟨cs,y⟩:=x.v; exact ⟨cs,y.keep e (by show ¬ vb=t; omega)⟩
 ·have:=x.rlo p hp hs; show ¬ p.block=t; omega
 ·have:=x.rle i c r hc hr p hp hs; show ¬ p.block=t; omega
 ·exact ⟨Nat.le_trans x.k0.1 e.1,fun b hb _=>(e.2 b (Nat.lt_of_lt_of_le hb x.k0.1) (by show ¬ b=t; omega)).trans (x.k0.2 b hb _root_.id)⟩
/-- The counter goes on. -/
theorem Env.count {hB:Hp} {k:Nat} (x:Env hB h0 h q vb lb a3 a4 sls rows most sh b7 b8 b10 b11 b12 b13 b14 b15 k) (e:Kept (fun b=>b=b15) h h') (row:Row h' b15 [.int .i64 ((k + 1:Nat):Int)]) (ht:hB.size ≤ b15) (h0B:h0.size ≤ hB.size) (hd:b7 < b15∧b8 < b15∧b10 < b15∧b11 < b15∧b12 < b15∧b13 < b15∧b14 < b15):Env hB h0 h' q vb lb a3 a4 sls rows most sh b7 b8 b10 b11 b12 b13 b14 b15 (k + 1):=by
 have vl:=x.vl
 have ne:∀ {b},b < b15→¬ b=b15:=fun hb=>by omega
 refine ⟨x.l7.keep e (ne hd.1),x.l8.keep e (ne hd.2.1),x.l10.keep e (ne hd.2.2.1),x.l11.keep e (ne hd.2.2.2.1),x.l12.keep e (ne hd.2.2.2.2.1),x.l13.keep e (ne hd.2.2.2.2.2.1),x.l14.keep e (ne hd.2.2.2.2.2.2),⟨row,x.l15.2⟩,?_,vl,x.rl.keepS e (fun p hp hs=>?_) (fun i c r hc hr p hp hs=>?_),x.rlo,x.rle,?_,x.f0⟩
 ·obtain ⟨cs,y⟩:=x.v; exact ⟨cs,y.keep e (by show ¬ vb=b15; omega)⟩
 ·have:=x.rlo p hp hs; show ¬ p.block=b15; omega
 ·have:=x.rle i c r hc hr p hp hs; show ¬ p.block=b15; omega
 ·exact ⟨Nat.le_trans x.k0.1 e.1,fun b hb _=>(e.2 b (Nat.lt_of_lt_of_le hb x.k0.1) (by show ¬ b=b15; omega)).trans (x.k0.2 b hb _root_.id)⟩
/-- An object of the range's. -/
def Lo (h:Hp) (q:HQ) (b:Nat) (o:Obj):Prop:=h[b]?=some o∧q.role b=.out
theorem Lo.ex {b:Nat} {o:Obj} (x:Lo h q b o) (e:Ex h q h' q'):Lo h' q' b o:=⟨((e.2.2 b (obj_lt x.1) x.2).2).trans x.1,e.out (obj_lt x.1) x.2⟩
theorem Lo.keep {b:Nat} {o:Obj} {S:Nat→Prop} (x:Lo h q b o) (k:Kept S h h') (hn:¬ S b):Lo h' q b o:=⟨kept_obj_at k x.1 hn,x.2⟩
/-- What was there and is no part of the heap's is as it was, but for the list's own block. -/
def Kx (lb:Nat) (h:Hp) (q:HQ) (h':Hp) (q':HQ):Prop:=q'.hb=q.hb∧h.size ≤ h'.size∧∀ b,b < h.size→q.role b=.out→q'.role b=.out∧(b ≠ lb→h'[b]?=h[b]?)
theorem Kx.refl (h:Hp) (q:HQ):Kx lb h q h q:=⟨rfl,Nat.le_refl _,fun b _ ho=>⟨ho,fun _=>rfl⟩⟩
theorem Kx.ex (x:Kx lb h q h' q') (e:Ex h' q' h2 q2):Kx lb h q h2 q2:=⟨e.1.trans x.1,Nat.le_trans x.2.1 e.2.1,fun b hb ho=>(have y:=x.2.2 b hb ho; have z:=e.2.2 b (Nat.lt_of_lt_of_le hb x.2.1) y.1; ⟨z.1,fun hn=>z.2.trans (y.2 hn)⟩)⟩
theorem Kx.keep {S:Nat→Prop} (x:Kx lb h q h' q') (k:Kept S h' h2) (hS:∀ b,S b→b < h.size→b=lb):Kx lb h q h2 q':=⟨x.1,Nat.le_trans x.2.1 k.1,fun b hb ho=>(have y:=x.2.2 b hb ho; ⟨y.1,fun hn=>(k.2 b (Nat.lt_of_lt_of_le hb x.2.1) fun hs=>hn (hS b hs hb)).trans (y.2 hn)⟩)⟩
theorem Kx.row {b:Nat} {cs:List Value} (x:Kx lb h q h' q') (r:Lc h q b cs) (hn:b ≠ lb):Lc h' q' b cs:=(have y:=x.2.2 b (row_lt r.1) r.2; ⟨by obtain ⟨t,ht⟩:=r.1; exact ⟨t,(y.2 hn).trans ht⟩,y.1⟩)
theorem Solo.gc (x:Solo h q s nd lb L lim) (g:Gs h' q' s' nd) (er:s'.roots=s.roots) (el:s'.limit=s.limit) (ex:Ex h q h' q'):Solo h' q' s' nd lb L lim :=
 ⟨⟨g,x.o.l.ex ex,x.o.pos,x.o.lt,by rw [er]; exact x.o.held,x.o.c⟩,fun j=>by rw [er]; exact x.rt j,by rw [er]; exact x.rl,el.trans x.lim⟩
/-- Open or closed. -/
def OC (cl:Bool) (h:Hp) (q:HQ) (s:RS) (nd:List NodeD) (lb lim:Nat):Prop:=if cl=true then Shut h q s nd lb lim else ∃ L,Solo h q s nd lb L lim
theorem Solo.close (x:Solo h q s nd lb L lim) (hR:∀ h1 q1 s1 h2,Ex h q h1 q1→Kept (fun b=>b=lb) h1 h2→q1.role lb=.out→Shut h2 q1 s1 nd lb lim→R (.tuple #[]) h2):CallTo Try.prog 38 #[.pointer (some (ad lb))] h R :=
 lclose x.o fun h1 q1 s1 h2 ex k g al er l ho=>hR h1 q1 s1 h2 ex k ho ⟨g,l,fun j=>by
  rw [er]
  have hrt:=x.rt j
  by_cases hj:j=0
  ·subst hj
   show (s.roots.set (1 - 1) none).getD 0 none=none
   rw [dropL_get,if_pos rfl]
  ·show (s.roots.set (1 - 1) none).getD j none=none
   rw [dropL_get,if_neg (by omega),hrt,if_neg hj],by rw [er,List.length_set]; exact x.rl,al.lim.trans x.lim⟩
theorem RowsAt.keepL {hS:Hp} (x:RowsAt hS h a M cs rows) {t:Nat} (k:Kept (fun b=>b=t) h h') (ht:t < hS.size):RowsAt hS h' a M cs rows:=x.keep k fun b hb e=>by have:=x.new b hb; omega
end
end Go.Ev
set_option linter.all false
set_option maxRecDepth 1000000
namespace Go.Ev
open Go.Proofs
/-- The order of the range's own blocks. -/
structure Ord (h0 hB hS:Hp) (vb lb b7 b8 b10 b11 b12 b13 b14 b15 db l:Nat):Prop where
 o0:h0.size ≤ hB.size
 o1:h0.size ≤ lb
 o2:lb < hB.size
 o3:vb ≠ lb
 o4:hB.size ≤ b7
 o5:b7 < b8
 o6:b8 < b10
 o7:b10 < b11
 o8:b11 < b12
 o9:b12 < b13
 o10:b13 < b14
 o11:b14 < b15
 o12:b15 < db
 o13:db < l
 o14:l < hS.size
section
variable {h h' h2 h0 h1 hB hS:Hp} {q q' q2 qB:HQ} {s s' s2:RS} {nd nd' nd2:List NodeD} {id lb hn lim:Nat} {L L' L2:LD} {R:Value→Hp→Prop} {b:List Nat} {rows w T:List (List Nat)} {M:Mem} {cs:List Nat} {r:List Nat} {c vb l db b7 b8 b10 b11 b12 b13 b14 b15:Nat} {a a3 a4:Sl} {sls:List Sl} {ops:List OpD} {most:Int} {sh:Bool} {k:Nat} {rc:Loop}
/-- The list's own block turns. -/
theorem Env.shut (x:Env hB h0 h q vb lb a3 a4 sls rows most sh b7 b8 b10 b11 b12 b13 b14 b15 k) (e:Kept (fun b=>b=lb) h h') (d:Ord h0 hB hS vb lb b7 b8 b10 b11 b12 b13 b14 b15 db l)
  (n1:∀ p,a3.a=some p→sls ≠ []→p.block ≠ lb) (n2:∀ (i:Nat) (c:Sl) (r:List Nat),sls[i]?=some c→rows[i]?=some r→∀ p,c.a=some p→r ≠ []→p.block ≠ lb):Env hB h0 h' q vb lb a3 a4 sls rows most sh b7 b8 b10 b11 b12 b13 b14 b15 k:=by
 have o0:=d.o0; have o1:=d.o1; have o2:=d.o2; have o3:=d.o3; have o4:=d.o4; have o5:=d.o5; have o6:=d.o6; have o7:=d.o7; have o8:=d.o8; have o9:=d.o9; have o10:=d.o10; have o11:=d.o11
 have ne:∀ {b},lb < b→¬ b=lb:=fun hb=>by omega
 refine ⟨x.l7.keep e (ne (by omega)),x.l8.keep e (ne (by omega)),x.l10.keep e (ne (by omega)),x.l11.keep e (ne (by omega)),x.l12.keep e (ne (by omega)),x.l13.keep e (ne (by omega)),x.l14.keep e (ne (by omega)),x.l15.keep e (ne (by omega)),?_,x.vl,x.rl.keepS e n1 n2,x.rlo,x.rle,?_,x.f0⟩
 ·obtain ⟨cs,y⟩:=x.v; exact ⟨cs,y.keep e o3⟩
 ·exact ⟨Nat.le_trans x.k0.1 e.1,fun b hb _=>(e.2 b (Nat.lt_of_lt_of_le hb x.k0.1) (by show ¬ b=lb; omega)).trans (x.k0.2 b hb _root_.id)⟩
theorem rtail_ok (x:Solo h q s nd lb L lim) (e:Env hB h0 h q vb lb a3 a4 sls rows most sh b7 b8 b10 b11 b12 b13 b14 b15 k) (d:Ord h0 hB hS vb lb b7 b8 b10 b11 b12 b13 b14 b15 db l) (kx:Kx lb hB qB h q) (ra:RowsAt hS h a M cs T) (ro:∀ b,M.own b→q.role b=.out)
  (hl:Lo h q l (.loop rc)) (hd:Lo h q db (.deferred (some []))) (kb:k < 4000000000) (n1:sh=true→∀ p,a3.a=some p→sls ≠ []→p.block ≠ lb) (n2:sh=true→∀ (i:Nat) (c:Sl) (r:List Nat),sls[i]?=some c→rows[i]?=some r→∀ p,c.a=some p→r ≠ []→p.block ≠ lb)
  (hK:∀ h' q' s' cl,OC cl h' q' s' nd lb lim→Env hB h0 h' q' vb lb a3 a4 sls rows most sh b7 b8 b10 b11 b12 b13 b14 b15 (k + 1)→Kx lb hB qB h' q'→RowsAt hS h' a M cs T→(∀ b,M.own b→q'.role b=.out)→Lo h' q' l (.loop rc)→Lo h' q' db (.deferred (some []))→cl=(sh && decide (k + 1=rows.length))→EndR l R (if ((k + 1:Nat):Int)=most then some (.exit 0) else none) h') :
  f37T (ad b7) (ad b8) (ad b10) (ad b12) (ad b13) (ad b15) l h R:=by
 have o0:=d.o0; have o1:=d.o1; have o2:=d.o2; have o3:=d.o3; have o4:=d.o4; have o5:=d.o5; have o6:=d.o6; have o7:=d.o7; have o8:=d.o8; have o9:=d.o9; have o10:=d.o10; have o11:=d.o11; have o12:=d.o12; have o13:=d.o13; have o14:=d.o14
 unfold f37T
 have ek:IntKind.wrap .i64 (((k:Nat):Int) + (1:Int))=((k + 1:Nat):Int):=by rw [wrap_i64' (by omega) (by omega)]; omega
 refine ⟨_,e.l15.at0,row_st e.l15.1 (i:=0) rfl (by simp) fun h1 row1 k1=>?_⟩
 rw [ek] at row1
 have e1:=e.count k1 row1 (by omega) o0 ⟨by omega,by omega,by omega,by omega,by omega,by omega,by omega⟩
 have lbo:q.role lb=.out:=x.o.l.out
 have x1:=x.writeS k1 (fun b hb=>hb ▸ e.l15.2) (by show ¬ lb=b15; omega)
 have kx1:=kx.keep k1 fun b hb hlt=>by omega
 have ra1:=ra.keepL k1 (by omega)
 have hl1:=hl.keep k1 (by show ¬ l=b15; omega)
 have hd1:=hd.keep k1 (by show ¬ db=b15; omega)
 obtain ⟨vcs,hv⟩:=e1.v
 refine ⟨_,e1.l7.at0,PtrOk_mk ⟨_,hv.at0,q_collect x1.o.g fun h2 q2 s2 g2 er2 el2 ex2 _=>⟨rfl,?_⟩⟩⟩
 have e2:=e1.ex ex2
 have x2:=x1.gc g2 er2 el2 ex2
 have kx2:=kx1.ex ex2
 obtain ⟨ra2,ro2⟩:=ra1.ex ro ex2
 have hl2:=hl1.ex ex2
 have hd2:=hd1.ex ex2
 have rn:a3.n=rows.length:=by rw [e.rl.n,e.rl.len]
 -- the comparison with 'most'
 have cmp:∀ {g:Hp} {qg:HQ} {sg:RS} {cl:Bool},OC cl g qg sg nd lb lim→Env hB h0 g qg vb lb a3 a4 sls rows most sh b7 b8 b10 b11 b12 b13 b14 b15 (k + 1)→Kx lb hB qB g qg→RowsAt hS g a M cs T→(∀ b,M.own b→qg.role b=.out)→Lo g qg l (.loop rc)→Lo g qg db (.deferred (some []))→cl=(sh && decide (k + 1=rows.length)) →
   ∃ t65:Int,cell g (ad b15)=some (.int .i64 t65)∧∃ t66:Int,cell g (ad b12)=some (.int .i64 t66)∧Cond (t65 == t66) (EndR l R (some (.exit 0)) g) (EndR l R none g):=fun {g qg sg cl} oc eg kg rg og lg dg hc=>by
  have key:=hK g qg sg cl oc eg kg rg og lg dg hc
  refine ⟨_,eg.l15.at0,_,eg.l12.at0,?_⟩
  by_cases hm:((k + 1:Nat):Int)=most
  ·rw [if_pos hm] at key
   exact Cond_t (by rw [hm]; exact beq_self_eq_true _) key
  ·rw [if_neg hm] at key
   exact Cond_f (by rw [beq_eq_false_iff_ne]; exact hm) key
 refine ⟨_,e2.l13.at0,?_⟩
 have open2:∀ {cl:Bool},cl=false→OC cl h2 q2 s2 nd lb lim:=fun hc=>by subst hc; exact ⟨L,x2⟩
 cases sh with
 | false=>exact Cond_f rfl (cmp (cl:=false) (open2 rfl) e2 kx2 ra2 ro2 hl2 hd2 rfl)
 | true =>
  refine Cond_t rfl ⟨_,e2.l15.at0,_,e2.l10.at0,?_⟩
  by_cases hk:k + 1=rows.length
  ·refine Cond_t (by rw [rn,hk]; exact beq_self_eq_true _) ⟨_,e2.l8.at0,x2.close fun h3 q3 s3 h4 ex3 k4 lo3 sh4=>⟨rfl,?_⟩⟩
   have e3:=(e2.ex ex3).shut (hS:=hS) (db:=db) (l:=l) k4 d (n1 rfl) (n2 rfl)
   obtain ⟨ra3,ro3⟩:=ra2.ex ro2 ex3
   refine cmp (cl:=true) sh4 e3 ((kx2.ex ex3).keep k4 fun b hb _=>hb) (ra3.keepL k4 (by omega)) ro3 ((hl2.ex ex3).keep k4 (by show ¬ l=lb; omega)) ((hd2.ex ex3).keep k4 (by show ¬ db=lb; omega)) (by simp [hk])
  ·exact Cond_f (by rw [rn,beq_eq_false_iff_ne]; omega) (cmp (cl:=false) (open2 rfl) e2 kx2 ra2 ro2 hl2 hd2 (by simp [hk]))
end
end Go.Ev
set_option linter.all false
set_option maxRecDepth 1000000
namespace Go.Ev
open Go.Proofs
/-- Behind the range. -/
def f37N (s10 s12 s14 s15:Addr) (db:Nat) (h10:Hp) (R:Value→Hp→Prop):Prop :=
 ∃ t68:Int,cell h10 s15=some (.int .i64 t68)∧∃ t69:Sl,cell h10 s10=some (.slice t69.a t69.n t69.c)∧Cond (t68 == (((t69.n:Nat):Int))) (stOk h10 s14∧Let (setc h10 s14 (.bool true)) fun h11=>h11[db]?=some (.deferred (some []))∧Let (h11.setIfInBounds db (.deferred none)) fun h12=>∃ v0:Bool,cell h12 s14=some (.bool v0)∧R (.bool v0:Value) h12) (∃ t73:Int,cell h10 s15=some (.int .i64 t73)∧∃ t74:Int,cell h10 s12=some (.int .i64 t74)∧stOk h10 s14∧Let (setc h10 s14 (.bool (t73 == t74))) fun h13=>h13[db]?=some (.deferred (some []))∧Let (h13.setIfInBounds db (.deferred none)) fun h14=>∃ v0:Bool,cell h14 s14=some (.bool v0)∧R (.bool v0:Value) h14)
section
variable {h h' h2 h0 h1 hB hS:Hp} {q q' q2 qB:HQ} {s s' s2:RS} {nd nd' nd2:List NodeD} {id lb hn lim:Nat} {L L' L2:LD} {R:Value→Hp→Prop} {b:List Nat} {rows w T:List (List Nat)} {M:Mem} {cs:List Nat} {r:List Nat} {c vb cb l db b7 b8 b10 b11 b12 b13 b14 b15:Nat} {a a3 a4:Sl} {sls:List Sl} {ops:List OpD} {most:Int} {sh cl:Bool} {k:Nat} {rc:Loop}
theorem OC.write {t:Nat} (x:OC cl h q s nd lb lim) (k:Kept (fun b=>b=t) h h') (ho:q.role t=.out) (hn:lb ≠ t):OC cl h' q s nd lb lim:=by
 cases cl with
 | false =>
  obtain ⟨L,y⟩:=x
  exact ⟨L,y.writeS k (fun b hb=>hb ▸ ho) hn⟩
 | true =>
  have y:Shut h q s nd lb lim:=x
  exact ⟨y.g.keepO k fun b hb=>hb ▸ ho,⟨kept_row k y.l.row hn,y.l.out⟩,y.rt,y.rl,y.lim⟩
theorem fin37 (oc:OC cl h q s nd lb lim) (e:Env hB h0 h q vb lb a3 a4 sls rows most sh b7 b8 b10 b11 b12 b13 b14 b15 k) (d:Ord h0 hB hS vb lb b7 b8 b10 b11 b12 b13 b14 b15 db l) (kx:Kx lb hB qB h q) (hd:Lo h q db (.deferred (some []))) (hk:k=rows.length ∨ ((k:Nat):Int)=most)
  (hR:∀ h',OC cl h' q s nd lb lim→Kx lb hB qB h' q→R (.bool true) h'):f37N (ad b10) (ad b12) (ad b14) (ad b15) db h R:=by
 have o0:=d.o0; have o1:=d.o1; have o2:=d.o2; have o3:=d.o3; have o4:=d.o4; have o5:=d.o5; have o6:=d.o6; have o7:=d.o7; have o8:=d.o8; have o9:=d.o9; have o10:=d.o10; have o11:=d.o11; have o12:=d.o12; have o13:=d.o13; have o14:=d.o14
 unfold f37N
 have rn:a3.n=rows.length:=by rw [e.rl.n,e.rl.len]
 have last:∀ {bb:Bool},bb=true→∀ h1,Row h1 b14 [.bool bb]→Kept (fun b=>b=b14) h h1→h1[db]?=some (.deferred (some []))∧Let (h1.setIfInBounds db (.deferred none)) fun h2=>∃ v0:Bool,cell h2 (ad b14)=some (.bool v0)∧R (.bool v0) h2:=fun {bb} hb h1 row1 k1=>by
  subst hb
  have hd1:=hd.keep k1 (by show ¬ db=b14; omega)
  refine ⟨hd1.1,Let_mk fun h2 e2=>?_⟩
  have k2:Kept (fun b=>b=db) h1 h2:=e2 ▸ kept_obj (obj_lt hd1.1)
  refine ⟨true,(cell_row (kept_row k2 row1 (by show ¬ b14=db; omega)) 0).trans rfl,?_⟩
  exact hR h2 ((oc.write k1 e.l14.2 (by omega)).write k2 hd1.2 (by omega)) ((kx.keep k1 fun b hb hlt=>by omega).keep k2 fun b hb hlt=>by omega)
 refine ⟨_,e.l15.at0,_,e.l10.at0,?_⟩
 by_cases hkr:k=rows.length
 ·refine Cond_t (by rw [rn,hkr]; exact beq_self_eq_true _) (row_st e.l14.1 (i:=0) rfl (by simp) fun h1 row1 k1=>last rfl h1 row1 k1)
 ·refine Cond_f (by rw [rn,beq_eq_false_iff_ne]; omega) ⟨_,e.l15.at0,_,e.l12.at0,row_st e.l14.1 (i:=0) rfl (by simp) fun h1 row1 k1=>last ?_ h1 row1 k1⟩
  rw [hk.resolve_left hkr]
  exact beq_self_eq_true _
end
end Go.Ev
set_option linter.all false
set_option maxRecDepth 1000000
namespace Go.Ev
open Go.Proofs
section
variable {h h' h2 h0 h1 hB hS:Hp} {q q' q2 qB:HQ} {s s' s2:RS} {nd nd' nd2:List NodeD} {id lb hn lim:Nat} {L L' L2:LD} {R:Value→Hp→Prop} {b:List Nat} {rows w T:List (List Nat)} {M:Mem} {cs vcs:List Nat} {r:List Nat} {c vb cb l db b7 b8 b10 b11 b12 b13 b14 b15:Nat} {a a3 a4:Sl} {sls:List Sl} {ops:List OpD} {most:Int} {sh cl:Bool} {k:Nat} {rc:Loop} {vc:List Value}
/-- The range's state behind k rounds. -/
def OvJ (hB h0 hS:Hp) (qB:HQ) (vb lb lim:Nat) (a3 a4:Sl) (sls:List Sl) (rows:List (List Nat)) (most:Int) (sh:Bool) (b7 b8 b10 b11 b12 b13 b14 b15 db l:Nat) (rec:LoopState→Option Code→Loop) (k:Nat) (a:Sl) (M:Mem) (cs:List Nat) (h:Hp):Prop :=
 ∃ (q:HQ) (s:RS) (nd:List NodeD) (cl:Bool),OC cl h q s nd lb lim∧Env hB h0 h q vb lb a3 a4 sls rows most sh b7 b8 b10 b11 b12 b13 b14 b15 k∧Kx lb hB qB h q∧RowsAt hS h a M cs rows∧(∀ b,M.own b→q.role b=.out)∧Lo h q l (.loop (rec .ready none))∧Lo h q db (.deferred (some []))∧(cl=true→sh=true∧k=rows.length)
theorem over_ok (x:Solo h q s nd lb L lim) (hv:Lc h q vb (.pointer (some (ad q.hb)) :: vc)) (hcb:Lc h q cb [.pointer (some (ad lb))]) (rl:RL h q a3 sls L.rows) (y:Ops h0 a4 ops) (k0:Kept N h0 h) (f0:Frsh h0 q) (o1:h0.size ≤ lb) (vlb:vb ≠ lb)
  (n1:sh=true→∀ p,a3.a=some p→sls ≠ []→p.block ≠ lb) (n2:sh=true→∀ (i:Nat) (c:Sl) (r:List Nat),sls[i]?=some c→L.rows[i]?=some r→∀ p,c.a=some p→r ≠ []→p.block ≠ lb)
  (hR:∀ h' q' s' nd' cl,OC cl h' q' s' nd' lb lim→Kx lb h q h' q'→(sh=false→cl=false)→R (.bool true) h') :
  CallTo Try.prog 37 #[.pointer (some (ad vb)),.pointer (some (ad lb)),.func (.func 62) #[] #[.pointer (some (ad cb))],.slice a3.a a3.n a3.c,.slice a4.a a4.n a4.c,.int .i64 most,.bool sh] h R:=by
 have lt:=row_lt x.o.l.row
 have ol:=x.o.len
 refine f37F_ok ?_
 unfold f37F
 refine Let_mk fun h1 e1=>Let_mk fun h2 e2=>Let_mk fun h3 e3=>Let_mk fun h4 e4=>Let_mk fun h5 e5=>Let_mk fun h6 e6=>Let_mk fun h7 e7=>Let_mk fun h8 e8=>?_
 have k1:Kept N h h1:=e1 ▸ kept_push _ _ _
 have k2:Kept N h1 h2:=e2 ▸ kept_push _ _ _
 have k3:Kept N h2 h3:=e3 ▸ kept_push _ _ _
 have k4:Kept N h3 h4:=e4 ▸ kept_push _ _ _
 have k5:Kept N h4 h5:=e5 ▸ kept_push _ _ _
 have k6:Kept N h5 h6:=e6 ▸ kept_push _ _ _
 have k7:Kept N h6 h7:=e7 ▸ kept_push _ _ _
 have k8:Kept N h7 h8:=e8 ▸ kept_push _ _ _
 have r7:Row h1 h.size [.pointer (some (ad vb))]:=e1 ▸ row_new h #[.pointer (some (ad vb))] _
 have r8:Row h2 h1.size [.pointer (some (ad lb))]:=e2 ▸ row_new h1 #[.pointer (some (ad lb))] _
 have r10:Row h3 h2.size [.slice a3.a a3.n a3.c]:=e3 ▸ row_new h2 #[.slice a3.a a3.n a3.c] _
 have r11:Row h4 h3.size [.slice a4.a a4.n a4.c]:=e4 ▸ row_new h3 #[.slice a4.a a4.n a4.c] _
 have r12:Row h5 h4.size [.int .i64 most]:=e5 ▸ row_new h4 #[.int .i64 most] _
 have r13:Row h6 h5.size [.bool sh]:=e6 ▸ row_new h5 #[.bool sh] _
 have r14:Row h7 h6.size [.bool false]:=e7 ▸ row_new h6 #[.bool false] _
 have r15:Row h8 h7.size [.int .i64 0]:=e8 ▸ row_new h7 #[.int .i64 0] _
 clear e1 e2 e3 e4 e5 e6 e7 e8
 have z7:=row_lt r7; have z8:=row_lt r8; have z10:=row_lt r10; have z11:=row_lt r11; have z12:=row_lt r12; have z13:=row_lt r13; have z14:=row_lt r14; have z15:=row_lt r15
 simp only [show ∀ g:Hp,nb g=ad g.size from fun _=>rfl]
 generalize g7:h.size=b7 at *
 generalize g8:h1.size=b8 at *
 generalize g10:h2.size=b10 at *
 generalize g11:h3.size=b11 at *
 generalize g12:h4.size=b12 at *
 generalize g13:h5.size=b13 at *
 generalize g14:h6.size=b14 at *
 generalize g15:h7.size=b15 at *
 refine row_st r15 (i:=0) rfl (by simp) fun h9 r15' k9=>?_
 have k08:Kept N h h8:=kept_tr k1 (kept_tr k2 (kept_tr k3 (kept_tr k4 (kept_tr k5 (kept_tr k6 (kept_tr k7 k8))))))
 have k09:Kept N h h9:=kept_base k08 (S:=fun b=>b=b15) (fun b hb=>by omega) k9
 have z9:=k9.1
 refine ⟨62,#[],#[.pointer (some (ad cb))],rfl,tab_ok.callee 62 (by kernel_rfl),fun fn gl=>?_⟩
 generalize hH:((h9.push (.deferred (some []))).push (.loop (recL fn (mkEnv 77 [(7,.pointer (some (ad b7))),(8,.pointer (some (ad b8))),(10,.pointer (some (ad b10))),(11,.pointer (some (ad b11))),(12,.pointer (some (ad b12))),(13,.pointer (some (ad b13))),(14,.pointer (some (ad b14))),(15,.pointer (some (ad b15)))] gl) #[19,20] (rfA (sub [1,1,0,1,0] body37)) (rfB (sub [1,1,0,1,0] body37)) h9.size .ready none)))=H
 have kH:Kept N h9 H:=by rw [← hH]; exact kept_tr (kept_push _ _ _) (kept_push _ _ _)
 have hsz:H.size=h9.size + 2:=by rw [← hH]; simp
 have hdb:H[h9.size]?=some (.deferred (some [])):=by
  rw [← hH]
  have e0:(h9.push (.deferred (some [])))[h9.size]?=some (.deferred (some [])):=by simp
  exact (push_old _ _ (by simp)).trans e0
 have hlp:H[h9.size + 1]?=some (.loop (f37Rec1 (ad b7) (ad b8) (ad b10) (ad b11) (ad b12) (ad b13) (ad b14) (ad b15) gl fn h9.size .ready none)):=by
  rw [← hH]
  have:(h9.push (.deferred (some []))).size=h9.size + 1:=by simp
  rw [← this]
  exact Array.getElem?_push_size
 clear hH
 generalize hl:h9.size + 1=l at *
 generalize hd:h9.size=db at *
 have d:Ord h0 h H vb lb b7 b8 b10 b11 b12 b13 b14 b15 db l:=⟨k0.1,o1,by omega,vlb,by omega,by omega,by omega,by omega,by omega,by omega,by omega,by omega,by omega,by omega,by omega⟩
 have fr:∀ b,h.size ≤ b→q.role b=.out:=fun b hb=>x.o.g.st.fr hb
 have up:∀ {b:Nat} {cs:List Value} {g:Hp},Row g b cs→h.size ≤ b→Kept (fun b=>b=b15) g H→b ≠ b15→Lc H q b cs:=fun {b cs g} rg hb kg hne=>⟨kept_row kg rg hne,fr b hb⟩
 have kk8:Kept (fun b=>b=b15) h8 H:=⟨Nat.le_trans k9.1 kH.1,fun b hb hne=>(kH.2 b (Nat.lt_of_lt_of_le hb k9.1) _root_.id).trans (k9.2 b hb hne)⟩
 have kup:∀ {g g':Hp},Kept N g g'→Kept (fun b=>b=b15) g' H→Kept (fun b=>b=b15) g H:=fun {g g'} a b=>⟨Nat.le_trans a.1 b.1,fun i hi hne=>(b.2 i (Nat.lt_of_lt_of_le hi a.1) hne).trans (a.2 i hi _root_.id)⟩
 have kk7:=kup k8 kk8; have kk6:=kup k7 kk7; have kk5:=kup k6 kk6; have kk4:=kup k5 kk5; have kk3:=kup k4 kk4; have kk2:=kup k3 kk3; have kk1:=kup k2 kk2
 have kh:Kept N h H:=kept_tr k09 kH
 have eH:Env h h0 H q vb lb a3 a4 sls L.rows most sh b7 b8 b10 b11 b12 b13 b14 b15 0 :=
  ⟨up r7 (by omega) kk1 (by omega),up r8 (by omega) kk2 (by omega),up r10 (by omega) kk3 (by omega),up r11 (by omega) kk4 (by omega),up r12 (by omega) kk5 (by omega),up r13 (by omega) kk6 (by omega),up r14 (by omega) kk7 (by omega),⟨kept_row kH r15' _root_.id,fr b15 (by omega)⟩,
   ⟨vc,hv.keep kh _root_.id⟩,by have:=row_lt hv.1; omega,rl.keepN kh fr,fun p hp hs=>(rl.out p hp hs).2,fun i c r hc hr p hp hs=>((rl.each i c r hc hr).1.out p hp hs).2,kept_tr k0 kh,f0⟩
 have xH:=x.keepN kh
 refine all_ok xH.o (hcb.keep kh _root_.id).at0 (l:=l) (OvJ h h0 H q vb lb lim a3 a4 sls L.rows most sh b7 b8 b10 b11 b12 b13 b14 b15 db l (f37Rec1 (ad b7) (ad b8) (ad b10) (ad b11) (ad b12) (ad b13) (ad b14) (ad b15) gl fn db))
  (fun a M cs g ra kg=>?_) (fun k a M cs g c r ⟨q2,s2,nd2,cl,oc,e,kx,ra,ro,hlo,hdo,hc⟩ hr hcs=>⟨ra,fun row=>?_⟩) fun a M cs g ⟨q2,s2,nd2,cl,oc,e,kx,ra,ro,hlo,hdo,hc⟩=>?_
 ·have exg:Ex H q g q:=Ex.of_kept kg fun b hb=>xH.o.g.st.fr hb
  exact ⟨q,s,nd,false,⟨L,xH.keepN kg⟩,eH.ex exg,(Kx.refl h q).ex (Ex.of_kept (kept_tr kh kg) fr),ra,fun b hb=>xH.o.g.st.fr (ra.new b hb),Lo.ex ⟨hlp,fr l (by omega)⟩ exg,Lo.ex ⟨hdb,fr db (by omega)⟩ exg,nofun⟩
 ·have hkl:k < L.rows.length:=(List.getElem?_eq_some_iff.1 hr).1
  cases cl with
  | true=>exact absurd (hc rfl).2 (by omega)
  | false =>
  obtain ⟨L2,x2⟩:=oc
  have rn:a3.n=L.rows.length:=by rw [e.rl.n,e.rl.len]
  refine f37B1_ok (a0:=((k:Nat):Int)) (a1:=⟨some (ad c),r.length,r.length⟩) hlo.1 ?_
  unfold f37B1
  refine ⟨_,hlo.1,rfl,Let_mk fun g1 e1=>?_⟩
  have lt1:l < g.size:=obj_lt hlo.1
  have j1:Kept (fun b=>b=l) g g1:=e1 ▸ kept_obj lt1
  have hl1:Lo g1 q2 l (.loop (f37Rec1 (ad b7) (ad b8) (ad b10) (ad b11) (ad b12) (ad b13) (ad b14) (ad b15) gl fn db .busy none)):=⟨by rw [e1]; exact obj_set lt1,hlo.2⟩
  clear e1
  have E1:=e.keep j1 (by omega) k0.1 fun b cs hb hh=>by omega
  have x3:=x2.writeS j1 (fun b hb=>hb ▸ hlo.2) (by show ¬ lb=l; omega)
  have kx1:=kx.keep j1 fun b hb hlt=>by omega
  have ra1:=ra.keepL j1 (by omega)
  have hd1:=hdo.keep j1 (by show ¬ db=l; omega)
  have hrow1:=kept_row j1 row (row_ne_loop row hlo.1)
  refine ⟨_,E1.l15.at0,Cond_f (bne_self_eq_false _) ⟨_,E1.l15.at0,_,E1.l10.at0,Cond_f (by rw [decide_eq_false_iff_not]; omega) ⟨_,E1.l10.at0,_,E1.l15.at0,⟨by omega,by omega⟩,?_⟩⟩⟩
  obtain ⟨ck,p,hck,hp,hcell,src,hcap,hlen,_⟩:=E1.rl.get hr
  refine PtrOk_of hp ⟨ck,by rw [Int.toNat_natCast]; exact hcell,?_⟩
  refine leq (a:=⟨some (ad c),r.length,r.length⟩) (row_reads hrow1) src.rd rfl src.n (by omega) ⟨true,rfl,Cond_f rfl ⟨_,E1.l15.at0,_,E1.l11.at0,?_⟩⟩
  -- a round's end, in whatever state
  have tail:∀ {kr:Hp→Prop} {g2:Hp} {q3:HQ} {s3:RS} {nd3:List NodeD} {L3:LD},Solo g2 q3 s3 nd3 lb L3 lim→Env h h0 g2 q3 vb lb a3 a4 sls L.rows most sh b7 b8 b10 b11 b12 b13 b14 b15 k→Kx lb h q g2 q3→RowsAt H g2 a M cs L.rows→(∀ b,M.own b→q3.role b=.out)→Lo g2 q3 l (.loop (f37Rec1 (ad b7) (ad b8) (ad b10) (ad b11) (ad b12) (ad b13) (ad b14) (ad b15) gl fn db .busy none))→Lo g2 q3 db (.deferred (some [])) →
    f37T (ad b7) (ad b8) (ad b10) (ad b12) (ad b13) (ad b15) l g2 fun v h3=>(v=.bool true∧OvJ h h0 H q vb lb lim a3 a4 sls L.rows most sh b7 b8 b10 b11 b12 b13 b14 b15 db l (f37Rec1 (ad b7) (ad b8) (ad b10) (ad b11) (ad b12) (ad b13) (ad b14) (ad b15) gl fn db) (k + 1) a M cs h3) ∨ (v=.bool false∧∃ st pend,h3[l]?=some (.loop (f37Rec1 (ad b7) (ad b8) (ad b10) (ad b11) (ad b12) (ad b13) (ad b14) (ad b15) gl fn db st pend))∧st ≠ .busy ∧
     AfterJ (fun h10=>f37N (ad b10) (ad b12) (ad b14) (ad b15) db h10 R) kr (fun id h10=>if id=0 then f37N (ad b10) (ad b12) (ad b14) (ad b15) db h10 R else False) pend (h3.setIfInBounds l (.loop (f37Rec1 (ad b7) (ad b8) (ad b10) (ad b11) (ad b12) (ad b13) (ad b14) (ad b15) gl fn db .exhausted pend))))   := fun {kr g2 q3 s3 nd3 L3} x4 E2 kx2 ra2 ro2 hl2 hd2=>by
   refine rtail_ok (hS:=H) (qB:=q) x4 E2 d kx2 ra2 ro2 hl2 hd2 (by omega) n1 n2 fun g3 q4 s4 cl oc3 E3 kx3 ra3 ro3 hl3 hd3 hcl=>?_
   have lt3:l < g3.size:=obj_lt hl3.1
   by_cases hm:((k + 1:Nat):Int)=most
   ·rw [if_pos hm]
    refine ⟨_,hl3.1,.inr ⟨rfl,.done,some (.exit 0),obj_set lt3,nofun,?_⟩⟩
    show (if (0:Nat)=0 then f37N (ad b10) (ad b12) (ad b14) (ad b15) db _ R else False)
    rw [if_pos rfl]
    generalize hg4:g3.setIfInBounds l (.loop { f37Rec1 (ad b7) (ad b8) (ad b10) (ad b11) (ad b12) (ad b13) (ad b14) (ad b15) gl fn db .busy none with state:=if (some (Code.exit 0)).isNone then .ready else .done,pending:=some (.exit 0) })=g4
    have j4:Kept (fun b=>b=l) g3 g4:=hg4 ▸ kept_obj lt3
    have lt4:l < g4.size:=Nat.lt_of_lt_of_le lt3 j4.1
    clear hg4
    generalize hg5:g4.setIfInBounds l (.loop (f37Rec1 (ad b7) (ad b8) (ad b10) (ad b11) (ad b12) (ad b13) (ad b14) (ad b15) gl fn db .exhausted (some (.exit 0))))=g5
    have j5:Kept (fun b=>b=l) g4 g5:=hg5 ▸ kept_obj lt4
    clear hg5
    have E4:=E3.keep j4 (by omega) k0.1 fun b cs hb hh=>by omega
    have E5:=E4.keep j5 (by omega) k0.1 fun b cs hb hh=>by omega
    refine fin37 (hS:=H) (qB:=q) ((oc3.write j4 hl3.2 (by omega)).write j5 hl3.2 (by omega)) E5 d ((kx3.keep j4 fun b hb hlt=>by omega).keep j5 fun b hb hlt=>by omega) ((hd3.keep j4 (by show ¬ db=l; omega)).keep j5 (by show ¬ db=l; omega)) (.inr hm) fun h' oc' kx'=>hR h' q4 s4 nd3 cl oc' kx' fun hsh=>by rw [hcl,hsh]; rfl
   ·rw [if_neg hm]
    refine ⟨_,hl3.1,.inl ⟨rfl,?_⟩⟩
    have j4:Kept (fun b=>b=l) g3 (g3.setIfInBounds l (.loop (f37Rec1 (ad b7) (ad b8) (ad b10) (ad b11) (ad b12) (ad b13) (ad b14) (ad b15) gl fn db .ready none))):=kept_obj lt3
    exact ⟨q4,s4,nd3,cl,oc3.write j4 hl3.2 (by omega),E3.keep j4 (by omega) k0.1 fun b cs hb hh=>by omega,kx3.keep j4 fun b hb hlt=>by omega,ra3.keepL j4 (by omega),ro3,⟨obj_set lt3,hl3.2⟩,hd3.keep j4 (by show ¬ db=l; omega),fun hc'=>by rw [hcl] at hc'; simpa using hc'⟩
  refine Cond_dec (fun hlt=>?_) fun hge=>tail x3 E1 kx1 ra1 ro hl1 hd1
  have yn:=y.n
  have hko:k < ops.length:=by omega
  have ho:ops[k]?=some (ops[k]'hko):=List.getElem?_eq_getElem hko
  generalize ops[k]'hko=o at ho
  obtain ⟨p,hp,hcell,ok⟩:=y.at_ k o ho
  have oc:∀ (j:Nat) (v:Value),o.cells[j]?=some v→cell g1 ((p.add (((k:Nat):Int).toNat * 7)).add j)=some v:=fun j v hv=>by
   rw [Int.toNat_natCast]; exact cell_keptN E1.k0 (hcell j v hv)
  refine ⟨_,E1.l8.at0,_,E1.l11.at0,_,E1.l15.at0,⟨by omega,by omega⟩,PtrOk_of hp ⟨o.k,(by have:=oc 0 _ rfl; exact this),o.x1,oc 1 _ rfl,o.x2,oc 2 _ rfl,o.fr,oc 3 _ rfl,o.i,oc 4 _ rfl,o.m,oc 5 _ rfl,o.a,oc 6 _ rfl,?_⟩⟩
  have hrl:=x3.rl
  refine told_any x3.o (ok.bt.src0 E1.k0 E1.f0) ok.bt.lt (by omega) ok.k ok.i ok.m fun g2 q3 s3 nd3 L3 w af=>⟨w,rfl,?_⟩
  obtain ⟨ra2,ro2⟩:=ra1.ex ro af.ex
  exact tail (x3.aft af) (E1.ex af.ex) (kx1.ex af.ex) ra2 ro2 (hl1.ex af.ex) (hd1.ex af.ex)
 ·refine ⟨.ready,none,hlo.1,nofun,?_⟩
  have lt3:l < g.size:=obj_lt hlo.1
  show f37N (ad b10) (ad b12) (ad b14) (ad b15) db _ R
  generalize hg4:g.setIfInBounds l (.loop (recL fn (mkEnv 77 [(7,.pointer (some (ad b7))),(8,.pointer (some (ad b8))),(10,.pointer (some (ad b10))),(11,.pointer (some (ad b11))),(12,.pointer (some (ad b12))),(13,.pointer (some (ad b13))),(14,.pointer (some (ad b14))),(15,.pointer (some (ad b15)))] gl) #[19,20] (rfA (sub [1,1,0,1,0] body37)) (rfB (sub [1,1,0,1,0] body37)) db .exhausted none))=g4
  have j4:Kept (fun b=>b=l) g g4:=hg4 ▸ kept_obj lt3
  clear hg4
  have E4:=e.keep j4 (by omega) k0.1 fun b cs hb hh=>by omega
  refine fin37 (hS:=H) (qB:=q) (oc.write j4 hlo.2 (by omega)) E4 d (kx.keep j4 fun b hb hlt=>by omega) (hdo.keep j4 (by show ¬ db=l; omega)) (.inl rfl) fun h' oc' kx'=>hR h' q2 s2 nd2 cl oc' kx' fun hsh=>?_
  cases cl with
  | false=>rfl
  | true=>have:=(hc rfl).1; rw [hsh] at this; cases this
end
end Go.Ev
set_option linter.all false
set_option maxRecDepth 1000000
namespace Go.Ev
open Go.Proofs
theorem mark_get2 (h:Hp) (b i:Nat) (hi:i ≠ b):(markH h b)[i]?=h[i]?:=by
 unfold markH
 rw [Array.getElem?_modify,if_neg (Ne.symm hi)]
theorem mark_size2 (h:Hp) (b:Nat):(markH h b).size=h.size:=by unfold markH; rw [Array.size_modify]
theorem mark_cell2 (h:Hp) (b:Nat) (a:Addr):cell (markH h b) a=cell h a:=by
 by_cases e:b=a.block
 ·unfold cell markH
  rw [Array.getElem?_modify,if_pos e]
  cases h[a.block]? with
  | none=>rfl
  | some o=>cases o <;> rfl
 ·unfold cell
  rw [mark_get2 h b _ (Ne.symm e)]
section
variable {h h' h2 h0 h1:Hp} {q q' q2:HQ} {s s' s2:RS} {nd nd' nd2:List NodeD} {id lb hn lim:Nat} {L L' L2:LD} {R:Value→Hp→Prop} {b:List Nat} {rows w:List (List Nat)} {M:Mem} {cs:List Nat} {r:List Nat} {c vb:Nat}
/-- Bytes of a text, laid and told to be one. -/
theorem made2 {h1 h2:Hp} {arr:Array Value} {t:TypeId} {l:List Nat} (e1:h1=h.push (.cells arr t)) (e2:h2=markH h1 (ad h.size).block) (ha:arr.toList=l.map bv):Kept N h h2∧ReadsO h2 (some (ad h.size)) (l.map bv)∧h.size < h2.size:=by
 have z:h1.size=h.size + 1:=by rw [e1]; simp
 have z2:h2.size=h.size + 1:=by rw [e2,mark_size2,z]
 refine ⟨⟨by omega,fun i hi _=>?_⟩,?_,by omega⟩
 ·rw [e2,mark_get2 _ _ _ (by show i ≠ h.size; omega),e1]
  exact push_old h _ hi
 ·have row:Row h1 h.size (l.map bv):=by rw [e1,← ha]; exact row_new h arr t
  have rd:=row_reads row
  intro i v hv
  have:=rd i v hv
  rw [e2]
  exact (mark_cell2 _ _ _).trans this
theorem row_first {arr:Array Value} {t:TypeId} {v:Value} (e:h'=h.push (.cells arr t)) (hv:arr[0]?=some v):∃ cs,Row h' h.size (v :: cs):=by
 have row:Row h' h.size arr.toList:=by rw [e]; exact row_new h arr t
 cases hl:arr.toList with
 | nil=>rw [← Array.getElem?_toList,hl] at hv; cases hv
 | cons x cs =>
  rw [← Array.getElem?_toList,hl] at hv
  obtain rfl:=Option.some.inj hv
  rw [hl] at row
  exact ⟨cs,row⟩
theorem is_ok2 {a:Sl} (ha:ReadsO h a.a ([97,98].map bv)) (na:a.n=2) (hR:∀ h',Kept N h h'→R (.bool true) h'):CallTo Try.prog 59 #[.slice a.a a.n a.c,.string ⟨#[97,98]⟩] h R:=by
 refine f59F_ok ?_
 unfold f59F
 refine ⟨by show 2 < 2 ^ 62; omega,fun c7 h1 h2=>Let_mk fun g e=>?_⟩
 have k:Kept N h g:=e ▸ kept_push _ _ _
 have rd:ReadsO g (some (ad h.size)) ([97,98].map bv):=by
  intro j v hv
  have hj:j < 2:=by have:=(List.getElem?_eq_some_iff.1 hv).1; simpa using this
  rw [add_ad,e]
  unfold cell
  simp only [Array.getElem?_push_size]
  show ((Array.map (fun b=>Value.int IntKind.u8 b.toNat) #[(97:UInt8),98]) ++ Array.replicate (c7 - 2) (Value.int IntKind.u8 0))[j]?=some v
  rw [Array.getElem?_append_left (by simpa using hj)]
  match j,hj with
  | 0,_ =>
   have hv:some (bv 97)=some v:=hv
   rw [← hv,Array.getElem?_map]; rfl
  | 1,_ =>
   have hv:some (bv 98)=some v:=hv
   rw [← hv,Array.getElem?_map]; rfl
 refine leq (l:=[97,98]) (a:=a) (c:=⟨some (ad h.size),2,c7⟩) (by
  cases haa:a.a with
  | none=>rw [haa] at ha; exact ha
  | some p=>rw [haa] at ha; exact fun j v hj=>cell_keptN k (ha j v hj)) rd na rfl (by decide) ⟨true,rfl,hR g k⟩
theorem begin2_ok {n:Nat} (hn:n < 1048449) (hR:∀ h' q vb vcs,Gs h' q (RS.new (128 + n)) [⟨0,[],[]⟩]→Lc h' q vb (.pointer (some (ad q.hb)) :: vcs)→Kept N h h'→(∀ b,q.role b ≠ .out→h.size ≤ b)→h.size ≤ vb→R (.pointer (some (ad vb))) h'):CallTo Try.prog 34 #[.int .i64 (n:Nat)] h R:=by
 refine f34F_ok ?_
 unfold f34F
 refine hn_ok (fun hb=>absurd ⟨by omega,by omega⟩ hb) fun h1 q1 _ g1 k1 f1=>⟨_,_,rfl,lnum ⟨_,rfl,Cond_f rfl ?_⟩⟩
 unfold f34K1
 refine Cond_f rfl (snew g1 (by decide) (by decide) fun h2 q2 s2 nd2 lb L2 x er ex hlb=>⟨_,_,rfl,lnum ⟨_,rfl,Cond_f rfl ?_⟩⟩)
 have fr1:Frsh h q1:=f1
 have k2:=fr1.kept k1 ex
 have fr2:=fr1.ex k1.1 ex
 unfold f34K2
 refine Cond_f rfl (Let_mk fun h3 e3=>PtrOk_mk (Let_mk fun h4 e4=>?_))
 obtain ⟨k4,rd4,z4⟩:=made2 (l:=[97,98]) e3 e4 rfl
 have x4:=x.keepN k4
 have src:Src h4 q2 ⟨some (ad h2.size),2,2⟩ [97,98]:=⟨rd4,rfl,fun c hc=>by simp at hc; omega,fun p hp _=>by obtain rfl:=Option.some.inj hp; exact ⟨x.o.g.st.fr (Nat.le_refl _),z4⟩⟩
 have hrl:=x4.rl
 have w2:wordsN [97,98].length=1:=rfl
 refine lpush x4.o src (by decide) (by omega) (fun hl=>absurd hl (by decide)) (fun _ _ _ _ _ _ hno=>?_) fun h5 q5 s5 nd5 L5 _ a5 er5 _=>⟨_,rfl,?_⟩
 ·refine absurd (x4.room.2 ?_ _ x4.lv) (hno _ x4.lv)
  rw [er,w2]
  show room2 2000 (5 + 4 * 0 + 0) 0 (2 + 1)
  unfold room2 roomK cntS cntB
  simp only [show (2 + 1:Nat) ≤ 64 from by omega,show (4:Nat) ≤ 64 from by omega,if_true]
  omega
 have x5:=x4.aft a5
 rw [er,if_pos rfl] at er5
 have l5:L5.rows.length=1:=by rw [er5]; rfl
 refine lgetr x5.o (i:=0) ⟨by omega,by omega⟩ (fun hb=>absurd ⟨by omega,by omega,by rw [l5]; omega,by rw [l5]; omega⟩ hb) fun r c h6 _ hr row hc k6=>⟨⟨_,_,_⟩,_,rfl,lnum ⟨_,rfl,Cond_f rfl (lnum ⟨_,rfl,Cond_f rfl ?_⟩)⟩⟩
 rw [er5] at hr
 have hr:[97,98]=r:=Option.some.inj hr
 subst hr
 refine is_ok2 (a:=⟨some (ad c),2,2⟩) (row_reads row) rfl fun h7 k7=>⟨true,rfl,Cond_f rfl (llen (x5.keepN (kept_tr k6 k7)).o ⟨_,rfl,?_⟩)⟩
 rw [l5]
 unfold f34K3
 have t4:=kept_tr k2 k4
 have t5:=fr2.kept t4 a5.ex
 have t7:=kept_tr t5 (kept_tr k6 k7)
 have lim:∀ {g:Hp} {K:Value→Hp→Prop},(K (.int .i64 ((128 + n:Nat):Int)) g)→CallTo Try.prog 60 #[.int .i64 (n:Nat)] g K:=fun {g K} hK=>by
  refine f60F_ok ?_
  unfold f60F
  refine lwithin (m:=1048449) (by omega) (by omega) ⟨by omega,by omega⟩ ⟨_,rfl,?_⟩
  rw [Int.emod_eq_of_lt (by omega) (by omega),wrap_i64' (by omega) (by omega)]
  exact hK
 refine Cond_f rfl (lim ⟨_,rfl,hn_ok (fun hb=>absurd ⟨by omega,by omega⟩ hb) fun h8 q8 _ g8 k8 f8=>⟨_,_,rfl,lnum ⟨_,rfl,Cond_f rfl (Cond_f rfl (lim ⟨_,rfl,?_⟩))⟩⟩⟩)
 refine f61F_ok ?_
 unfold f61F
 refine Let_mk fun h9 e9=>⟨_,rfl,Let_mk fun h10 e10=>?_⟩
 have k9:Kept N h8 h9:=e9 ▸ kept_push _ _ _
 have k10:Kept N h9 h10:=e10 ▸ kept_push _ _ _
 obtain ⟨vcs,row10⟩:=row_first e10 rfl
 have t8:=kept_tr t7 k8
 exact hR h10 q8 h9.size vcs (by rw [Int.toNat_natCast] at g8; exact (g8.keepN k9).keepN k10) ⟨row10,g8.st.fr k9.1⟩ (kept_tr t8 (kept_tr k9 k10)) (fun b hb=>Nat.le_trans t7.1 (f8 b hb)) (Nat.le_trans t8.1 k9.1)
end
end Go.Ev
