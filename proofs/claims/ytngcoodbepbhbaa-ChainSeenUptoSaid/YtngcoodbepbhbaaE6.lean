/- The arena's calls: what each does to a block of words, said of the objects that lie in it / The arena's calls that make room: New, Clear, Alloc, Image, Take. No condition but that these are ones. -/
import Derived.Test.YtngcoodbepbhbaaE5
set_option linter.all false
set_option maxRecDepth 100000
namespace Go.Ev
open Go.Proofs
theorem PtrOk_mk {a:Addr} {K:Addr→Prop} (h:K a):PtrOk (some a) K:=h
theorem PtrOk_of {x:Option Addr} {a:Addr} {K:Addr→Prop} (e:x=some a) (h:K a):PtrOk x K:=e ▸ h
theorem Let_mk {α:Type} {x:α} {K:α→Prop} (h:∀ y,y=x→K y):Let x K:=h x rfl
abbrev N:Nat→Prop:=fun _=>False
theorem slat_kept {sz:Nat} {h h':Hp} {a:Option Addr} {n c b:Nat} {vs:List Value} {S:Nat→Prop} (s:SlAt sz h a n c (some b) vs) (k:Kept S h h') (hb:¬ S b):SlAt sz h' a n c (some b) vs :=
 s.keep fun b' e=>by obtain rfl:=Option.some.inj e; exact k.2 b s.lt hb
theorem slat_kept' {sz:Nat} {h h':Hp} {a:Option Addr} {n c:Nat} {ob:Option Nat} {vs:List Value} {S:Nat→Prop} (s:SlAt sz h a n c ob vs) (k:Kept S h h') (hb:∀ b,ob=some b→¬ S b):SlAt sz h' a n c ob vs:=by
 cases ob with
 | none=>exact s.keep nofun
 | some b=>exact slat_kept s k (hb b rfl)
structure ArLoc where
 pb:Nat
 wb:Nat
 fb:Nat
def ArLoc.fp (L:ArLoc) (b:Nat):Prop:=b=L.pb ∨ b=L.wb ∨ b=L.fb
structure ArR (h:Hp) (L:ArLoc) (sz:Nat) (os:List AObj) (wc fc:Nat) (fs:List Nat):Prop where
 row:Row h L.pb [.int .i64 sz,.slice (some (ad L.wb)) (used os) wc,.slice (some (ad L.fb)) fs.length fc]
 ws:SlAt 1 h (some (ad L.wb)) (used os) wc (some L.wb) ((wordsOf os).map uv)
 fsl:SlAt 1 h (some (ad L.fb)) fs.length fc (some L.fb) (fs.map uv)
 first:FirstOk fs os
 ok:∀ o ∈ os,o.Ok
 u:used os ≤ sz
 s:sz ≤ 1048576
 fl:fs.length * 64 < used os + 64
 d1:L.pb ≠ L.wb
 d2:L.pb ≠ L.fb
 d3:L.wb ≠ L.fb
def Ar (h:Hp) (L:ArLoc) (sz:Nat) (os:List AObj):Prop:=∃ wc fc fs,ArR h L sz os wc fc fs
/-- The number of the object that begins at a place that may be anything. -/
def idxI (os:List AObj) (at_:Int):Option Nat:=if 0 ≤ at_ then idx os at_.toNat else none
theorem idxI_nat (os:List AObj) (n:Nat):idxI os (n:Int)=idx os n:=by unfold idxI; simp
theorem idxI_some {os:List AObj} {at_:Int} {i:Nat} (h:idxI os at_=some i):∃ o,os[i]?=some o∧at_=(pos os i:Int):=by
 unfold idxI at h
 split at h
 ·rename_i h0
  obtain ⟨h1,h2⟩:=idx_some.1 h
  exact ⟨_,List.getElem?_eq_getElem h1,by omega⟩
 ·cases h
section
variable {h h':Hp} {L:ArLoc} {sz:Nat} {os:List AObj} {wc fc:Nat} {fs:List Nat}
theorem ArR.keep (r:ArR h L sz os wc fc fs) {S:Nat→Prop} (k:Kept S h h') (hS:∀ b,L.fp b→¬ S b):ArR h' L sz os wc fc fs :=
 ⟨kept_row k r.row (hS _ (.inl rfl)),slat_kept r.ws k (hS _ (.inr (.inl rfl))),slat_kept r.fsl k (hS _ (.inr (.inr rfl))),r.first,r.ok,r.u,r.s,r.fl,r.d1,r.d2,r.d3⟩
theorem Ar.keep (r:Ar h L sz os) {S:Nat→Prop} (k:Kept S h h') (hS:∀ b,L.fp b→¬ S b):Ar h' L sz os:=by
 obtain ⟨wc,fc,fs,r⟩:=r
 exact ⟨wc,fc,fs,r.keep k hS⟩
theorem ArR.lt (r:ArR h L sz os wc fc fs):∀ b,L.fp b→b < h.size:=by
 rintro b (rfl | rfl | rfl)
 ·exact row_lt r.row
 ·exact r.ws.lt
 ·exact r.fsl.lt
theorem Ar.lt (r:Ar h L sz os):∀ b,L.fp b→b < h.size:=by obtain ⟨wc,fc,fs,r⟩:=r; exact r.lt
theorem ArR.c0 (r:ArR h L sz os wc fc fs):cell h (ad L.pb)=some (.int .i64 sz):=cell_ad r.row
theorem ArR.c1 (r:ArR h L sz os wc fc fs):cell h ((ad L.pb).add 1)=some (.slice (some (ad L.wb)) (used os) wc):=by rw [add_ad,cell_row r.row]; rfl
theorem ArR.c2 (r:ArR h L sz os wc fc fs):cell h ((ad L.pb).add 2)=some (.slice (some (ad L.fb)) fs.length fc):=by rw [add_ad,cell_row r.row]; rfl
theorem ArR.word (r:ArR h L sz os wc fc fs) {i w:Nat} (hw:(wordsOf os)[i]?=some w):cell h ((ad L.wb).add (i * 1))=some (uv w):=by
 rw [add_ad,Nat.mul_one]
 have hi:=(List.getElem?_eq_some_iff.1 hw).1
 rw [r.ws.cell (by rw [List.length_map]; exact hi),List.getElem?_map,hw]
 rfl
theorem ArR.bit (r:ArR h L sz os wc fc fs) {i w:Nat} (hw:fs[i]?=some w):cell h ((ad L.fb).add (i * 1))=some (uv w):=by
 rw [add_ad,Nat.mul_one]
 have hi:=(List.getElem?_eq_some_iff.1 hw).1
 rw [r.fsl.cell (by rw [List.length_map]; exact hi),List.getElem?_map,hw]
 rfl
theorem div64 {p:Nat} (hp:p < 4611686018427387904):IntKind.wrap .i64 (Int.tdiv (p:Int) (64:Int))=((p / 64:Nat):Int):=by
 rw [tdiv_nn (by omega),wrap_i64' (by omega) (by omega)]; omega
theorem mod64 (p:Nat):Int.tmod (p:Int) (64:Int)=((p % 64:Nat):Int):=by rw [tmod_nn (by omega)]; omega
theorem bits_u64:IntKind.bits .u64=64:=rfl

/-! ### begins, Size, Used -/
theorem begins_ok (r:ArR h L sz os wc fc fs) {at_:Int} {R:Value→Hp→Prop} (hR:R (.bool (idxI os at_).isSome) h):CallTo Try.prog 87 #[.pointer (some (ad L.pb)),.int .i64 at_] h R:=by
 refine f87F_ok ?_
 unfold f87F
 have hu:=r.u
 have hs:=r.s
 refine Cond_dec (fun h0=>?_) fun h0=>?_
 ·obtain ⟨p,rfl⟩:=Int.eq_ofNat_of_zero_le (show 0 ≤ at_ by omega)
  refine PtrOk_mk ⟨⟨some (ad L.wb),used os,wc⟩,r.c1,Cond_dec (fun h1=>?_) fun h1=>?_⟩
  ·have h1:p < used os:=by have:(p:Int) < ((used os:Nat):Int):=h1; omega
   have hlen:=r.first.len
   have hfl:p / 64 < fs.length:=by omega
   have hw:fs[p / 64]?=some fs[p / 64]:=List.getElem?_eq_getElem hfl
   have hwl:=r.first.lt _ (List.getElem_mem hfl)
   refine PtrOk_mk ⟨⟨some (ad L.fb),fs.length,fc⟩,r.c2,?_⟩
   rw [div64 (by omega),mod64]
   have hbit:cell h ((ad L.fb).add (((p / 64:Nat):Int).toNat * 1))=some (.int .u64 ((fs[p / 64]:Nat):Int)):=by rw [Int.toNat_natCast]; exact r.bit hw
   refine ⟨by omega,⟨by omega,?_⟩,PtrOk_mk ⟨_,hbit,by omega,by omega,?_⟩⟩
   ·show ((p / 64:Nat):Int) < ((fs.length:Nat):Int); omega
   ·have e:min ((p % 64:Nat):Int).toNat (IntKind.bits .u64)=p % 64:=by rw [bits_u64]; omega
    rw [e,fdiv_pow,andI_one (Nat.lt_of_le_of_lt (Nat.div_le_self _ _) hwl)]
    have hb:=r.first.bit p
    unfold bitAt at hb
    rw [List.getD_eq_getElem?_getD,hw,Option.getD_some,Nat.testBit_eq_decide_div_mod_eq] at hb
    rw [idxI_nat] at hR
    rw [← hb] at hR
    have e2:(((fs[p / 64] / 2 ^ (p % 64) % 2:Nat):Int) == (1:Int))=decide (fs[p / 64] / 2 ^ (p % 64) % 2=1):=by
     generalize fs[p / 64] / 2 ^ (p % 64) % 2=x
     rw [Bool.eq_iff_iff,beq_iff_eq,decide_eq_true_eq]; omega
    rw [e2]
    exact hR
  ·have h1:used os ≤ p:=by have:¬ (p:Int) < ((used os:Nat):Int):=h1; omega
   rw [idxI_nat,idx_none_of_ge h1] at hR
   exact hR
 ·have:idxI os at_=none:=by
   unfold idxI
   split
   ·have:at_.toNat=0:=by omega
    rw [this,idx_zero]
   ·rfl
  rw [this] at hR
  exact hR
theorem asize_ok (r:ArR h L sz os wc fc fs) {R:Value→Hp→Prop} (hR:R (.int .i64 sz) h):CallTo Try.prog 49 #[.pointer (some (ad L.pb))] h R:=by
 refine f49F_ok ?_
 unfold f49F
 exact PtrOk_mk ⟨_,r.c0,hR⟩
theorem aused_ok (r:ArR h L sz os wc fc fs) {R:Value→Hp→Prop} (hR:R (.int .i64 (used os:Nat)) h):CallTo Try.prog 50 #[.pointer (some (ad L.pb))] h R:=by
 refine f50F_ok ?_
 unfold f50F
 exact PtrOk_mk ⟨⟨_,_,_⟩,r.c1,hR⟩

/-! ### Object, Moved, fields -/
theorem gone_no {w:Nat} (h:w < 9223372036854775808):andI .u64 (w:Int) (9223372036854775808:Int)=0:=by
 rw [andI_gone (by omega) (by omega),if_pos (by omega)]
theorem gone_yes {w:Nat} (h:9223372036854775808 ≤ w) (h1:w < 18446744073709551616):andI .u64 (w:Int) (9223372036854775808:Int)=9223372036854775808:=by
 rw [andI_gone (by omega) (by omega),if_neg (by omega)]
def objV (os:List AObj) (at_:Int):Value :=
 match (idxI os at_).bind (os[·]?) with
 | none=>.tuple #[.int .i64 0,.int .i64 0,.int .i64 0,.int .i64 23]
 | some o=>match o.fwd with
  | some _=>.tuple #[.int .i64 0,.int .i64 0,.int .i64 0,.int .i64 26]
  | none=>.tuple #[.int .i64 (o.kind:Int),.int .i64 (o.refs.length:Int),.int .i64 (o.raws.length:Int),.int .i64 0]
theorem ArR.at_ok (r:ArR h L sz os wc fc fs) {i:Nat} {o:AObj} (ho:os[i]?=some o):(0:Int) ≤ (pos os i:Int)∧(pos os i:Int) < ((used os:Nat):Int):=by
 have:=pos_lt_used (List.getElem?_eq_some_iff.1 ho).1
 omega
theorem aobject_ok (r:ArR h L sz os wc fc fs) {at_:Int} {R:Value→Hp→Prop} (hR:R (objV os at_) h):CallTo Try.prog 76 #[.pointer (some (ad L.pb)),.int .i64 at_] h R:=by
 refine f76F_ok ?_
 unfold f76F
 refine begins_ok r ⟨_,rfl,?_⟩
 cases hi:idxI os at_ with
 | none =>
  unfold objV at hR
  rw [hi] at hR
  exact hR
 | some i =>
  obtain ⟨o,ho,rfl⟩:=idxI_some hi
  have hoo:=r.ok o (List.mem_of_getElem? ho)
  have hb:=r.at_ok ho
  have hw:cell h ((ad L.wb).add ((pos os i:Int).toNat * 1))=some (.int .u64 (o.head:Int)):=by
   rw [Int.toNat_natCast]; exact r.word (word_head ho)
  unfold objV at hR
  rw [hi] at hR
  simp only [Option.bind_some,ho] at hR
  refine Cond_f rfl (PtrOk_mk ⟨⟨some (ad L.wb),used os,wc⟩,r.c1,hb,PtrOk_mk ⟨_,hw,?_⟩⟩)
  cases hf:o.fwd with
  | some t =>
   rw [hf] at hR
   have hl:=hoo.fw t hf
   have hh:o.head=9223372036854775808 + t:=by unfold AObj.head; rw [hf]
   exact Cond_t (by rw [hh,gone_yes (by omega) (by omega)]; rfl) hR
  | none =>
   rw [hf] at hR
   obtain ⟨h1,h2⟩:=AObj.head_plain hoo hf
   refine Cond_f (by rw [gone_no h2]; rfl) (PtrOk_mk ⟨⟨some (ad L.wb),used os,wc⟩,r.c1,hb,PtrOk_mk ⟨_,hw,?_⟩⟩)
   rw [h1]
   exact split_ok hoo.k1 hoo.k2 hoo.nr hoo.nw ⟨_,_,_,_,rfl,hR⟩
def movedV (os:List AObj) (at_:Int):Value :=
 match (idxI os at_).bind (os[·]?) with
 | none=>.tuple #[.int .i64 0,.bool false,.int .i64 23]
 | some o=>match o.fwd with
  | some t=>.tuple #[.int .i64 (t:Int),.bool true,.int .i64 0]
  | none=>.tuple #[.int .i64 0,.bool false,.int .i64 0]
theorem moved_ok (r:ArR h L sz os wc fc fs) {at_:Int} {R:Value→Hp→Prop} (hR:R (movedV os at_) h):CallTo Try.prog 89 #[.pointer (some (ad L.pb)),.int .i64 at_] h R:=by
 refine f89F_ok ?_
 unfold f89F
 refine begins_ok r ⟨_,rfl,?_⟩
 cases hi:idxI os at_ with
 | none =>
  unfold movedV at hR
  rw [hi] at hR
  exact hR
 | some i =>
  obtain ⟨o,ho,rfl⟩:=idxI_some hi
  have hoo:=r.ok o (List.mem_of_getElem? ho)
  have hb:=r.at_ok ho
  have hw:cell h ((ad L.wb).add ((pos os i:Int).toNat * 1))=some (.int .u64 (o.head:Int)):=by
   rw [Int.toNat_natCast]; exact r.word (word_head ho)
  unfold movedV at hR
  rw [hi] at hR
  simp only [Option.bind_some,ho] at hR
  refine Cond_f rfl (PtrOk_mk ⟨⟨some (ad L.wb),used os,wc⟩,r.c1,hb,PtrOk_mk ⟨_,hw,?_⟩⟩)
  cases hf:o.fwd with
  | some t =>
   rw [hf] at hR
   have hl:=hoo.fw t hf
   have hh:o.head=9223372036854775808 + t:=by unfold AObj.head; rw [hf]
   refine Cond_f (by rw [hh,gone_yes (by omega) (by omega)]; rfl) (PtrOk_mk ⟨⟨some (ad L.wb),used os,wc⟩,r.c1,hb,PtrOk_mk ⟨_,hw,?_⟩⟩)
   rw [hh,andNotI_gone (by omega) (by omega),wrap_i64' (by omega) (by omega)]
   rw [show ((9223372036854775808 + t:Nat):Int) - 9223372036854775808=(t:Int) by omega]
   exact hR
  | none =>
   rw [hf] at hR
   obtain ⟨h1,h2⟩:=AObj.head_plain hoo hf
   exact Cond_t (by rw [gone_no h2]; rfl) hR

theorem wrap_ar {x:Int} (h0:-1000000000 ≤ x) (h1:x ≤ 1000000000):IntKind.wrap .i64 x=x:=wrap_i64' (by omega) (by omega)
/-- 0, or what speaks against an object at that place. -/
def objE (os:List AObj) (at_:Int):Int :=
 match (idxI os at_).bind (os[·]?) with
 | none=>23
 | some o=>if o.fwd.isSome then 26 else 0
theorem objE_zero {os:List AObj} {at_:Int} (h:objE os at_=0):∃ i o,idxI os at_=some i∧os[i]?=some o∧o.fwd=none∧at_=(pos os i:Int)∧objV os at_=.tuple #[.int .i64 (o.kind:Int),.int .i64 (o.refs.length:Int),.int .i64 (o.raws.length:Int),.int .i64 0]:=by
 unfold objE at h
 cases hi:idxI os at_ with
 | none=>rw [hi] at h; simp at h
 | some i =>
  obtain ⟨o,ho,ha⟩:=idxI_some hi
  rw [hi] at h
  simp only [Option.bind_some,ho] at h
  cases hf:o.fwd with
  | some t=>rw [hf] at h; simp at h
  | none=>exact ⟨i,o,rfl,ho,hf,ha,by unfold objV; rw [hi]; simp only [Option.bind_some,ho,hf]⟩
theorem objE_bad {os:List AObj} {at_:Int} (h:objE os at_ ≠ 0):objV os at_=.tuple #[.int .i64 0,.int .i64 0,.int .i64 0,.int .i64 (objE os at_)]:=by
 unfold objE at h ⊢
 unfold objV
 cases hi:(idxI os at_).bind (os[·]?) with
 | none=>rfl
 | some o =>
  rw [hi] at h
  simp only at h ⊢
  cases hf:o.fwd with
  | some t=>rfl
  | none=>rw [hf] at h; simp at h
theorem fields_ok (r:ArR h L sz os wc fc fs) {at_:Int} {R:Value→Hp→Prop} (hbad:objE os at_ ≠ 0→R (.tuple #[.slice none 0 0,.int .i64 0,.int .i64 (objE os at_)]) h)
  (hgood:∀ i o a,objE os at_=0→idxI os at_=some i→os[i]?=some o→o.fwd=none→at_=(pos os i:Int)→(o.flds.length ≠ 0→a=some ⟨L.wb,pos os i + 1,none⟩) →
   R (.tuple #[.slice a o.flds.length o.flds.length,.int .i64 (o.refs.length:Int),.int .i64 0]) h):CallTo Try.prog 90 #[.pointer (some (ad L.pb)),.int .i64 at_] h R:=by
 refine f90F_ok ?_
 unfold f90F
 refine aobject_ok r ?_
 by_cases he:objE os at_=0
 ·obtain ⟨i,o,hi,ho,hf,ha,hv⟩:=objE_zero he
  rw [hv]
  refine ⟨_,_,_,_,rfl,Cond_f rfl (PtrOk_mk ⟨⟨some (ad L.wb),used os,wc⟩,r.c1,?_⟩)⟩
  have hps:=pos_size_le ho
  have hoo:=r.ok o (List.mem_of_getElem? ho)
  have hu:=r.u
  have hs:=r.s
  have h1:=(r.ws.row _ rfl).2.1
  have hsz:o.size=1 + o.refs.length + o.raws.length:=o.size_eq
  have hfl:o.flds.length=o.refs.length + o.raws.length:=by unfold AObj.flds; simp
  have hnr:=hoo.nr
  have hnw:=hoo.nw
  have e1:IntKind.wrap .i64 (at_ + 1)=((pos os i + 1:Nat):Int):=by rw [wrap_ar (by omega) (by omega)]; omega
  have e2:IntKind.wrap .i64 (((pos os i + 1:Nat):Int) + (o.refs.length:Int))=((pos os i + 1 + o.refs.length:Nat):Int):=by rw [wrap_ar (by omega) (by omega)]; omega
  have e3:IntKind.wrap .i64 (((pos os i + 1 + o.refs.length:Nat):Int) + (o.raws.length:Int))=((pos os i + 1 + o.flds.length:Nat):Int):=by rw [wrap_ar (by omega) (by omega)]; omega
  simp only [e1,e2,e3,Int.toNat_natCast]
  refine ⟨⟨by omega,?_⟩,⟨by omega,by omega⟩,⟨by omega,by omega⟩,?_⟩
  ·show ((pos os i + 1 + o.flds.length:Nat):Int) ≤ ((wc:Nat):Int); omega
  ·have e4:pos os i + 1 + o.flds.length - (pos os i + 1)=o.flds.length:=by omega
   rw [e4]
   refine hgood i o _ he hi ho hf ha fun hn=>?_
   rw [if_neg (by omega)]
   simp only [Option.map_some,add_ad,Nat.mul_one]
 ·rw [objE_bad he]
  exact ⟨_,_,_,_,rfl,Cond_t (by simpa using he) (hbad he)⟩
def getV (os:List AObj) (at_ j:Int):Value :=
 match (idxI os at_).bind (os[·]?) with
 | none=>.tuple #[.int .u64 0,.int .i64 23]
 | some o=>match o.fwd with
  | some _=>.tuple #[.int .u64 0,.int .i64 26]
  | none=>if 0 ≤ j then (match o.flds[j.toNat]? with | some v=>.tuple #[uv v,.int .i64 0] | none=>.tuple #[.int .u64 0,.int .i64 24]) else .tuple #[.int .u64 0,.int .i64 24]
theorem ArR.fld (r:ArR h L sz os wc fc fs) {i j:Nat} {o:AObj} (ho:os[i]?=some o) (hj:j < o.flds.length):cell h ((⟨L.wb,pos os i + 1,none⟩:Addr).add (j * 1))=some (uv o.flds[j]):=by
 rw [add_mk,Nat.mul_one]
 have:=word_fld ho hj
 have h2:=r.word (i:=pos os i + 1 + j) (w:=o.flds[j]) (by rw [this]; exact List.getElem?_eq_getElem hj)
 rwa [add_ad,Nat.mul_one] at h2
theorem aget_ok (r:ArR h L sz os wc fc fs) {at_ j:Int} {R:Value→Hp→Prop} (hR:R (getV os at_ j) h):CallTo Try.prog 122 #[.pointer (some (ad L.pb)),.int .i64 at_,.int .i64 j] h R:=by
 refine f122F_ok ?_
 unfold f122F
 refine fields_ok r (fun he=>?_) fun i o a he hi ho hf ha hp=>?_
 ·refine ⟨⟨_,_,_⟩,_,_,rfl,Cond_t (by simpa using he) ?_⟩
  unfold getV at hR
  unfold objE at he ⊢
  cases hx:(idxI os at_).bind (os[·]?) with
  | none=>rw [hx] at hR; exact hR
  | some o =>
   rw [hx] at hR he
   simp only at hR he ⊢
   cases hf:o.fwd with
   | some t=>rw [hf] at hR; exact hR
   | none=>rw [hf] at he; simp at he
 ·refine ⟨⟨_,_,_⟩,_,_,rfl,Cond_f rfl ?_⟩
  unfold getV at hR
  rw [hi] at hR
  simp only [Option.bind_some,ho,hf] at hR
  unfold f122K1
  refine Cond_dec (fun hj=>?_) fun hj=>?_
  ·rw [if_neg (show ¬ 0 ≤ j by omega)] at hR
   exact hR
  ·obtain ⟨k,rfl⟩:=Int.eq_ofNat_of_zero_le (show 0 ≤ j by omega)
   rw [if_pos (by omega),Int.toNat_natCast] at hR
   refine Cond_dec (fun hk=>?_) fun hk=>?_
   ·have:o.flds.length ≤ k:=by have:(k:Int) ≥ ((o.flds.length:Nat):Int):=hk; omega
    rw [List.getElem?_eq_none this] at hR
    exact hR
   ·have hk:k < o.flds.length:=by have:¬ (k:Int) ≥ ((o.flds.length:Nat):Int):=hk; omega
    rw [List.getElem?_eq_getElem hk] at hR
    refine ⟨⟨by omega,?_⟩,PtrOk_of (hp (by omega)) ⟨_,?_,hR⟩⟩
    ·show (k:Int) < ((o.flds.length:Nat):Int); omega
    ·rw [Int.toNat_natCast]; exact r.fld ho hk

/-! ### Set -/
theorem AObj.Ok.setF {o:AObj} (h:o.Ok) {j v:Nat} (hv:v < 18446744073709551616):(o.setF j v).Ok:=by
 have hfl:∀ x ∈ (o.setF j v).flds,x < 18446744073709551616:=by
  intro x hx
  rw [AObj.flds_setF] at hx
  rcases List.mem_or_eq_of_mem_set hx with hx | hx
  ·exact h.fl x hx
  ·rw [hx]; exact hv
 refine ⟨?_,?_,?_,?_,hfl,?_⟩ <;> unfold AObj.setF <;> split
 ·exact h.k1
 ·exact h.k1
 ·exact h.k2
 ·exact h.k2
 ·simp only [List.length_set]; exact h.nr
 ·exact h.nr
 ·exact h.nw
 ·simp only [List.length_set]; exact h.nw
 ·exact h.fw
 ·exact h.fw
theorem ok_modify {os:List AObj} {i:Nat} {f:AObj→AObj} (h:∀ o ∈ os,o.Ok) (hf:∀ o,o.Ok→(f o).Ok):∀ o ∈ os.modify i f,o.Ok:=by
 intro o ho
 obtain ⟨j,hj⟩:=List.mem_iff_getElem?.1 ho
 rw [List.getElem?_modify] at hj
 cases hx:os[j]? with
 | none=>rw [hx] at hj; simp at hj
 | some x =>
  rw [hx] at hj
  have hxo:=h x (List.mem_of_getElem? hx)
  have hj:some (if i=j then f x else x)=some o:=hj
  have hj:=Option.some.inj hj
  subst hj
  split
  ·exact hf x hxo
  ·exact hxo
/-- One word is written over. -/
theorem ArR.setw (r:ArR h L sz os wc fc fs) {p w:Nat} {os':List AObj} (hp:p < used os) (hw:wordsOf os'=(wordsOf os).set p w) (hf:FirstOk fs os') (hok:∀ o ∈ os',o.Ok) :
  stOk h ⟨L.wb,p,none⟩∧ArR (setc h ⟨L.wb,p,none⟩ (uv w)) L sz os' wc fc fs∧Kept L.fp h (setc h ⟨L.wb,p,none⟩ (uv w)):=by
 have hu:used os'=used os:=by unfold used; rw [hw,List.length_set]
 have hlen:p < ((wordsOf os).map uv).length:=by rw [List.length_map]; exact hp
 obtain ⟨h1,h2⟩:=r.ws.set hlen (uv w)
 refine ⟨h1,⟨?_,?_,?_,hf,hok,by rw [hu]; exact r.u,r.s,by rw [hu]; exact r.fl,r.d1,r.d2,r.d3⟩,kept_setc h p (uv w) (.inr (.inl rfl))⟩
 ·rw [hu]; exact row_setc_ne r.row _ r.d1
 ·rw [hu,hw,List.map_set]; exact h2
 ·exact r.fsl.keep fun b e=>by obtain rfl:=Option.some.inj e; exact setc_ne h _ _ (Ne.symm r.d3)
def setE (os:List AObj) (at_ j:Int):Int :=
 match (idxI os at_).bind (os[·]?) with
 | none=>23
 | some o=>match o.fwd with
  | some _=>26
  | none=>if 0 ≤ j∧j < (o.flds.length:Int) then 0 else 24
theorem aset_ok (r:ArR h L sz os wc fc fs) {at_ j:Int} {v:Nat} (hv:v < 18446744073709551616) {R:Value→Hp→Prop} (hbad:setE os at_ j ≠ 0→R (.int .i64 (setE os at_ j)) h)
  (hgood:∀ i o (k:Nat) h',idxI os at_=some i→os[i]?=some o→o.fwd=none→j=k→k < o.flds.length→ArR h' L sz (os.modify i fun o=>o.setF k v) wc fc fs→Kept L.fp h h'→R (.int .i64 0) h') :
  CallTo Try.prog 123 #[.pointer (some (ad L.pb)),.int .i64 at_,.int .i64 j,uv v] h R:=by
 refine f123F_ok ?_
 unfold f123F
 refine fields_ok r (fun he=>?_) fun i o a he hi ho hf ha hp=>?_
 ·refine ⟨⟨_,_,_⟩,_,_,rfl,Cond_t (by simpa using he) ?_⟩
  unfold setE at hbad
  unfold objE at he ⊢
  cases hx:(idxI os at_).bind (os[·]?) with
  | none=>rw [hx] at hbad; exact hbad (by simp)
  | some o =>
   rw [hx] at hbad he
   simp only at hbad he ⊢
   cases hf:o.fwd with
   | some t=>rw [hf] at hbad; exact hbad (by simp)
   | none=>rw [hf] at he; simp at he
 ·refine ⟨⟨_,_,_⟩,_,_,rfl,Cond_f rfl ?_⟩
  unfold setE at hbad
  rw [hi] at hbad
  simp only [Option.bind_some,ho,hf] at hbad
  unfold f123K1
  refine Cond_dec (fun hj=>?_) fun hj=>?_
  ·rw [if_neg (show ¬ (0 ≤ j∧j < (o.flds.length:Int)) by omega)] at hbad
   exact hbad (by simp)
  ·obtain ⟨k,rfl⟩:=Int.eq_ofNat_of_zero_le (show 0 ≤ j by omega)
   refine Cond_dec (fun hk=>?_) fun hk=>?_
   ·have hk:(k:Int) ≥ ((o.flds.length:Nat):Int):=hk
    rw [if_neg (show ¬ ((0:Int) ≤ (k:Int)∧(k:Int) < (o.flds.length:Int)) by omega)] at hbad
    exact hbad (by simp)
   ·have hk:k < o.flds.length:=by have:¬ (k:Int) ≥ ((o.flds.length:Nat):Int):=hk; omega
    refine ⟨⟨by omega,?_⟩,PtrOk_of (hp (by omega)) ?_⟩
    ·show (k:Int) < ((o.flds.length:Nat):Int); omega
    ·rw [Int.toNat_natCast,add_mk,Nat.mul_one]
     have hps:=pos_size_le ho
     obtain ⟨h1,h2,h3⟩:=r.setw (p:=pos os i + 1 + k) (w:=v) (os':=os.modify i fun o=>o.setF k v) (by unfold AObj.size at hps; omega) (words_setF ho hk) (r.first.modify fun o=>o.size_setF k v)
      (ok_modify r.ok fun o ho=>ho.setF hv)
     exact ⟨h1,hgood i o k _ hi ho hf rfl hk h2 h3⟩

/-! ### extend -/
structure Raw (h:Hp) (L:ArLoc) (sz:Nat) (ws:List Nat) (wc:Nat) (fs:List Nat) (fc:Nat):Prop where
 row:Row h L.pb [.int .i64 sz,.slice (some (ad L.wb)) ws.length wc,.slice (some (ad L.fb)) fs.length fc]
 ws:SlAt 1 h (some (ad L.wb)) ws.length wc (some L.wb) (ws.map uv)
 fsl:SlAt 1 h (some (ad L.fb)) fs.length fc (some L.fb) (fs.map uv)
 d1:L.pb ≠ L.wb
 d2:L.pb ≠ L.fb
 d3:L.wb ≠ L.fb
theorem ArR.raw (r:ArR h L sz os wc fc fs):Raw h L sz (wordsOf os) wc fs fc:=⟨r.row,r.ws,r.fsl,r.d1,r.d2,r.d3⟩
structure Grown (h:Hp) (L L':ArLoc) (h':Hp):Prop where
 pb:L'.pb=L.pb
 fp:∀ b,L'.fp b→L.fp b ∨ h.size ≤ b
 kept:Kept L.fp h h'
theorem Grown.refl (h:Hp) (L:ArLoc):Grown h L L h:=⟨rfl,fun _=>.inl,Kept.refl _ _⟩
theorem Grown.trans {a b c:Hp} {L L' L'':ArLoc} (g:Grown a L L' b) (k:Grown b L' L'' c):Grown a L L'' c :=
 ⟨k.pb.trans g.pb,fun x hx=>by
  rcases k.fp x hx with h | h
  ·exact g.fp x h
  ·exact .inr (Nat.le_trans g.kept.1 h),
  ⟨Nat.le_trans g.kept.1 k.kept.1,fun i hi hs=>(k.kept.2 i (Nat.lt_of_lt_of_le hi g.kept.1) fun hx=>(g.fp i hx).elim hs fun h=>by omega).trans (g.kept.2 i hi hs)⟩⟩
theorem Raw.c1 {ws:List Nat} (r:Raw h L sz ws wc fs fc):cell h ((ad L.pb).add 1)=some (.slice (some (ad L.wb)) ws.length wc):=by rw [add_ad,cell_row r.row]; rfl
theorem Raw.c2 {ws:List Nat} (r:Raw h L sz ws wc fs fc):cell h ((ad L.pb).add 2)=some (.slice (some (ad L.fb)) fs.length fc):=by rw [add_ad,cell_row r.row]; rfl
theorem Raw.lt {ws:List Nat} (r:Raw h L sz ws wc fs fc):∀ b,L.fp b→b < h.size:=by
 rintro b (rfl | rfl | rfl)
 ·exact row_lt r.row
 ·exact r.ws.lt
 ·exact r.fsl.lt
/-- Words are appended, and the place of the slice is noted. -/
theorem raw_appW {ws news:List Nat} (r:Raw h L sz ws wc fs fc) (hb:ws.length + news.length ≤ 100000000) {h1:Hp} (k:Kept N h h1) {K:Option Addr→Nat→Nat→Hp→Prop}
  (hK:∀ a' c' h2,(∃ L' ,stOk h2 ⟨L.pb,1,none⟩∧Raw (setc h2 ⟨L.pb,1,none⟩ (.slice a' (ws.length + news.length) c')) L' sz (ws ++ news) c' fs fc∧Grown h L L' (setc h2 ⟨L.pb,1,none⟩ (.slice a' (ws.length + news.length) c')))→K a' (ws.length + news.length) c' h2) :
  appT 106 1 8 #[.int .u64 0] (some (ad L.wb)) ws.length wc (ws.length + news.length) (news.map uv) h1 K:=by
 have s1:=slat_kept r.ws k id
 refine appT_ok2 s1 rfl (by rw [List.length_map]; omega) (by intro v hv; obtain ⟨n,_,rfl⟩:=List.mem_map.1 hv; rfl) (by omega) (by omega) fun a' c' ob' h2 s2 hcase=>?_
 have row1:=kept_row k r.row id
 have fsl1:=slat_kept r.fsl k id
 have hlt:=r.lt
 have hk1:=k.1
 have fin:∀ wb':Nat,ob'=some wb'→wb' ≠ L.pb→wb' ≠ L.fb→(wb'=L.wb ∨ h.size ≤ wb')→Kept (fun b=>b=L.wb) h1 h2→K a' (ws.length + news.length) c' h2:=by
  rintro wb' rfl n1 n2 hfp k2
  have row2:=kept_row k2 row1 r.d1
  have fsl2:=slat_kept fsl1 k2 (Ne.symm r.d3)
  obtain ⟨rfl,_,_⟩:=s2.row wb' rfl
  refine hK _ c' h2 ⟨⟨L.pb,wb',L.fb⟩,stOk_row row2 (by simp),⟨?_,?_,?_,Ne.symm n1,r.d2,n2⟩,⟨rfl,?_,?_⟩⟩
  ·have:=row_setc row2 1 (.slice (some (ad wb')) (ws.length + news.length) c')
   rw [List.length_append]
   exact this
  ·rw [List.length_append,List.map_append]
   exact s2.keep fun b e=>by obtain rfl:=Option.some.inj e; exact setc_ne h2 _ _ n1
  ·exact fsl2.keep fun b e=>by obtain rfl:=Option.some.inj e; exact setc_ne h2 _ _ (Ne.symm r.d2)
  ·rintro b (rfl | rfl | rfl)
   ·exact .inl (.inl rfl)
   ·rcases hfp with rfl | h
    ·exact .inl (.inr (.inl rfl))
    ·exact .inr h
   ·exact .inl (.inr (.inr rfl))
  ·refine ⟨by rw [size_setc]; exact Nat.le_trans k.1 k2.1,fun i hi hs=>?_⟩
   rw [setc_ne h2 _ _ (fun e=>hs (.inl e)),k2.2 i (Nat.lt_of_lt_of_le hi k.1) (fun e=>hs (.inr (.inl e)))]
   exact k.2 i hi id
 rcases hcase with ⟨rfl,k2⟩ | ⟨rfl,k2⟩
 ·exact fin L.wb rfl (Ne.symm r.d1) r.d3 (.inl rfl) (k2.mono fun _ _ e=>(Option.some.inj e).symm)
 ·have p1:=hlt _ (.inl rfl)
  have p2:=hlt _ (.inr (.inr rfl))
  exact fin h1.size rfl (by omega) (by omega) (.inr hk1) (k2.mono fun _ _ e=>e.elim)

theorem raw_appF {ws news:List Nat} (r:Raw h L sz ws wc fs fc) (hb:fs.length + news.length ≤ 100000000) {h1:Hp} (k:Kept N h h1) {K:Option Addr→Nat→Nat→Hp→Prop}
  (hK:∀ a' c' h2,(∃ L' ,stOk h2 ⟨L.pb,2,none⟩∧Raw (setc h2 ⟨L.pb,2,none⟩ (.slice a' (fs.length + news.length) c')) L' sz ws wc (fs ++ news) c'∧Grown h L L' (setc h2 ⟨L.pb,2,none⟩ (.slice a' (fs.length + news.length) c')))→K a' (fs.length + news.length) c' h2) :
  appT 106 1 8 #[.int .u64 0] (some (ad L.fb)) fs.length fc (fs.length + news.length) (news.map uv) h1 K:=by
 have s1:=slat_kept r.fsl k id
 refine appT_ok2 s1 rfl (by rw [List.length_map]; omega) (by intro v hv; obtain ⟨n,_,rfl⟩:=List.mem_map.1 hv; rfl) (by omega) (by omega) fun a' c' ob' h2 s2 hcase=>?_
 have row1:=kept_row k r.row id
 have ws1:=slat_kept r.ws k id
 have hlt:=r.lt
 have hk1:=k.1
 have fin:∀ fb':Nat,ob'=some fb'→fb' ≠ L.pb→fb' ≠ L.wb→(fb'=L.fb ∨ h.size ≤ fb')→Kept (fun b=>b=L.fb) h1 h2→K a' (fs.length + news.length) c' h2:=by
  rintro fb' rfl n1 n2 hfp k2
  have row2:=kept_row k2 row1 r.d2
  have ws2:=slat_kept ws1 k2 r.d3
  obtain ⟨rfl,_,_⟩:=s2.row fb' rfl
  refine hK _ c' h2 ⟨⟨L.pb,L.wb,fb'⟩,stOk_row row2 (by simp),⟨?_,?_,?_,r.d1,Ne.symm n1,Ne.symm n2⟩,⟨rfl,?_,?_⟩⟩
  ·have:=row_setc row2 2 (.slice (some (ad fb')) (fs.length + news.length) c')
   rw [List.length_append]
   exact this
  ·exact ws2.keep fun b e=>by obtain rfl:=Option.some.inj e; exact setc_ne h2 _ _ (Ne.symm r.d1)
  ·rw [List.length_append,List.map_append]
   exact s2.keep fun b e=>by obtain rfl:=Option.some.inj e; exact setc_ne h2 _ _ n1
  ·rintro b (rfl | rfl | rfl)
   ·exact .inl (.inl rfl)
   ·exact .inl (.inr (.inl rfl))
   ·rcases hfp with rfl | h
    ·exact .inl (.inr (.inr rfl))
    ·exact .inr h
  ·refine ⟨by rw [size_setc]; exact Nat.le_trans k.1 k2.1,fun i hi hs=>?_⟩
   rw [setc_ne h2 _ _ (fun e=>hs (.inl e)),k2.2 i (Nat.lt_of_lt_of_le hi k.1) (fun e=>hs (.inr (.inr e)))]
   exact k.2 i hi id
 rcases hcase with ⟨rfl,k2⟩ | ⟨rfl,k2⟩
 ·exact fin L.fb rfl (Ne.symm r.d2) (Ne.symm r.d3) (.inl rfl) (k2.mono fun _ _ e=>(Option.some.inj e).symm)
 ·have p1:=hlt _ (.inl rfl)
  have p2:=hlt _ (.inr (.inl rfl))
  exact fin h1.size rfl (by omega) (by omega) (.inr hk1) (k2.mono fun _ _ e=>e.elim)
theorem Raw.setW {ws:List Nat} (r:Raw h L sz ws wc fs fc) {p w:Nat} (hp:p < ws.length):stOk h ⟨L.wb,p,none⟩∧Raw (setc h ⟨L.wb,p,none⟩ (uv w)) L sz (ws.set p w) wc fs fc∧Grown h L L (setc h ⟨L.wb,p,none⟩ (uv w)):=by
 obtain ⟨h1,h2⟩:=r.ws.set (by rw [List.length_map]; exact hp) (uv w)
 refine ⟨h1,⟨?_,?_,?_,r.d1,r.d2,r.d3⟩,⟨rfl,fun _=>.inl,kept_setc h p (uv w) (.inr (.inl rfl))⟩⟩
 ·rw [List.length_set]; exact row_setc_ne r.row _ r.d1
 ·rw [List.length_set,List.map_set]; exact h2
 ·exact r.fsl.keep fun b e=>by obtain rfl:=Option.some.inj e; exact setc_ne h _ _ (Ne.symm r.d3)
theorem Raw.setB {ws:List Nat} (r:Raw h L sz ws wc fs fc) {p w:Nat} (hp:p < fs.length):stOk h ⟨L.fb,p,none⟩∧Raw (setc h ⟨L.fb,p,none⟩ (uv w)) L sz ws wc (fs.set p w) fc∧Grown h L L (setc h ⟨L.fb,p,none⟩ (uv w)):=by
 obtain ⟨h1,h2⟩:=r.fsl.set (by rw [List.length_map]; exact hp) (uv w)
 refine ⟨h1,⟨?_,?_,?_,r.d1,r.d2,r.d3⟩,⟨rfl,fun _=>.inl,kept_setc h p (uv w) (.inr (.inr rfl))⟩⟩
 ·rw [List.length_set]; exact row_setc_ne r.row _ r.d2
 ·exact r.ws.keep fun b e=>by obtain rfl:=Option.some.inj e; exact setc_ne h _ _ r.d3
 ·rw [List.length_set,List.map_set]; exact h2
theorem Raw.bit {ws:List Nat} (r:Raw h L sz ws wc fs fc) {i w:Nat} (hw:fs[i]?=some w):cell h ((ad L.fb).add (i * 1))=some (uv w):=by
 rw [add_ad,Nat.mul_one]
 have hi:=(List.getElem?_eq_some_iff.1 hw).1
 rw [r.fsl.cell (by rw [List.length_map]; exact hi),List.getElem?_map,hw]
 rfl
theorem zeros_uv (n:Nat):(zrow #[.int .u64 0] (n * 1)).toList=(List.replicate n 0).map uv:=by
 rw [zrow_one,List.map_replicate]
 rfl
def J79 (h:Hp) (L:ArLoc) (sz:Nat) (ws fs:List Nat) (at_:Nat):Nat→Option Addr→Int→Hp→Prop:=fun m s0 s7 h'=>∃ (L':ArLoc) (k wc' fc':Nat),
 s0=some (ad L.pb)∧s7=at_∧m=ws.length - (fs.length + k)∧Raw h' L' sz ws wc' (fs ++ List.replicate k 0) fc'∧Grown h L L' h'∧(fs.length + k) * 64 < ws.length + 64
theorem extend_ok (r:ArR h L sz os wc fc fs) (o:AObj) (hok:o.Ok) {hd n:Nat} (he:o.enc=hd :: List.replicate (n - 1) 0) (hn:n=o.size) (hfit:used os + o.size ≤ sz) {R:Value→Hp→Prop}
  (hR:∀ h' L',Ar h' L' sz (os ++ [o])→Grown h L L' h'→R (.int .i64 (used os:Nat)) h'):CallTo Try.prog 80 #[.pointer (some (ad L.pb)),uv hd,.int .i64 n] h R:=by
 refine f80F_ok ?_
 unfold f80F
 have hs:=r.s
 have ho1:=size_pos o
 have hul:(wordsOf os).length=used os:=rfl
 refine PtrOk_mk ⟨⟨some (ad L.wb),used os,wc⟩,r.c1,PtrOk_mk ⟨⟨some (ad L.wb),used os,wc⟩,r.c1,⟨by omega,by omega⟩,by omega,?_⟩⟩
 show appT 106 1 8 #[.int .u64 0] (some (ad L.wb)) (used os) wc (used os + n) (zrow #[.int .u64 0] (n * 1)).toList h _
 rw [zeros_uv]
 have hz:used os + n=(wordsOf os).length + (List.replicate n 0).length:=by rw [List.length_replicate]; rfl
 rw [hz]
 refine raw_appW r.raw (by rw [List.length_replicate]; omega) (Kept.refl _ _) fun a' c' h2 ⟨L1,hst,r1,g1⟩=>PtrOk_mk ?_
 have e1:(ad L.pb).add 1=⟨L.pb,1,none⟩:=add_ad _ _
 simp only [e1]
 refine ⟨hst,Let_mk fun h3 e3=>?_⟩
 rw [← e3] at r1 g1
 refine PtrOk_mk ⟨⟨_,_,_⟩,by have:=r1.c1; rw [g1.pb,e1] at this; exact this,⟨by omega,?_⟩,PtrOk_mk ?_⟩
 ·show ((used os:Nat):Int) < (((wordsOf os ++ List.replicate n 0).length:Nat):Int)
  rw [List.length_append,List.length_replicate,hul]; omega
 ·have e2:(ad L1.wb).add ((((used os:Nat):Int)).toNat * 1)=⟨L1.wb,used os,none⟩:=by rw [add_ad,Int.toNat_natCast,Nat.mul_one]
  simp only [e2]
  obtain ⟨hst2,r2,g2⟩:=r1.setW (p:=used os) (w:=hd) (by rw [List.length_append,List.length_replicate,hul]; omega)
  refine ⟨hst2,Let_mk fun h4 e4=>?_⟩
  rw [show setc h3 ⟨L1.wb,used os,none⟩ (uv hd)=h4 from e4.symm] at r2 g2
  have hws:(wordsOf os ++ List.replicate n 0).set (used os) hd=wordsOf (os ++ [o]):=by
   rw [wordsOf_snoc,he,List.set_append_right _ _ (by rw [hul]; exact Nat.le_refl _),hul,Nat.sub_self]
   congr 1
   cases n with
   | zero=>omega
   | succ n=>rfl
  rw [hws] at r2
  have hwl:(wordsOf (os ++ [o])).length=used os + o.size:=used_snoc os o
  have hfl:=r.fl
  refine f80L1_rule (J79 h L sz (wordsOf (os ++ [o])) fs (used os)) (used os + o.size - fs.length) ⟨L1,0,_,_,rfl,rfl,by rw [hwl]; rfl,by rw [List.replicate_zero,List.append_nil]; exact r2,g1.trans g2,by omega⟩ ?_
  rintro m s0 s7 g h5 ⟨L2,k,wc2,fc2,rfl,rfl,rfl,r3,g3,hk⟩
  unfold f80L1
  have c2:=r3.c2
  have c1:=r3.c1
  rw [g3.pb] at c1 c2
  have hl2:(fs ++ List.replicate k 0).length=fs.length + k:=by rw [List.length_append,List.length_replicate]
  refine PtrOk_mk ⟨⟨_,_,_⟩,c2,PtrOk_mk ⟨⟨_,_,_⟩,c1,?_⟩⟩
  rw [hl2] at c2
  rw [hwl] at c1 hk
  have ew:IntKind.wrap .i64 (((fs.length + k:Nat):Int) * (64:Int))=(((fs.length + k) * 64:Nat):Int):=by rw [wrap_ar (by omega) (by omega)]; omega
  simp only [hl2,hwl,ew]
  refine Cond_dec (fun hlt=>?_) fun hge=>?_
  ·have hlt':(((fs.length + k) * 64:Nat):Int) < (((wordsOf (os ++ [o])).length:Nat):Int):=hlt
   rw [hwl] at hlt'
   clear hlt
   have hlt:(fs.length + k) * 64 < used os + o.size:=by omega
   refine PtrOk_mk ⟨⟨_,_,_⟩,c2,Let_mk fun h6 e6=>?_⟩
   have k6:Kept N h5 h6:=e6 ▸ kept_push _ _ _
   refine ⟨[0].map uv,reads_row (e6 ▸ row_new h5 #[.int .u64 0] 106) (fun j v hj=>by rw [Nat.zero_add]; exact hj),rfl,?_⟩
   have:=raw_appF (news:=[0]) r3 (by rw [hl2]; show fs.length + k + 1 ≤ 100000000; omega) k6 (K:=fun ra rn rc h7=>PtrOk (some (ad L.pb)) fun p48=>stOk h7 (p48.add 2)∧Let (setc h7 (p48.add 2) (.slice ra rn rc)) fun h8 =>
    ∃ m,m < used os + o.size - (fs.length + k)∧J79 h L sz (wordsOf (os ++ [o])) fs (used os) m (some (ad L.pb)) (used os:Nat) h8) ?_
   ·rw [hl2] at this
    exact this
   ·rintro a7 c7 h7 ⟨L3,hst7,r7,g7⟩
    rw [g3.pb] at hst7 r7 g7
    refine PtrOk_mk ?_
    have e2:(ad L.pb).add 2=⟨L.pb,2,none⟩:=add_ad _ _
    simp only [e2]
    refine ⟨hst7,Let_mk fun h8 e8=>?_⟩
    rw [← e8] at r7 g7
    have r8:Raw h8 L3 sz (wordsOf (os ++ [o])) wc2 (fs ++ List.replicate (k + 1) 0) c7:=by
     rw [List.replicate_succ',← List.append_assoc]
     exact r7
    exact ⟨used os + o.size - (fs.length + (k + 1)),by omega,L3,k + 1,wc2,c7,rfl,rfl,by rw [hwl],r8,g3.trans g7,by rw [hwl]; omega⟩
  ·have hge':¬ (((fs.length + k) * 64:Nat):Int) < (((wordsOf (os ++ [o])).length:Nat):Int):=hge
   rw [hwl] at hge'
   clear hge
   have hge:used os + o.size ≤ (fs.length + k) * 64:=by omega
   have hi:used os / 64 < (fs ++ List.replicate k 0).length:=by rw [hl2]; omega
   obtain ⟨w,hw⟩:∃ w,(fs ++ List.replicate k 0)[used os / 64]?=some w:=⟨_,List.getElem?_eq_getElem hi⟩
   have hwlt:w < 18446744073709551616:=by
    rcases List.mem_append.1 (List.mem_of_getElem? hw) with hx | hx
    ·exact r.first.lt _ hx
    ·rw [(List.mem_replicate.1 hx).2]; omega
   have hgd:(fs ++ List.replicate k 0).getD (used os / 64) 0=w:=by rw [List.getD_eq_getElem?_getD,hw]; rfl
   rw [div64 (by omega),mod64]
   simp only [Int.toNat_natCast]
   have hbit:=r3.bit hw
   rw [hl2] at hi
   have cb:(0:Int) ≤ ((used os / 64:Nat):Int)∧((used os / 64:Nat):Int) < ((fs.length + k:Nat):Int):=by omega
   refine PtrOk_mk ⟨⟨_,_,_⟩,c2,by omega,cb,PtrOk_mk ⟨_,hbit,by omega,by omega,cb,PtrOk_mk ?_⟩⟩
   have e2:(ad L2.fb).add (used os / 64 * 1)=⟨L2.fb,used os / 64,none⟩:=by rw [add_ad,Nat.mul_one]
   have em:min (used os % 64) (IntKind.bits .u64)=used os % 64:=by rw [bits_u64]; omega
   have ep:(1:Int) * 2 ^ (used os % 64)=((2 ^ (used os % 64):Nat):Int):=by rw [Int.one_mul]; norm_cast
   have h2p:2 ^ (used os % 64) < 2 ^ 64:=Nat.pow_lt_pow_right (by omega) (by omega)
   have h2p':2 ^ (used os % 64) < 18446744073709551616:=h2p
   rw [em,ep,wrap_u64' (Int.natCast_nonneg _) (Int.ofNat_lt.2 h2p'),orI_nat hwlt h2p']
   simp only [e2]
   obtain ⟨hst4,r4,g4⟩:=r3.setB (p:=used os / 64) (w:=w ||| 2 ^ (used os % 64)) (by rw [hl2]; exact hi)
   refine ⟨hst4,Let_mk fun h9 e9=>?_⟩
   rw [show setc h5 ⟨L2.fb,used os / 64,none⟩ (uv (w ||| 2 ^ (used os % 64)))=h9 from e9.symm] at r4 g4
   refine hR h9 L2 ⟨wc2,fc2,(fs ++ List.replicate k 0).set (used os / 64) (w ||| 2 ^ (used os % 64)),?_⟩ (g3.trans g4)
   have hsn:=r.first.snoc (o:=o) (k:=k) (by omega)
   rw [hgd] at hsn
   refine ⟨r4.row,r4.ws,r4.fsl,hsn,?_,by rw [used_snoc]; exact hfit,hs,?_,r4.d1,r4.d2,r4.d3⟩
   ·intro x hx
    rcases List.mem_append.1 hx with hx | hx
    ·exact r.ok x hx
    ·rw [List.mem_singleton.1 hx]; exact hok
   ·rw [List.length_set,hl2,used_snoc]; exact hk
end
end Go.Ev
set_option linter.all false
set_option maxRecDepth 100000
namespace Go.Ev
open Go.Proofs
section
variable {h h':Hp} {L:ArLoc} {sz:Nat} {os:List AObj} {wc fc:Nat} {fs:List Nat}
def newO (k r w:Nat):AObj:=⟨k,List.replicate r 0,List.replicate w 0,none⟩
theorem newO_size (k r w:Nat):(newO k r w).size=1 + r + w:=by rw [AObj.size_eq]; simp [newO]
theorem newO_enc (k r w:Nat):(newO k r w).enc=hdw k r w :: List.replicate (r + w) 0:=by
 unfold AObj.enc AObj.head AObj.flds newO
 simp
theorem newO_ok {k r w:Nat} (h1:1 ≤ k) (h2:k ≤ 255) (h3:r ≤ 1048576) (h4:w ≤ 1048576):(newO k r w).Ok :=
 ⟨h1,h2,by simpa [newO] using h3,by simpa [newO] using h4,by intro x hx; unfold AObj.flds newO at hx; simp at hx; omega,nofun⟩
def Shape (k r w:Int):Prop:=(1 ≤ k∧k ≤ 255)∧(0 ≤ r∧r ≤ 1048576)∧(0 ≤ w∧w ≤ 1048576)
theorem aalloc_ok (r:ArR h L sz os wc fc fs) {k rf w:Int} {R:Value→Hp→Prop} (hbad:¬ Shape k rf w→R (.tuple #[.int .i64 0,.int .i64 21]) h)
  (hfull:Shape k rf w→(sz:Int) < used os + 1 + rf + w→R (.tuple #[.int .i64 0,.int .i64 22]) h)
  (hgood:∀ h' L',Shape k rf w→(used os:Int) + 1 + rf + w ≤ sz→Ar h' L' sz (os ++ [newO k.toNat rf.toNat w.toNat])→Grown h L L' h'→R (.tuple #[.int .i64 (used os:Nat),.int .i64 0]) h') :
  CallTo Try.prog 65 #[.pointer (some (ad L.pb)),.int .i64 k,.int .i64 rf,.int .i64 w] h R:=by
 refine f65F_ok ?_
 unfold f65F
 have hs:=r.s
 have hu:=r.u
 refine head_ok ?_
 split
 ·rename_i hsh
  obtain ⟨⟨k1,k2⟩,⟨r1,r2⟩,⟨w1,w2⟩⟩:=hsh
  refine ⟨_,_,rfl,Cond_f rfl (PtrOk_mk ⟨_,r.c0,PtrOk_mk ⟨⟨some (ad L.wb),used os,wc⟩,r.c1,?_⟩⟩)⟩
  have e1:IntKind.wrap .i64 (1 + rf)=1 + rf:=wrap_ar (by omega) (by omega)
  have e2:IntKind.wrap .i64 (1 + rf + w)=1 + rf + w:=wrap_ar (by omega) (by omega)
  have e3:IntKind.wrap .i64 ((sz:Int) - ((used os:Nat):Int))=(sz:Int) - ((used os:Nat):Int):=wrap_ar (by omega) (by omega)
  simp only [e1,e2,e3]
  refine Cond_dec (fun hgt=>hfull ⟨⟨k1,k2⟩,⟨r1,r2⟩,⟨w1,w2⟩⟩ (by omega)) fun hle=>?_
  obtain ⟨k,rfl⟩:=Int.eq_ofNat_of_zero_le (show 0 ≤ k by omega)
  obtain ⟨rf,rfl⟩:=Int.eq_ofNat_of_zero_le r1
  obtain ⟨w,rfl⟩:=Int.eq_ofNat_of_zero_le w1
  simp only [Int.toNat_natCast] at hgood ⊢
  have en:(1:Int) + (rf:Int) + (w:Int)=((1 + rf + w:Nat):Int):=by omega
  rw [en]
  refine extend_ok r (newO k rf w) (newO_ok (by omega) (by omega) (by omega) (by omega)) (n:=1 + rf + w) (by rw [newO_enc,show 1 + rf + w - 1=rf + w by omega]) (newO_size k rf w).symm (by rw [newO_size]; omega) fun h' L' ha hg=>?_
  exact ⟨_,rfl,hgood h' L' ⟨⟨k1,k2⟩,⟨r1,r2⟩,⟨w1,w2⟩⟩ (by omega) ha hg⟩
 ·rename_i hsh
  exact ⟨_,_,rfl,Cond_t rfl (hbad hsh)⟩
theorem ar_new {sz:Nat} (h1:1 ≤ sz) (h2:sz ≤ 1048576) {h:Hp} {pb wb fb:Nat} (hp:Row h pb [.int .i64 sz,.slice (some (ad wb)) 1 1,.slice (some (ad fb)) 1 1]) (hw:Row h wb [uv 0]) (hf:Row h fb [uv 0])
  (d1:pb ≠ wb) (d2:pb ≠ fb) (d3:wb ≠ fb):Ar h ⟨pb,wb,fb⟩ sz [] :=
 ⟨1,1,[0],hp,⟨rfl,nofun,fun b e=>by obtain rfl:=Option.some.inj e; exact ⟨rfl,Nat.le_refl _,[],hw,rfl⟩⟩,⟨rfl,nofun,fun b e=>by obtain rfl:=Option.some.inj e; exact ⟨rfl,Nat.le_refl _,[],hf,rfl⟩⟩,
  firstOk_nil,nofun,h1,h2,by decide,d1,d2,d3⟩
theorem zrow1:zrow #[.int .u64 0] ((1:Int).toNat * 1)=#[uv 0]:=by
 show zrow #[.int .u64 0] (1 * 1)=_
 rw [zrow_one]; rfl
theorem anew_ok {sz:Int} {R:Value→Hp→Prop} (hbad:¬ (1 ≤ sz∧sz ≤ 1048576)→R (.tuple #[.pointer none,.int .i64 20]) h)
  (hgood:∀ L h',1 ≤ sz∧sz ≤ 1048576→Ar h' L sz.toNat []→(∀ b,L.fp b→h.size ≤ b)→Kept N h h'→R (.tuple #[.pointer (some (ad L.pb)),.int .i64 0]) h'):CallTo Try.prog 39 #[.int .i64 sz] h R:=by
 refine f39F_ok ?_
 unfold f39F
 refine Cond_dec (fun c=>?_) fun c1=>?_
 ·unfold f39K1; exact hbad (by omega)
 unfold f39K1
 refine Cond_dec (fun c=>hbad (by omega)) fun c2=>?_
 obtain ⟨n,rfl⟩:=Int.eq_ofNat_of_zero_le (show 0 ≤ sz by omega)
 simp only [zrow1]
 have kp:∀ h1 h2 h3:Hp,∀ o1 o2 o3,h1=h.push o1→h2=h1.push o2→h3=h2.push o3→Kept N h h3:=fun h1 h2 h3 o1 o2 o3 e1 e2 e3=>by
  subst e1 e2 e3
  exact ((kept_push _ _ _).trans (kept_push _ _ _)).trans (kept_push _ _ _)
 refine ⟨⟨by omega,by omega,by omega,Let_mk fun h1 e1=>⟨by omega,by omega,by omega,Let_mk fun h2 e2=>Let_mk fun h3 e3=>?_⟩⟩,⟨by omega,by omega,by omega,Let_mk fun h1 e1=>⟨by omega,by omega,by omega,Let_mk fun h2 e2=>Let_mk fun h3 e3=>?_⟩⟩⟩
 ·have z1:h1.size=h.size + 1:=by rw [e1]; simp
  have z2:h2.size=h1.size + 1:=by rw [e2]; simp
  have r1:Row h3 h.size [uv 0]:=by rw [e3]; exact row_push (by rw [e2]; exact row_push (by rw [e1]; exact row_new h #[uv 0] 106) _) _
  have r2:Row h3 h1.size [uv 0]:=by rw [e3]; exact row_push (by rw [e2]; exact row_new h1 #[uv 0] 106) _
  have r3:Row h3 h2.size [.int .i64 (n:Int),.slice (some (ad h.size)) 1 1,.slice (some (ad h1.size)) 1 1]:=by rw [e3]; exact row_new h2 _ 131
  refine hgood ⟨h2.size,h.size,h1.size⟩ h3 (by omega) (by rw [Int.toNat_natCast]; exact ar_new (by omega) (by omega) r3 r1 r2 (by omega) (by omega) (by omega)) ?_ (kp _ _ _ _ _ _ e1 e2 e3)
  rintro b (e | e | e) <;> (subst e; simp only; omega)
 ·have z1:h1.size=h.size + 1:=by rw [e1]; simp
  have z2:h2.size=h1.size + 1:=by rw [e2]; simp
  have r1:Row h3 h.size [uv 0]:=by rw [e3]; exact row_push (by rw [e2]; exact row_push (by rw [e1]; exact row_new h #[uv 0] 106) _) _
  have r2:Row h3 h1.size [uv 0]:=by rw [e3]; exact row_push (by rw [e2]; exact row_new h1 #[uv 0] 106) _
  have r3:Row h3 h2.size [.int .i64 (n:Int),.slice (some (ad h1.size)) 1 1,.slice (some (ad h.size)) 1 1]:=by rw [e3]; exact row_new h2 _ 131
  refine hgood ⟨h2.size,h1.size,h.size⟩ h3 (by omega) (by rw [Int.toNat_natCast]; exact ar_new (by omega) (by omega) r3 r2 r1 (by omega) (by omega) (by omega)) ?_ (kp _ _ _ _ _ _ e1 e2 e3)
  rintro b (e | e | e) <;> (subst e; simp only; omega)
theorem aclear_ok (r:ArR h L sz os wc fc fs) {R:Value→Hp→Prop} (hR:∀ h' L',Ar h' L' sz []→Grown h L L' h'→R (.tuple #[]) h'):CallTo Try.prog 72 #[.pointer (some (ad L.pb))] h R:=by
 refine f72F_ok ?_
 unfold f72F
 simp only [zrow1]
 have hu:=r.u
 have hu1:=used_pos os
 have hp:=r.lt _ (.inl rfl)
 refine ⟨by omega,by omega,by omega,Let_mk fun h1 e1=>PtrOk_mk ?_⟩
 have x1:(ad L.pb).add 1=⟨L.pb,1,none⟩:=add_ad _ _
 have x2:(ad L.pb).add 2=⟨L.pb,2,none⟩:=add_ad _ _
 simp only [x1]
 have z1:h1.size=h.size + 1:=by rw [e1]; simp
 have p1:=row_push r.row (.cells #[uv 0] 106)
 rw [← e1] at p1
 have w1:Row h1 h.size [uv 0]:=by rw [e1]; exact row_new h #[uv 0] 106
 refine ⟨stOk_row p1 (by simp),Let_mk fun h2 e2=>⟨by omega,by omega,by omega,Let_mk fun h3 e3=>PtrOk_mk ?_⟩⟩
 have p2:=row_setc p1 1 (.slice (some (nb h)) ((1:Int).toNat) ((1:Int).toNat))
 rw [← e2] at p2
 have w2:Row h2 h.size [uv 0]:=by rw [e2]; exact row_setc_ne w1 _ (by show h.size ≠ L.pb; omega)
 have z2:h2.size=h1.size:=by rw [e2]; exact size_setc _ _ _
 have p3:=row_push p2 (.cells #[uv 0] 106)
 rw [← e3] at p3
 have w3:Row h3 h.size [uv 0]:=by rw [e3]; exact row_push w2 _
 have f3:Row h3 h2.size [uv 0]:=by rw [e3]; exact row_new h2 #[uv 0] 106
 simp only [x2]
 refine ⟨stOk_row p3 (by simp),Let_mk fun h4 e4=>?_⟩
 have p4:=row_setc p3 2 (.slice (some (nb h2)) ((1:Int).toNat) ((1:Int).toNat))
 rw [← e4] at p4
 have w4:Row h4 h.size [uv 0]:=by rw [e4]; exact row_setc_ne w3 _ (by show h.size ≠ L.pb; omega)
 have f4:Row h4 h2.size [uv 0]:=by rw [e4]; exact row_setc_ne f3 _ (by show h2.size ≠ L.pb; omega)
 refine hR h4 ⟨L.pb,h.size,h2.size⟩ (ar_new (by omega) r.s p4 w4 f4 (by omega) (by omega) (by omega)) ⟨rfl,?_,?_⟩
 ·rintro b (rfl | rfl | rfl)
  ·exact .inl (.inl rfl)
  ·exact .inr (Nat.le_refl _)
  ·exact .inr (by show h.size ≤ h2.size; omega)
 ·have k1:Kept L.fp h h1:=by rw [e1]; exact kept_push _ _ _
  have k2:Kept L.fp h1 h2:=by rw [e2]; exact kept_setc h1 1 _ (.inl rfl)
  have k3:Kept L.fp h2 h3:=by rw [e3]; exact kept_push _ _ _
  have k4:Kept L.fp h3 h4:=by rw [e4]; exact kept_setc h3 2 _ (.inl rfl)
  exact ((k1.trans k2).trans k3).trans k4
/-! ### Take -/
theorem ovw_app {vs junk l:List Value} {o:Nat} (h:o + l.length ≤ vs.length):ovw (vs ++ junk) o l=ovw vs o l ++ junk:=by
 unfold ovw
 rw [List.take_append_of_le_length (by omega),List.drop_append_of_le_length h,List.append_assoc,List.append_assoc,List.append_assoc]
theorem slat_ovw {sz:Nat} {h h':Hp} {a:Option Addr} {n c b:Nat} {vs junk l:List Value} {o:Nat} (s:SlAt sz h a n c (some b) vs) (hl:o + l.length ≤ vs.length) (hj:vs.length + junk.length=c * sz)
  (hr:Row h' b (ovw (vs ++ junk) o l)):SlAt sz h' a n c (some b) (ovw vs o l):=by
 obtain ⟨h1,h2,_,_,_⟩:=s.row b rfl
 refine ⟨by rw [ovw_len hl]; exact s.len,nofun,fun b' e=>?_⟩
 obtain rfl:=Option.some.inj e
 exact ⟨h1,h2,junk,by rw [← ovw_app hl]; exact hr,by rw [ovw_len hl]; exact hj⟩
def ovwN (ws:List Nat) (p:Nat) (ns:List Nat):List Nat:=ws.take p ++ ns ++ ws.drop (p + ns.length)
theorem ovwN_map (ws:List Nat) (p:Nat) (ns:List Nat):(ovwN ws p ns).map uv=ovw (ws.map uv) p (ns.map uv):=by
 unfold ovwN ovw
 rw [List.map_append,List.map_append,List.map_take,List.map_drop,List.length_map]
theorem ovwN_len {ws ns:List Nat} {p:Nat} (h:p + ns.length ≤ ws.length):(ovwN ws p ns).length=ws.length:=by unfold ovwN; simp; omega
theorem uv_cells (ns:List Nat):∀ v ∈ ns.map uv,isCell v=true:=by intro v hv; obtain ⟨n,_,rfl⟩:=List.mem_map.1 hv; rfl
theorem Raw.setWs {ws:List Nat} (r:Raw h L sz ws wc fs fc) {p:Nat} {ns:List Nat} (hp:p + ns.length ≤ ws.length) :
  stsOk h ⟨L.wb,p,none⟩ (ns.map uv) 0∧Raw (setcs h ⟨L.wb,p,none⟩ (ns.map uv) 0) L sz (ovwN ws p ns) wc fs fc∧Grown h L L (setcs h ⟨L.wb,p,none⟩ (ns.map uv) 0):=by
 obtain ⟨h1,h2,junk,hr,hj⟩:=r.ws.row _ rfl
 have hfit:p + 0 + (ns.map uv).length ≤ (ws.map uv ++ junk).length:=by simp; omega
 have hrow:=row_setcs (ns.map uv) h _ p 0 hr hfit
 rw [Nat.add_zero] at hrow
 refine ⟨stsOk_row _ h _ p 0 hr hfit (uv_cells ns),⟨?_,?_,?_,r.d1,r.d2,r.d3⟩,⟨rfl,fun _=>.inl,kept_setcs h p 0 _ (.inr (.inl rfl))⟩⟩
 ·rw [ovwN_len hp]; exact row_keep r.row (setcs_ne _ h p 0 r.d1)
 ·rw [ovwN_len hp,ovwN_map]
  exact slat_ovw r.ws (by simp; omega) hj hrow
 ·exact r.fsl.keep fun b e=>by obtain rfl:=Option.some.inj e; exact setcs_ne _ h p 0 (Ne.symm r.d3)
theorem modify_last {α:Type} (x:α) (f:α→α):∀ l:List α,(l ++ [x]).modify l.length f=l ++ [f x]
 | []=>rfl
 | a :: l=>by
  show (a :: (l ++ [x])).modify (l.length + 1) f=_
  rw [List.modify_succ_cons,modify_last x f l]
  rfl
def Grown2 (h:Hp) (Ls Ld Ld':ArLoc) (h':Hp):Prop:=Ld'.pb=Ld.pb∧(∀ b,Ld'.fp b→Ld.fp b ∨ h.size ≤ b)∧Kept (fun b=>Ls.fp b ∨ Ld.fp b) h h'
theorem fwd_ok {o:AObj} (ho:o.Ok) {t:Nat} (ht:t < 9223372036854775808):({ o with fwd:=some t }:AObj).Ok :=
 ⟨ho.k1,ho.k2,ho.nr,ho.nw,ho.fl,fun t' e=>by obtain rfl:=Option.some.inj e; exact ht⟩
theorem take_moved {Ls Ld:ArLoc} {szs:Nat} {oss:List AObj} {wcs fcs:Nat} {fss:List Nat} (rs:ArR h Ls szs oss wcs fcs fss) {i:Nat} {o:AObj} (ho:oss[i]?=some o) {t:Nat} (hf:o.fwd=some t)
  {R:Value→Hp→Prop} (hR:R (.tuple #[.int .i64 (t:Int),.int .i64 0]) h):CallTo Try.prog 77 #[.pointer (some (ad Ld.pb)),.pointer (some (ad Ls.pb)),.int .i64 (pos oss i:Int)] h R:=by
 refine f77F_ok ?_
 unfold f77F
 have hm:movedV oss (pos oss i:Int)=.tuple #[.int .i64 (t:Int),.bool true,.int .i64 0]:=by
  unfold movedV
  rw [idxI_nat,idx_pos (List.getElem?_eq_some_iff.1 ho).1]
  simp only [Option.bind_some,ho,hf]
 refine moved_ok rs ?_
 rw [hm]
 exact ⟨_,_,_,rfl,Cond_f rfl (by unfold f77K1; exact hR)⟩
theorem take_ok {Ls Ld:ArLoc} {szs:Nat} {oss:List AObj} {wcs fcs:Nat} {fss:List Nat} {szd:Nat} {osd:List AObj} {wcd fcd:Nat} {fsd:List Nat} (rs:ArR h Ls szs oss wcs fcs fss) (rd:ArR h Ld szd osd wcd fcd fsd)
  (hdis:∀ b,Ls.fp b→¬ Ld.fp b) {i:Nat} {o:AObj} (ho:oss[i]?=some o) (hf:o.fwd=none) (hfit:used osd + o.size ≤ szd)
  {R:Value→Hp→Prop} (hR:∀ h' Ld',Ar h' Ls szs (oss.modify i fun o=>{ o with fwd:=some (used osd) })→Ar h' Ld' szd (osd ++ [o])→Grown2 h Ls Ld Ld' h'→R (.tuple #[.int .i64 (used osd:Nat),.int .i64 0]) h') :
  CallTo Try.prog 77 #[.pointer (some (ad Ld.pb)),.pointer (some (ad Ls.pb)),.int .i64 (pos oss i:Int)] h R:=by
 refine f77F_ok ?_
 unfold f77F
 have hil:=(List.getElem?_eq_some_iff.1 ho).1
 have hoo:=rs.ok o (List.mem_of_getElem? ho)
 have hm:movedV oss (pos oss i:Int)=.tuple #[.int .i64 0,.bool false,.int .i64 0]:=by
  unfold movedV
  rw [idxI_nat,idx_pos hil]
  simp only [Option.bind_some,ho,hf]
 refine moved_ok rs ?_
 rw [hm]
 refine ⟨_,_,_,rfl,Cond_f rfl ?_⟩
 unfold f77K1
 refine Cond_f rfl ?_
 refine fields_ok rs (fun he=>?_) fun i' o' a he hi' ho' hf' ha hp=>?_
 ·exfalso
  apply he
  unfold objE
  rw [idxI_nat,idx_pos hil]
  simp only [Option.bind_some,ho,hf]
  rfl
 rw [idxI_nat,idx_pos hil] at hi'
 obtain rfl:=Option.some.inj hi'
 rw [ho] at ho'
 obtain rfl:=Option.some.inj ho'
 have hsd:=rd.s
 have hss:=rs.s
 have hus:=rs.u
 have hps:=pos_size_le ho
 have hpl:=pos_lt_used hil
 have hsz:o.size=1 + o.flds.length:=rfl
 have e1:IntKind.wrap .i64 ((1:Int) + ((o.flds.length:Nat):Int))=((o.size:Nat):Int):=by rw [wrap_ar (by omega) (by omega)]; omega
 have e2:IntKind.wrap .i64 ((szd:Int) - ((used osd:Nat):Int))=(szd:Int) - ((used osd:Nat):Int):=wrap_ar (by omega) (by omega)
 refine ⟨⟨a,o.flds.length,o.flds.length⟩,_,_,rfl,Cond_f rfl (PtrOk_mk ⟨_,rd.c0,PtrOk_mk ⟨⟨some (ad Ld.wb),used osd,wcd⟩,rd.c1,?_⟩⟩)⟩
 simp only [e1,e2]
 refine Cond_dec (fun hgt=>by omega) fun _=>?_
 have hw:cell h ((ad Ls.wb).add ((pos oss i:Int).toNat * 1))=some (.int .u64 (o.head:Int)):=by
  rw [Int.toNat_natCast]; exact rs.word (word_head ho)
 refine PtrOk_mk ⟨⟨some (ad Ls.wb),used oss,wcs⟩,rs.c1,rs.at_ok ho,PtrOk_mk ⟨_,hw,?_⟩⟩
 obtain ⟨hh,hhl⟩:=AObj.head_plain hoo hf
 have hen:o.flds.length=o.refs.length + o.raws.length:=by unfold AObj.flds; simp
 refine extend_ok rd (newO o.kind o.refs.length o.raws.length) (newO_ok hoo.k1 hoo.k2 hoo.nr hoo.nw) (n:=o.size) (by rw [newO_enc,hh,hsz,show 1 + o.flds.length - 1=o.refs.length + o.raws.length by omega]) (by rw [newO_size,hsz]; omega)
  (by rw [newO_size]; omega) fun h3 L3 ha3 g3=>⟨_,rfl,?_⟩
 obtain ⟨wc3,fc3,fs3,r3⟩:=ha3
 have rs3:ArR h3 Ls szs oss wcs fcs fss:=rs.keep g3.kept hdis
 have hu3:used (osd ++ [newO o.kind o.refs.length o.raws.length])=used osd + o.size:=by rw [used_snoc,newO_size]; omega
 have c13:=r3.c1
 rw [g3.pb,hu3] at c13
 have e3:IntKind.wrap .i64 (((used osd:Nat):Int) + 1)=((used osd + 1:Nat):Int):=by rw [wrap_ar (by omega) (by omega)]; omega
 have e4:IntKind.wrap .i64 ((pos oss i:Int) + ((o.size:Nat):Int))=((pos oss i + o.size:Nat):Int):=by rw [wrap_ar (by omega) (by omega)]; omega
 have e5:IntKind.wrap .i64 ((pos oss i:Int) + 1)=((pos oss i + 1:Nat):Int):=by rw [wrap_ar (by omega) (by omega)]; omega
 have hcap:=(rs3.ws.row _ rfl).2.1
 refine PtrOk_mk ⟨⟨some (ad L3.wb),used osd + o.size,wc3⟩,c13,?_⟩
 simp only [e3,e4,e5,Int.toNat_natCast]
 refine ⟨⟨by omega,by omega⟩,PtrOk_mk ⟨⟨some (ad Ls.wb),used oss,wcs⟩,rs3.c1,?_⟩⟩
 refine ⟨⟨by omega,?_⟩,⟨by omega,by omega⟩,?_⟩
 ·show ((pos oss i + o.size:Nat):Int) ≤ ((wcs:Nat):Int); omega
 have emin:min (pos oss i + o.size - (pos oss i + 1)) (used osd + o.size - (used osd + 1))=o.flds.length:=by omega
 obtain ⟨_,_,junk,hrow,_⟩:=rs3.ws.row _ rfl
 refine ⟨o.flds.map uv,?_,by rw [emin,List.length_map,Nat.mul_one],?_⟩
 ·by_cases h0:o.flds.length=0
  ·rw [List.length_eq_zero_iff.1 h0]
   split
   ·intro j v hj; simp at hj
   ·intro j v hj; simp at hj
  ·have hne:¬ wcs=pos oss i + 1:=by omega
   rw [if_neg hne]
   show Reads h3 ((ad Ls.wb).add ((pos oss i + 1) * 1)) _
   rw [add_ad,Nat.mul_one]
   refine reads_row hrow fun j v hj=>?_
   rw [List.getElem?_map] at hj
   have hj1:j < o.flds.length:=by
    rcases Nat.lt_or_ge j o.flds.length with h | h
    ·exact h
    ·rw [List.getElem?_eq_none h] at hj; cases hj
   rw [List.getElem?_append_left (by rw [List.length_map]; show _ < used oss; omega),List.getElem?_map,word_fld ho hj1]
   exact hj
 -- behind the copy: the object, whole
 have key:∀ h4,Raw h4 L3 szd (ovwN (wordsOf (osd ++ [newO o.kind o.refs.length o.raws.length])) (used osd + 1) o.flds) wc3 fs3 fc3→Grown h3 L3 L3 h4 →
   PtrOk (some (ad Ls.pb)) fun p82=>∃ t84:Sl,cell h4 (p82.add 1)=some (.slice t84.a t84.n t84.c)∧(0 ≤ (pos oss i:Int)∧(pos oss i:Int) < ((t84.n:Nat):Int))∧PtrOk t84.a fun p89=>stOk h4 (p89.add ((pos oss i:Int).toNat * 1)) ∧
    Let (setc h4 (p89.add ((pos oss i:Int).toNat * 1)) (.int .u64 (orI .u64 (9223372036854775808:Int) (IntKind.wrap .u64 ((used osd:Nat):Int))))) fun h5=>R (.tuple #[.int .i64 ((used osd:Nat):Int),.int .i64 0]:Value) h5:=by
  intro h4 r4 g4
  have hws:ovwN (wordsOf (osd ++ [newO o.kind o.refs.length o.raws.length])) (used osd + 1) o.flds=wordsOf (osd ++ [o]):=by
   rw [wordsOf_snoc,wordsOf_snoc,newO_enc]
   have hl:(wordsOf osd).length=used osd:=rfl
   unfold ovwN
   have d1:(wordsOf osd).drop (used osd + 1 + o.flds.length)=[]:=List.drop_eq_nil_of_le (by rw [hl]; omega)
   have d2:List.drop (used osd + 1 + o.flds.length - used osd) (hdw o.kind o.refs.length o.raws.length :: List.replicate (o.refs.length + o.raws.length) 0)=[]:=List.drop_eq_nil_of_le (by simp; omega)
   have d3:(wordsOf osd).take (used osd + 1)=wordsOf osd:=List.take_of_length_le (by rw [hl]; omega)
   rw [List.take_append,List.drop_append,hl,d1,d2,d3,show used osd + 1 - used osd=1 by omega]
   unfold AObj.enc
   rw [hh]
   simp
  rw [hws] at r4
  have hlen:(wordsOf (osd ++ [o])).length=used osd + o.size:=used_snoc osd o
  have hfirst:FirstOk fs3 (osd ++ [o]):=by
   have:=r3.first.modify (i:=osd.length) (f:=fun x=>if x.size=o.size then o else x) (fun x=>by split <;> simp_all)
   have e:(osd ++ [newO o.kind o.refs.length o.raws.length]).modify osd.length (fun x=>if x.size=o.size then o else x)=osd ++ [o]:=by
    rw [modify_last]
    simp [newO_size,hsz,hen]
    omega
   rw [e] at this
   exact this
  have rd4:ArR h4 L3 szd (osd ++ [o]) wc3 fc3 fs3:=by
   refine ⟨r4.row,r4.ws,r4.fsl,hfirst,?_,by rw [used_snoc]; exact hfit,hsd,?_,r4.d1,r4.d2,r4.d3⟩
   ·intro x hx
    rcases List.mem_append.1 hx with hx | hx
    ·exact rd.ok x hx
    ·rw [List.mem_singleton.1 hx]; exact hoo
   ·have:=r3.fl; rw [hu3] at this; rw [used_snoc]; exact this
  have hdis3:∀ b,Ls.fp b→¬ L3.fp b:=fun b hb h3b=>by
   rcases g3.fp b h3b with h | h
   ·exact hdis b hb h
   ·have:=rs.lt b hb; omega
  have rs4:ArR h4 Ls szs oss wcs fcs fss:=rs3.keep g4.kept hdis3
  refine PtrOk_mk ⟨⟨some (ad Ls.wb),used oss,wcs⟩,rs4.c1,rs4.at_ok ho,PtrOk_mk ?_⟩
  have e6:(ad Ls.wb).add ((pos oss i:Int).toNat * 1)=⟨Ls.wb,pos oss i,none⟩:=by rw [add_ad,Int.toNat_natCast,Nat.mul_one]
  rw [wrap_u64' (by omega) (by omega),orI_gone (by omega) (by omega)]
  simp only [e6]
  obtain ⟨hst,r5,k5⟩:=rs4.setw (p:=pos oss i) (w:=9223372036854775808 + used osd) (os':=oss.modify i fun o=>{ o with fwd:=some (used osd) }) (by omega) (words_fwd ho) (rs.first.modify fun _=>rfl)
   (ok_modify rs.ok fun o ho=>fwd_ok ho (by omega))
  have ev:(.int .u64 ((9223372036854775808:Int) + ((used osd:Nat):Int)):Value)=uv (9223372036854775808 + used osd):=rfl
  rw [ev]
  refine ⟨hst,hR _ L3 ⟨_,_,_,r5⟩ ⟨_,_,_,rd4.keep k5 fun b hb hs=>hdis3 b hs hb⟩ ⟨g3.pb,g3.fp,?_⟩⟩
  refine ⟨Nat.le_trans g3.kept.1 (Nat.le_trans g4.kept.1 k5.1),fun j hj hn=>?_⟩
  have j3:=Nat.lt_of_lt_of_le hj g3.kept.1
  rw [k5.2 j (Nat.lt_of_lt_of_le j3 g4.kept.1) (fun e=>hn (.inl e)),g4.kept.2 j j3 (fun e=>(g3.fp j e).elim (fun h=>hn (.inr h)) fun h=>by omega)]
  exact g3.kept.2 j hj (fun e=>hn (.inr e))
 by_cases h0:wc3=used osd + 1
 ·have hz:o.flds.length=0:=by
   have:=(r3.ws.row _ rfl).2.1
   rw [hu3] at this
   omega
  rw [if_pos h0]
  have hnil:o.flds=[]:=List.length_eq_zero_iff.1 hz
  rw [hnil] at key ⊢
  refine ⟨trivial,?_⟩
  refine key _ ?_ (Grown.refl _ _)
  have:ovwN (wordsOf (osd ++ [newO o.kind o.refs.length o.raws.length])) (used osd + 1) []=wordsOf (osd ++ [newO o.kind o.refs.length o.raws.length]):=by unfold ovwN; simp
  rw [this]
  exact r3.raw
 ·rw [if_neg h0]
  have ea:((ad L3.wb).add ((used osd + 1) * 1)).add 0=⟨L3.wb,used osd + 1,none⟩:=by rw [add_ad,Nat.mul_one,add_mk]
  obtain ⟨hst,r4,g4⟩:=r3.raw.setWs (p:=used osd + 1) (ns:=o.flds) (by show _ ≤ used (osd ++ [newO o.kind o.refs.length o.raws.length]); omega)
  show stsOk h3 (((ad L3.wb).add ((used osd + 1) * 1)).add (0)) (o.flds.map uv) 0∧_
  rw [ea]
  exact ⟨hst,key _ r4 g4⟩
end
end Go.Ev
