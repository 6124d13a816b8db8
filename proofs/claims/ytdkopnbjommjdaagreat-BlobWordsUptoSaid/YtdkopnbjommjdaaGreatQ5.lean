/- The arena's calls: what each does to a block of words, said of the objects that lie in it. No condition but that these are ones. -/
import Derived.Test.YtdkopnbjommjdaaGreatQ3
import Derived.Test.YtdkopnbjommjdaaGreatQ4
set_option linter.all false
namespace Go.Ev
open Go.Proofs
def uv (n:Nat):Value:=.int .u64 (n:Int)
/-! ### word -/
theorem hdw_or {k r w:Nat} (hk:k ≤ 255) (hr:r ≤ 1048576) (hw:w ≤ 1048576):(k * 2 ^ 0 ||| r * 2 ^ 8) ||| w * 2 ^ 32=hdw k r w:=by
 have h1:k * 2 ^ 0 ||| r * 2 ^ 8=r * 2 ^ 8 + k:=by
  rw [Nat.or_comm,Nat.mul_comm r,Nat.two_pow_add_eq_or_of_lt (by omega),Nat.pow_zero,Nat.mul_one]
 rw [h1,Nat.or_comm,Nat.mul_comm w,← Nat.two_pow_add_eq_or_of_lt (by omega)]
 unfold hdw; omega
theorem head_ok {k r w:Int} {h:Hp} {R:Value→Hp→Prop}
  (hR:if (1 ≤ k∧k ≤ 255)∧(0 ≤ r∧r ≤ 1048576)∧(0 ≤ w∧w ≤ 1048576) then R (.tuple #[uv (hdw k.toNat r.toNat w.toNat),.int .i64 0]) h else R (.tuple #[.int .u64 0,.int .i64 10]) h) :
  CallTo Tryz.prog 103 #[.int .i64 k,.int .i64 r,.int .i64 w] h R:=by
 refine f103F_ok ?_
 have bad:¬ ((1 ≤ k∧k ≤ 255)∧(0 ≤ r∧r ≤ 1048576)∧(0 ≤ w∧w ≤ 1048576))→f103K1 k r w true h R:=fun hn=>by
  rw [if_neg hn] at hR; exact hR
 unfold f103F
 refine Cond_dec (fun c=>bad (by omega)) fun c1=>Cond_dec (fun c=>bad (by omega)) fun c2=>Cond_dec (fun c=>bad (by omega)) fun c3=>Cond_dec (fun c=>bad (by omega)) fun c4=>Cond_dec (fun c=>bad (by omega)) fun c5=>?_
 unfold f103K1
 refine Cond_dec (fun c=>by rw [if_neg (by omega)] at hR; exact hR) fun c6=>?_
 rw [if_pos (by omega)] at hR
 refine ⟨by omega,by omega,by omega,?_⟩
 obtain ⟨k,rfl⟩:=Int.eq_ofNat_of_zero_le (show 0 ≤ k by omega)
 obtain ⟨r,rfl⟩:=Int.eq_ofNat_of_zero_le (show 0 ≤ r by omega)
 obtain ⟨w,rfl⟩:=Int.eq_ofNat_of_zero_le (show 0 ≤ w by omega)
 have e:orI .u64 (orI .u64 (IntKind.wrap .u64 ((IntKind.wrap .u64 (k:Int)) * 2 ^ (min (0:Int).toNat (IntKind.bits .u64)))) (IntKind.wrap .u64 ((IntKind.wrap .u64 (r:Int)) * 2 ^ (min (8:Int).toNat (IntKind.bits .u64))))) (IntKind.wrap .u64 ((IntKind.wrap .u64 (w:Int)) * 2 ^ (min (32:Int).toNat (IntKind.bits .u64))))=((hdw k r w:Nat):Int):=by
  have b0:(2:Int) ^ (min (0:Int).toNat (IntKind.bits .u64))=((2 ^ 0:Nat):Int):=rfl
  have b8:(2:Int) ^ (min (8:Int).toNat (IntKind.bits .u64))=((2 ^ 8:Nat):Int):=rfl
  have b32:(2:Int) ^ (min (32:Int).toNat (IntKind.bits .u64))=((2 ^ 32:Nat):Int):=rfl
  rw [b0,b8,b32,wrap_u64' (x:=(k:Int)) (by omega) (by omega),wrap_u64' (x:=(r:Int)) (by omega) (by omega),wrap_u64' (x:=(w:Int)) (by omega) (by omega)]
  rw [← Int.natCast_mul,← Int.natCast_mul,← Int.natCast_mul]
  rw [wrap_u64' (by omega) (by omega),wrap_u64' (by omega) (by omega),wrap_u64' (by omega) (by omega)]
  rw [orI_nat (by omega) (by omega)]
  have hk':k ≤ 255:=by omega
  have hr':r ≤ 1048576:=by omega
  have hw':w ≤ 1048576:=by omega
  have hlt:(k * 2 ^ 0 ||| r * 2 ^ 8) < 2 ^ 64:=Nat.or_lt_two_pow (by omega) (by omega)
  rw [orI_nat (by omega) (by omega),hdw_or hk' hr' hw']
 rw [e]
 exact hR
theorem split_ok {k r w:Nat} {h:Hp} {R:Value→Hp→Prop} (hk1:1 ≤ k) (hk:k ≤ 255) (hr:r ≤ 1048576) (hw:w ≤ 1048576)
  (hR:R (.tuple #[.int .i64 (k:Int),.int .i64 (r:Int),.int .i64 (w:Int),.int .i64 0]) h):CallTo Tryz.prog 117 #[uv (hdw k r w)] h R:=by
 refine f117F_ok ?_
 have e56:Int.fdiv ((hdw k r w:Nat):Int) (2 ^ (min (56:Int).toNat (IntKind.bits .u64)))=0:=by
  have:(min (56:Int).toNat (IntKind.bits .u64))=56:=rfl
  rw [this,fdiv_pow]
  have:hdw k r w / 2 ^ 56=0:=Nat.div_eq_of_lt (by unfold hdw; omega)
  rw [this]; rfl
 have ek:IntKind.wrap .i64 (andI .u64 ((hdw k r w:Nat):Int) (255:Int))=(k:Int):=by
  have:=andI_nat (a:=hdw k r w) (b:=255) (by unfold hdw; omega) (by omega)
  rw [show ((255:Nat):Int)=(255:Int) from rfl] at this
  rw [this,show (255:Nat)=2 ^ 8 - 1 from rfl,Nat.and_two_pow_sub_one_eq_mod,wrap_i64' (by omega) (by omega)]
  have:hdw k r w % 2 ^ 8=k:=by unfold hdw; omega
  rw [this]
 have er:IntKind.wrap .i64 (andI .u64 (Int.fdiv ((hdw k r w:Nat):Int) (2 ^ (min (8:Int).toNat (IntKind.bits .u64)))) (16777215:Int))=(r:Int):=by
  have h8:(min (8:Int).toNat (IntKind.bits .u64))=8:=rfl
  have hd:hdw k r w / 2 ^ 8=r + w * 2 ^ 24:=by unfold hdw; omega
  rw [h8,fdiv_pow,hd]
  have:=andI_nat (a:=r + w * 2 ^ 24) (b:=16777215) (by omega) (by omega)
  rw [show ((16777215:Nat):Int)=(16777215:Int) from rfl] at this
  rw [this,show (16777215:Nat)=2 ^ 24 - 1 from rfl,Nat.and_two_pow_sub_one_eq_mod,wrap_i64' (by omega) (by omega)]
  have:(r + w * 2 ^ 24) % 2 ^ 24=r:=by omega
  rw [this]
 have ew:IntKind.wrap .i64 (andI .u64 (Int.fdiv ((hdw k r w:Nat):Int) (2 ^ (min (32:Int).toNat (IntKind.bits .u64)))) (16777215:Int))=(w:Int):=by
  have h32:(min (32:Int).toNat (IntKind.bits .u64))=32:=rfl
  have hd:hdw k r w / 2 ^ 32=w:=by unfold hdw; omega
  rw [h32,fdiv_pow,hd]
  have:=andI_nat (a:=w) (b:=16777215) (by omega) (by omega)
  rw [show ((16777215:Nat):Int)=(16777215:Int) from rfl] at this
  rw [this,show (16777215:Nat)=2 ^ 24 - 1 from rfl,Nat.and_two_pow_sub_one_eq_mod,wrap_i64' (by omega) (by omega)]
  have:w % 2 ^ 24=w:=by omega
  rw [this]
 unfold f117F
 simp only [e56,ek,er,ew]
 refine ⟨by omega,by omega,by omega,?_⟩
 refine Cond_f (by simp) (Cond_f (by simp; omega) (Cond_dec (fun c=>by omega) fun _=>?_))
 unfold f117K1
 refine Cond_dec (fun c=>by omega) fun _=>hR
end Go.Ev
set_option linter.all false
set_option maxRecDepth 100000
namespace Go.Ev
open Go.Proofs
theorem PtrOk_mk {a:Addr} {K:Addr→Prop} (h:K a):PtrOk (some a) K:=h
theorem PtrOk_of {x:Option Addr} {a:Addr} {K:Addr→Prop} (e:x=some a) (h:K a):PtrOk x K:=e ▸ h
theorem Let_mk {α:Type} {x:α} {K:α→Prop} (h:∀ y,y=x→K y):Let x K:=h x rfl
abbrev N:Nat→Prop:=fun _=>False
theorem slat_kept {sz:Nat} {h h':Hp} {a:Option Addr} {n c b:Nat} {vs:List Value} {S:Nat→Prop} (s:SlAt sz h a n c (some b) vs) (k:Kept S h h') (hb:¬ S b):SlAt sz h' a n c (some b) vs :=
 s.keep fun b' e=>by obtain rfl:=Option.some.inj e; exact k.2 b s.lt hb
theorem slat_kept' {sz:Nat} {h h':Hp} {a:Option Addr} {n c:Nat} {ob:Option Nat} {vs:List Value} {S:Nat→Prop} (s:SlAt sz h a n c ob vs) (k:Kept S h h') (hb:∀ b,ob=some b→¬ S b):SlAt sz h' a n c ob vs:=by
 cases ob with
 | none=>exact s.keep nofun
 | some b=>exact slat_kept s k (hb b rfl)
def iv (n:Int):Value:=.int .i64 n
structure ArLoc where
 pb:Nat
 wb:Nat
 fb:Nat
def ArLoc.fp (L:ArLoc) (b:Nat):Prop:=b=L.pb ∨ b=L.wb ∨ b=L.fb
structure ArR (h:Hp) (L:ArLoc) (sz:Nat) (os:List AObj) (wc fc:Nat) (fs:List Nat):Prop where
 row:Row h L.pb [.int .i64 sz,.slice (some (ad L.wb)) (used os) wc,.slice (some (ad L.fb)) fs.length fc]
 ws:SlAt 1 h (some (ad L.wb)) (used os) wc (some L.wb) ((wordsOf os).map uv)
 fsl:SlAt 1 h (some (ad L.fb)) fs.length fc (some L.fb) (fs.map uv)
 first:FirstOk fs os
 ok:∀ o ∈ os,o.Ok
 u:used os ≤ sz
 s:sz ≤ 1048576
 fl:fs.length * 64 < used os + 64
 d1:L.pb ≠ L.wb
 d2:L.pb ≠ L.fb
 d3:L.wb ≠ L.fb
def Ar (h:Hp) (L:ArLoc) (sz:Nat) (os:List AObj):Prop:=∃ wc fc fs,ArR h L sz os wc fc fs
/-- The number of the object that begins at a place that may be anything. -/
def idxI (os:List AObj) (at_:Int):Option Nat:=if 0 ≤ at_ then idx os at_.toNat else none
theorem idxI_nat (os:List AObj) (n:Nat):idxI os (n:Int)=idx os n:=by unfold idxI; simp
theorem idxI_some {os:List AObj} {at_:Int} {i:Nat} (h:idxI os at_=some i):∃ o,os[i]?=some o∧at_=(pos os i:Int):=by
 unfold idxI at h
 split at h
 ·rename_i h0
  obtain ⟨h1,h2⟩:=idx_some.1 h
  exact ⟨_,List.getElem?_eq_getElem h1,by omega⟩
 ·cases h
section
variable {h h':Hp} {L:ArLoc} {sz:Nat} {os:List AObj} {wc fc:Nat} {fs:List Nat}
theorem ArR.keep (r:ArR h L sz os wc fc fs) {S:Nat→Prop} (k:Kept S h h') (hS:∀ b,L.fp b→¬ S b):ArR h' L sz os wc fc fs :=
 ⟨kept_row k r.row (hS _ (.inl rfl)),slat_kept r.ws k (hS _ (.inr (.inl rfl))),slat_kept r.fsl k (hS _ (.inr (.inr rfl))),r.first,r.ok,r.u,r.s,r.fl,r.d1,r.d2,r.d3⟩
theorem Ar.keep (r:Ar h L sz os) {S:Nat→Prop} (k:Kept S h h') (hS:∀ b,L.fp b→¬ S b):Ar h' L sz os:=by
 obtain ⟨wc,fc,fs,r⟩:=r
 exact ⟨wc,fc,fs,r.keep k hS⟩
theorem ArR.lt (r:ArR h L sz os wc fc fs):∀ b,L.fp b→b < h.size:=by
 rintro b (rfl | rfl | rfl)
 ·exact row_lt r.row
 ·exact r.ws.lt
 ·exact r.fsl.lt
theorem Ar.lt (r:Ar h L sz os):∀ b,L.fp b→b < h.size:=by obtain ⟨wc,fc,fs,r⟩:=r; exact r.lt
theorem ArR.c0 (r:ArR h L sz os wc fc fs):cell h (ad L.pb)=some (.int .i64 sz):=cell_ad r.row
theorem ArR.c1 (r:ArR h L sz os wc fc fs):cell h ((ad L.pb).add 1)=some (.slice (some (ad L.wb)) (used os) wc):=by rw [add_ad,cell_row r.row]; rfl
theorem ArR.c2 (r:ArR h L sz os wc fc fs):cell h ((ad L.pb).add 2)=some (.slice (some (ad L.fb)) fs.length fc):=by rw [add_ad,cell_row r.row]; rfl
theorem ArR.word (r:ArR h L sz os wc fc fs) {i w:Nat} (hw:(wordsOf os)[i]?=some w):cell h ((ad L.wb).add (i * 1))=some (uv w):=by
 rw [add_ad,Nat.mul_one]
 have hi:=(List.getElem?_eq_some_iff.1 hw).1
 rw [r.ws.cell (by rw [List.length_map]; exact hi),List.getElem?_map,hw]
 rfl
theorem ArR.bit (r:ArR h L sz os wc fc fs) {i w:Nat} (hw:fs[i]?=some w):cell h ((ad L.fb).add (i * 1))=some (uv w):=by
 rw [add_ad,Nat.mul_one]
 have hi:=(List.getElem?_eq_some_iff.1 hw).1
 rw [r.fsl.cell (by rw [List.length_map]; exact hi),List.getElem?_map,hw]
 rfl
theorem div64 {p:Nat} (hp:p < 4611686018427387904):IntKind.wrap .i64 (Int.tdiv (p:Int) (64:Int))=((p / 64:Nat):Int):=by
 rw [tdiv_nn (by omega),wrap_i64' (by omega) (by omega)]; omega
theorem mod64 (p:Nat):Int.tmod (p:Int) (64:Int)=((p % 64:Nat):Int):=by rw [tmod_nn (by omega)]; omega
theorem bits_u64:IntKind.bits .u64=64:=rfl

/-! ### begins, Size, Used -/
theorem begins_ok (r:ArR h L sz os wc fc fs) {at_:Int} {R:Value→Hp→Prop} (hR:R (.bool (idxI os at_).isSome) h):CallTo Tryz.prog 116 #[.pointer (some (ad L.pb)),.int .i64 at_] h R:=by
 refine f116F_ok ?_
 unfold f116F
 have hu:=r.u
 have hs:=r.s
 refine Cond_dec (fun h0=>?_) fun h0=>?_
 ·obtain ⟨p,rfl⟩:=Int.eq_ofNat_of_zero_le (show 0 ≤ at_ by omega)
  refine PtrOk_mk ⟨⟨some (ad L.wb),used os,wc⟩,r.c1,Cond_dec (fun h1=>?_) fun h1=>?_⟩
  ·have h1:p < used os:=by have:(p:Int) < ((used os:Nat):Int):=h1; omega
   have hlen:=r.first.len
   have hfl:p / 64 < fs.length:=by omega
   have hw:fs[p / 64]?=some fs[p / 64]:=List.getElem?_eq_getElem hfl
   have hwl:=r.first.lt _ (List.getElem_mem hfl)
   refine PtrOk_mk ⟨⟨some (ad L.fb),fs.length,fc⟩,r.c2,?_⟩
   rw [div64 (by omega),mod64]
   have hbit:cell h ((ad L.fb).add (((p / 64:Nat):Int).toNat * 1))=some (.int .u64 ((fs[p / 64]:Nat):Int)):=by rw [Int.toNat_natCast]; exact r.bit hw
   refine ⟨by omega,⟨by omega,?_⟩,PtrOk_mk ⟨_,hbit,by omega,by omega,?_⟩⟩
   ·show ((p / 64:Nat):Int) < ((fs.length:Nat):Int); omega
   ·have e:min ((p % 64:Nat):Int).toNat (IntKind.bits .u64)=p % 64:=by rw [bits_u64]; omega
    rw [e,fdiv_pow,andI_one (Nat.lt_of_le_of_lt (Nat.div_le_self _ _) hwl)]
    have hb:=r.first.bit p
    unfold bitAt at hb
    rw [List.getD_eq_getElem?_getD,hw,Option.getD_some,Nat.testBit_eq_decide_div_mod_eq] at hb
    rw [idxI_nat] at hR
    rw [← hb] at hR
    have e2:(((fs[p / 64] / 2 ^ (p % 64) % 2:Nat):Int) == (1:Int))=decide (fs[p / 64] / 2 ^ (p % 64) % 2=1):=by
     generalize fs[p / 64] / 2 ^ (p % 64) % 2=x
     rw [Bool.eq_iff_iff,beq_iff_eq,decide_eq_true_eq]; omega
    rw [e2]
    exact hR
  ·have h1:used os ≤ p:=by have:¬ (p:Int) < ((used os:Nat):Int):=h1; omega
   rw [idxI_nat,idx_none_of_ge h1] at hR
   exact hR
 ·have:idxI os at_=none:=by
   unfold idxI
   split
   ·have:at_.toNat=0:=by omega
    rw [this,idx_zero]
   ·rfl
  rw [this] at hR
  exact hR
theorem asize_ok (r:ArR h L sz os wc fc fs) {R:Value→Hp→Prop} (hR:R (.int .i64 sz) h):CallTo Tryz.prog 28 #[.pointer (some (ad L.pb))] h R:=by
 refine f28F_ok ?_
 unfold f28F
 exact PtrOk_mk ⟨_,r.c0,hR⟩
theorem aused_ok (r:ArR h L sz os wc fc fs) {R:Value→Hp→Prop} (hR:R (.int .i64 (used os:Nat)) h):CallTo Tryz.prog 29 #[.pointer (some (ad L.pb))] h R:=by
 refine f29F_ok ?_
 unfold f29F
 exact PtrOk_mk ⟨⟨_,_,_⟩,r.c1,hR⟩

/-! ### Object, Moved, fields -/
theorem gone_no {w:Nat} (h:w < 9223372036854775808):andI .u64 (w:Int) (9223372036854775808:Int)=0:=by
 rw [andI_gone (by omega) (by omega),if_pos (by omega)]
theorem gone_yes {w:Nat} (h:9223372036854775808 ≤ w) (h1:w < 18446744073709551616):andI .u64 (w:Int) (9223372036854775808:Int)=9223372036854775808:=by
 rw [andI_gone (by omega) (by omega),if_neg (by omega)]
def objV (os:List AObj) (at_:Int):Value :=
 match (idxI os at_).bind (os[·]?) with
 | none=>.tuple #[.int .i64 0,.int .i64 0,.int .i64 0,.int .i64 23]
 | some o=>match o.fwd with
  | some _=>.tuple #[.int .i64 0,.int .i64 0,.int .i64 0,.int .i64 26]
  | none=>.tuple #[.int .i64 (o.kind:Int),.int .i64 (o.refs.length:Int),.int .i64 (o.raws.length:Int),.int .i64 0]
theorem ArR.at_ok (r:ArR h L sz os wc fc fs) {i:Nat} {o:AObj} (ho:os[i]?=some o):(0:Int) ≤ (pos os i:Int)∧(pos os i:Int) < ((used os:Nat):Int):=by
 have:=pos_lt_used (List.getElem?_eq_some_iff.1 ho).1
 omega
theorem aobject_ok (r:ArR h L sz os wc fc fs) {at_:Int} {R:Value→Hp→Prop} (hR:R (objV os at_) h):CallTo Tryz.prog 101 #[.pointer (some (ad L.pb)),.int .i64 at_] h R:=by
 refine f101F_ok ?_
 unfold f101F
 refine begins_ok r ⟨_,rfl,?_⟩
 cases hi:idxI os at_ with
 | none =>
  unfold objV at hR
  rw [hi] at hR
  exact hR
 | some i =>
  obtain ⟨o,ho,rfl⟩:=idxI_some hi
  have hoo:=r.ok o (List.mem_of_getElem? ho)
  have hb:=r.at_ok ho
  have hw:cell h ((ad L.wb).add ((pos os i:Int).toNat * 1))=some (.int .u64 (o.head:Int)):=by
   rw [Int.toNat_natCast]; exact r.word (word_head ho)
  unfold objV at hR
  rw [hi] at hR
  simp only [Option.bind_some,ho] at hR
  refine Cond_f rfl (PtrOk_mk ⟨⟨some (ad L.wb),used os,wc⟩,r.c1,hb,PtrOk_mk ⟨_,hw,?_⟩⟩)
  cases hf:o.fwd with
  | some t =>
   rw [hf] at hR
   have hl:=hoo.fw t hf
   have hh:o.head=9223372036854775808 + t:=by unfold AObj.head; rw [hf]
   exact Cond_t (by rw [hh,gone_yes (by omega) (by omega)]; rfl) hR
  | none =>
   rw [hf] at hR
   obtain ⟨h1,h2⟩:=AObj.head_plain hoo hf
   refine Cond_f (by rw [gone_no h2]; rfl) (PtrOk_mk ⟨⟨some (ad L.wb),used os,wc⟩,r.c1,hb,PtrOk_mk ⟨_,hw,?_⟩⟩)
   rw [h1]
   exact split_ok hoo.k1 hoo.k2 hoo.nr hoo.nw ⟨_,_,_,_,rfl,hR⟩
def movedV (os:List AObj) (at_:Int):Value :=
 match (idxI os at_).bind (os[·]?) with
 | none=>.tuple #[.int .i64 0,.bool false,.int .i64 23]
 | some o=>match o.fwd with
  | some t=>.tuple #[.int .i64 (t:Int),.bool true,.int .i64 0]
  | none=>.tuple #[.int .i64 0,.bool false,.int .i64 0]
theorem moved_ok (r:ArR h L sz os wc fc fs) {at_:Int} {R:Value→Hp→Prop} (hR:R (movedV os at_) h):CallTo Tryz.prog 118 #[.pointer (some (ad L.pb)),.int .i64 at_] h R:=by
 refine f118F_ok ?_
 unfold f118F
 refine begins_ok r ⟨_,rfl,?_⟩
 cases hi:idxI os at_ with
 | none =>
  unfold movedV at hR
  rw [hi] at hR
  exact hR
 | some i =>
  obtain ⟨o,ho,rfl⟩:=idxI_some hi
  have hoo:=r.ok o (List.mem_of_getElem? ho)
  have hb:=r.at_ok ho
  have hw:cell h ((ad L.wb).add ((pos os i:Int).toNat * 1))=some (.int .u64 (o.head:Int)):=by
   rw [Int.toNat_natCast]; exact r.word (word_head ho)
  unfold movedV at hR
  rw [hi] at hR
  simp only [Option.bind_some,ho] at hR
  refine Cond_f rfl (PtrOk_mk ⟨⟨some (ad L.wb),used os,wc⟩,r.c1,hb,PtrOk_mk ⟨_,hw,?_⟩⟩)
  cases hf:o.fwd with
  | some t =>
   rw [hf] at hR
   have hl:=hoo.fw t hf
   have hh:o.head=9223372036854775808 + t:=by unfold AObj.head; rw [hf]
   refine Cond_f (by rw [hh,gone_yes (by omega) (by omega)]; rfl) (PtrOk_mk ⟨⟨some (ad L.wb),used os,wc⟩,r.c1,hb,PtrOk_mk ⟨_,hw,?_⟩⟩)
   rw [hh,andNotI_gone (by omega) (by omega),wrap_i64' (by omega) (by omega)]
   rw [show ((9223372036854775808 + t:Nat):Int) - 9223372036854775808=(t:Int) by omega]
   exact hR
  | none =>
   rw [hf] at hR
   obtain ⟨h1,h2⟩:=AObj.head_plain hoo hf
   exact Cond_t (by rw [gone_no h2]; rfl) hR

theorem wrap_ar {x:Int} (h0:-1000000000 ≤ x) (h1:x ≤ 1000000000):IntKind.wrap .i64 x=x:=wrap_i64' (by omega) (by omega)
/-- 0, or what speaks against an object at that place. -/
def objE (os:List AObj) (at_:Int):Int :=
 match (idxI os at_).bind (os[·]?) with
 | none=>23
 | some o=>if o.fwd.isSome then 26 else 0
theorem objE_zero {os:List AObj} {at_:Int} (h:objE os at_=0):∃ i o,idxI os at_=some i∧os[i]?=some o∧o.fwd=none∧at_=(pos os i:Int)∧objV os at_=.tuple #[.int .i64 (o.kind:Int),.int .i64 (o.refs.length:Int),.int .i64 (o.raws.length:Int),.int .i64 0]:=by
 unfold objE at h
 cases hi:idxI os at_ with
 | none=>rw [hi] at h; simp at h
 | some i =>
  obtain ⟨o,ho,ha⟩:=idxI_some hi
  rw [hi] at h
  simp only [Option.bind_some,ho] at h
  cases hf:o.fwd with
  | some t=>rw [hf] at h; simp at h
  | none=>exact ⟨i,o,rfl,ho,hf,ha,by unfold objV; rw [hi]; simp only [Option.bind_some,ho,hf]⟩
theorem objE_bad {os:List AObj} {at_:Int} (h:objE os at_ ≠ 0):objV os at_=.tuple #[.int .i64 0,.int .i64 0,.int .i64 0,.int .i64 (objE os at_)]:=by
 unfold objE at h ⊢
 unfold objV
 cases hi:(idxI os at_).bind (os[·]?) with
 | none=>rfl
 | some o =>
  rw [hi] at h
  simp only at h ⊢
  cases hf:o.fwd with
  | some t=>rfl
  | none=>rw [hf] at h; simp at h
theorem fields_ok (r:ArR h L sz os wc fc fs) {at_:Int} {R:Value→Hp→Prop} (hbad:objE os at_ ≠ 0→R (.tuple #[.slice none 0 0,.int .i64 0,.int .i64 (objE os at_)]) h)
  (hgood:∀ i o a,objE os at_=0→idxI os at_=some i→os[i]?=some o→o.fwd=none→at_=(pos os i:Int)→(o.flds.length ≠ 0→a=some ⟨L.wb,pos os i + 1,none⟩) →
   R (.tuple #[.slice a o.flds.length o.flds.length,.int .i64 (o.refs.length:Int),.int .i64 0]) h):CallTo Tryz.prog 119 #[.pointer (some (ad L.pb)),.int .i64 at_] h R:=by
 refine f119F_ok ?_
 unfold f119F
 refine aobject_ok r ?_
 by_cases he:objE os at_=0
 ·obtain ⟨i,o,hi,ho,hf,ha,hv⟩:=objE_zero he
  rw [hv]
  refine ⟨_,_,_,_,rfl,Cond_f rfl (PtrOk_mk ⟨⟨some (ad L.wb),used os,wc⟩,r.c1,?_⟩)⟩
  have hps:=pos_size_le ho
  have hoo:=r.ok o (List.mem_of_getElem? ho)
  have hu:=r.u
  have hs:=r.s
  have h1:=(r.ws.row _ rfl).2.1
  have hsz:o.size=1 + o.refs.length + o.raws.length:=o.size_eq
  have hfl:o.flds.length=o.refs.length + o.raws.length:=by unfold AObj.flds; simp
  have hnr:=hoo.nr
  have hnw:=hoo.nw
  have e1:IntKind.wrap .i64 (at_ + 1)=((pos os i + 1:Nat):Int):=by rw [wrap_ar (by omega) (by omega)]; omega
  have e2:IntKind.wrap .i64 (((pos os i + 1:Nat):Int) + (o.refs.length:Int))=((pos os i + 1 + o.refs.length:Nat):Int):=by rw [wrap_ar (by omega) (by omega)]; omega
  have e3:IntKind.wrap .i64 (((pos os i + 1 + o.refs.length:Nat):Int) + (o.raws.length:Int))=((pos os i + 1 + o.flds.length:Nat):Int):=by rw [wrap_ar (by omega) (by omega)]; omega
  simp only [e1,e2,e3,Int.toNat_natCast]
  refine ⟨⟨by omega,?_⟩,⟨by omega,by omega⟩,⟨by omega,by omega⟩,?_⟩
  ·show ((pos os i + 1 + o.flds.length:Nat):Int) ≤ ((wc:Nat):Int); omega
  ·have e4:pos os i + 1 + o.flds.length - (pos os i + 1)=o.flds.length:=by omega
   rw [e4]
   refine hgood i o _ he hi ho hf ha fun hn=>?_
   rw [if_neg (by omega)]
   simp only [Option.map_some,add_ad,Nat.mul_one]
 ·rw [objE_bad he]
  exact ⟨_,_,_,_,rfl,Cond_t (by simpa using he) (hbad he)⟩
def getV (os:List AObj) (at_ j:Int):Value :=
 match (idxI os at_).bind (os[·]?) with
 | none=>.tuple #[.int .u64 0,.int .i64 23]
 | some o=>match o.fwd with
  | some _=>.tuple #[.int .u64 0,.int .i64 26]
  | none=>if 0 ≤ j then (match o.flds[j.toNat]? with | some v=>.tuple #[uv v,.int .i64 0] | none=>.tuple #[.int .u64 0,.int .i64 24]) else .tuple #[.int .u64 0,.int .i64 24]
theorem ArR.fld (r:ArR h L sz os wc fc fs) {i j:Nat} {o:AObj} (ho:os[i]?=some o) (hj:j < o.flds.length):cell h ((⟨L.wb,pos os i + 1,none⟩:Addr).add (j * 1))=some (uv o.flds[j]):=by
 rw [add_mk,Nat.mul_one]
 have:=word_fld ho hj
 have h2:=r.word (i:=pos os i + 1 + j) (w:=o.flds[j]) (by rw [this]; exact List.getElem?_eq_getElem hj)
 rwa [add_ad,Nat.mul_one] at h2
theorem aget_ok (r:ArR h L sz os wc fc fs) {at_ j:Int} {R:Value→Hp→Prop} (hR:R (getV os at_ j) h):CallTo Tryz.prog 137 #[.pointer (some (ad L.pb)),.int .i64 at_,.int .i64 j] h R:=by
 refine f137F_ok ?_
 unfold f137F
 refine fields_ok r (fun he=>?_) fun i o a he hi ho hf ha hp=>?_
 ·refine ⟨⟨_,_,_⟩,_,_,rfl,Cond_t (by simpa using he) ?_⟩
  unfold getV at hR
  unfold objE at he ⊢
  cases hx:(idxI os at_).bind (os[·]?) with
  | none=>rw [hx] at hR; exact hR
  | some o =>
   rw [hx] at hR he
   simp only at hR he ⊢
   cases hf:o.fwd with
   | some t=>rw [hf] at hR; exact hR
   | none=>rw [hf] at he; simp at he
 ·refine ⟨⟨_,_,_⟩,_,_,rfl,Cond_f rfl ?_⟩
  unfold getV at hR
  rw [hi] at hR
  simp only [Option.bind_some,ho,hf] at hR
  unfold f137K1
  refine Cond_dec (fun hj=>?_) fun hj=>?_
  ·rw [if_neg (show ¬ 0 ≤ j by omega)] at hR
   exact hR
  ·obtain ⟨k,rfl⟩:=Int.eq_ofNat_of_zero_le (show 0 ≤ j by omega)
   rw [if_pos (by omega),Int.toNat_natCast] at hR
   refine Cond_dec (fun hk=>?_) fun hk=>?_
   ·have:o.flds.length ≤ k:=by have:(k:Int) ≥ ((o.flds.length:Nat):Int):=hk; omega
    rw [List.getElem?_eq_none this] at hR
    exact hR
   ·have hk:k < o.flds.length:=by have:¬ (k:Int) ≥ ((o.flds.length:Nat):Int):=hk; omega
    rw [List.getElem?_eq_getElem hk] at hR
    refine ⟨⟨by omega,?_⟩,PtrOk_of (hp (by omega)) ⟨_,?_,hR⟩⟩
    ·show (k:Int) < ((o.flds.length:Nat):Int); omega
    ·rw [Int.toNat_natCast]; exact r.fld ho hk

/-! ### Set -/
theorem AObj.Ok.setF {o:AObj} (h:o.Ok) {j v:Nat} (hv:v < 18446744073709551616):(o.setF j v).Ok:=by
 have hfl:∀ x ∈ (o.setF j v).flds,x < 18446744073709551616:=by
  intro x hx
  rw [AObj.flds_setF] at hx
  rcases List.mem_or_eq_of_mem_set hx with hx | hx
  ·exact h.fl x hx
  ·rw [hx]; exact hv
 refine ⟨?_,?_,?_,?_,hfl,?_⟩ <;> unfold AObj.setF <;> split
 ·exact h.k1
 ·exact h.k1
 ·exact h.k2
 ·exact h.k2
 ·simp only [List.length_set]; exact h.nr
 ·exact h.nr
 ·exact h.nw
 ·simp only [List.length_set]; exact h.nw
 ·exact h.fw
 ·exact h.fw
theorem ok_modify {os:List AObj} {i:Nat} {f:AObj→AObj} (h:∀ o ∈ os,o.Ok) (hf:∀ o,o.Ok→(f o).Ok):∀ o ∈ os.modify i f,o.Ok:=by
 intro o ho
 obtain ⟨j,hj⟩:=List.mem_iff_getElem?.1 ho
 rw [List.getElem?_modify] at hj
 cases hx:os[j]? with
 | none=>rw [hx] at hj; simp at hj
 | some x =>
  rw [hx] at hj
  have hxo:=h x (List.mem_of_getElem? hx)
  have hj:some (if i=j then f x else x)=some o:=hj
  have hj:=Option.some.inj hj
  subst hj
  split
  ·exact hf x hxo
  ·exact hxo
/-- One word is written over. -/
theorem ArR.setw (r:ArR h L sz os wc fc fs) {p w:Nat} {os':List AObj} (hp:p < used os) (hw:wordsOf os'=(wordsOf os).set p w) (hf:FirstOk fs os') (hok:∀ o ∈ os',o.Ok) :
  stOk h ⟨L.wb,p,none⟩∧ArR (setc h ⟨L.wb,p,none⟩ (uv w)) L sz os' wc fc fs∧Kept L.fp h (setc h ⟨L.wb,p,none⟩ (uv w)):=by
 have hu:used os'=used os:=by unfold used; rw [hw,List.length_set]
 have hlen:p < ((wordsOf os).map uv).length:=by rw [List.length_map]; exact hp
 obtain ⟨h1,h2⟩:=r.ws.set hlen (uv w)
 refine ⟨h1,⟨?_,?_,?_,hf,hok,by rw [hu]; exact r.u,r.s,by rw [hu]; exact r.fl,r.d1,r.d2,r.d3⟩,kept_setc h p (uv w) (.inr (.inl rfl))⟩
 ·rw [hu]; exact row_setc_ne r.row _ r.d1
 ·rw [hu,hw,List.map_set]; exact h2
 ·exact r.fsl.keep fun b e=>by obtain rfl:=Option.some.inj e; exact setc_ne h _ _ (Ne.symm r.d3)
def setE (os:List AObj) (at_ j:Int):Int :=
 match (idxI os at_).bind (os[·]?) with
 | none=>23
 | some o=>match o.fwd with
  | some _=>26
  | none=>if 0 ≤ j∧j < (o.flds.length:Int) then 0 else 24
theorem aset_ok (r:ArR h L sz os wc fc fs) {at_ j:Int} {v:Nat} (hv:v < 18446744073709551616) {R:Value→Hp→Prop} (hbad:setE os at_ j ≠ 0→R (.int .i64 (setE os at_ j)) h)
  (hgood:∀ i o (k:Nat) h',idxI os at_=some i→os[i]?=some o→o.fwd=none→j=k→k < o.flds.length→ArR h' L sz (os.modify i fun o=>o.setF k v) wc fc fs→Kept L.fp h h'→R (.int .i64 0) h') :
  CallTo Tryz.prog 138 #[.pointer (some (ad L.pb)),.int .i64 at_,.int .i64 j,uv v] h R:=by
 refine f138F_ok ?_
 unfold f138F
 refine fields_ok r (fun he=>?_) fun i o a he hi ho hf ha hp=>?_
 ·refine ⟨⟨_,_,_⟩,_,_,rfl,Cond_t (by simpa using he) ?_⟩
  unfold setE at hbad
  unfold objE at he ⊢
  cases hx:(idxI os at_).bind (os[·]?) with
  | none=>rw [hx] at hbad; exact hbad (by simp)
  | some o =>
   rw [hx] at hbad he
   simp only at hbad he ⊢
   cases hf:o.fwd with
   | some t=>rw [hf] at hbad; exact hbad (by simp)
   | none=>rw [hf] at he; simp at he
 ·refine ⟨⟨_,_,_⟩,_,_,rfl,Cond_f rfl ?_⟩
  unfold setE at hbad
  rw [hi] at hbad
  simp only [Option.bind_some,ho,hf] at hbad
  unfold f138K1
  refine Cond_dec (fun hj=>?_) fun hj=>?_
  ·rw [if_neg (show ¬ (0 ≤ j∧j < (o.flds.length:Int)) by omega)] at hbad
   exact hbad (by simp)
  ·obtain ⟨k,rfl⟩:=Int.eq_ofNat_of_zero_le (show 0 ≤ j by omega)
   refine Cond_dec (fun hk=>?_) fun hk=>?_
   ·have hk:(k:Int) ≥ ((o.flds.length:Nat):Int):=hk
    rw [if_neg (show ¬ ((0:Int) ≤ (k:Int)∧(k:Int) < (o.flds.length:Int)) by omega)] at hbad
    exact hbad (by simp)
   ·have hk:k < o.flds.length:=by have:¬ (k:Int) ≥ ((o.flds.length:Nat):Int):=hk; omega
    refine ⟨⟨by omega,?_⟩,PtrOk_of (hp (by omega)) ?_⟩
    ·show (k:Int) < ((o.flds.length:Nat):Int); omega
    ·rw [Int.toNat_natCast,add_mk,Nat.mul_one]
     have hps:=pos_size_le ho
     obtain ⟨h1,h2,h3⟩:=r.setw (p:=pos os i + 1 + k) (w:=v) (os':=os.modify i fun o=>o.setF k v) (by unfold AObj.size at hps; omega) (words_setF ho hk) (r.first.modify fun o=>o.size_setF k v)
      (ok_modify r.ok fun o ho=>ho.setF hv)
     exact ⟨h1,hgood i o k _ hi ho hf rfl hk h2 h3⟩

/-! ### extend -/
structure Raw (h:Hp) (L:ArLoc) (sz:Nat) (ws:List Nat) (wc:Nat) (fs:List Nat) (fc:Nat):Prop where
 row:Row h L.pb [.int .i64 sz,.slice (some (ad L.wb)) ws.length wc,.slice (some (ad L.fb)) fs.length fc]
 ws:SlAt 1 h (some (ad L.wb)) ws.length wc (some L.wb) (ws.map uv)
 fsl:SlAt 1 h (some (ad L.fb)) fs.length fc (some L.fb) (fs.map uv)
 d1:L.pb ≠ L.wb
 d2:L.pb ≠ L.fb
 d3:L.wb ≠ L.fb
theorem ArR.raw (r:ArR h L sz os wc fc fs):Raw h L sz (wordsOf os) wc fs fc:=⟨r.row,r.ws,r.fsl,r.d1,r.d2,r.d3⟩
structure Grown (h:Hp) (L L':ArLoc) (h':Hp):Prop where
 pb:L'.pb=L.pb
 fp:∀ b,L'.fp b→L.fp b ∨ h.size ≤ b
 kept:Kept L.fp h h'
theorem Grown.refl (h:Hp) (L:ArLoc):Grown h L L h:=⟨rfl,fun _=>.inl,Kept.refl _ _⟩
theorem Grown.trans {a b c:Hp} {L L' L'':ArLoc} (g:Grown a L L' b) (k:Grown b L' L'' c):Grown a L L'' c :=
 ⟨k.pb.trans g.pb,fun x hx=>by
  rcases k.fp x hx with h | h
  ·exact g.fp x h
  ·exact .inr (Nat.le_trans g.kept.1 h),
  ⟨Nat.le_trans g.kept.1 k.kept.1,fun i hi hs=>(k.kept.2 i (Nat.lt_of_lt_of_le hi g.kept.1) fun hx=>(g.fp i hx).elim hs fun h=>by omega).trans (g.kept.2 i hi hs)⟩⟩
theorem Raw.c1 {ws:List Nat} (r:Raw h L sz ws wc fs fc):cell h ((ad L.pb).add 1)=some (.slice (some (ad L.wb)) ws.length wc):=by rw [add_ad,cell_row r.row]; rfl
theorem Raw.c2 {ws:List Nat} (r:Raw h L sz ws wc fs fc):cell h ((ad L.pb).add 2)=some (.slice (some (ad L.fb)) fs.length fc):=by rw [add_ad,cell_row r.row]; rfl
theorem Raw.lt {ws:List Nat} (r:Raw h L sz ws wc fs fc):∀ b,L.fp b→b < h.size:=by
 rintro b (rfl | rfl | rfl)
 ·exact row_lt r.row
 ·exact r.ws.lt
 ·exact r.fsl.lt
/-- Words are appended, and the place of the slice is noted. -/
theorem raw_appW {ws news:List Nat} (r:Raw h L sz ws wc fs fc) (hb:ws.length + news.length ≤ 100000000) {h1:Hp} (k:Kept N h h1) {K:Option Addr→Nat→Nat→Hp→Prop}
  (hK:∀ a' c' h2,(∃ L' ,stOk h2 ⟨L.pb,1,none⟩∧Raw (setc h2 ⟨L.pb,1,none⟩ (.slice a' (ws.length + news.length) c')) L' sz (ws ++ news) c' fs fc∧Grown h L L' (setc h2 ⟨L.pb,1,none⟩ (.slice a' (ws.length + news.length) c')))→K a' (ws.length + news.length) c' h2) :
  appT 77 1 8 #[.int .u64 0] (some (ad L.wb)) ws.length wc (ws.length + news.length) (news.map uv) h1 K:=by
 have s1:=slat_kept r.ws k id
 refine appT_ok2 s1 rfl (by rw [List.length_map]; omega) (by intro v hv; obtain ⟨n,_,rfl⟩:=List.mem_map.1 hv; rfl) (by omega) (by omega) fun a' c' ob' h2 s2 hcase=>?_
 have row1:=kept_row k r.row id
 have fsl1:=slat_kept r.fsl k id
 have hlt:=r.lt
 have hk1:=k.1
 have fin:∀ wb':Nat,ob'=some wb'→wb' ≠ L.pb→wb' ≠ L.fb→(wb'=L.wb ∨ h.size ≤ wb')→Kept (fun b=>b=L.wb) h1 h2→K a' (ws.length + news.length) c' h2:=by
  rintro wb' rfl n1 n2 hfp k2
  have row2:=kept_row k2 row1 r.d1
  have fsl2:=slat_kept fsl1 k2 (Ne.symm r.d3)
  obtain ⟨rfl,_,_⟩:=s2.row wb' rfl
  refine hK _ c' h2 ⟨⟨L.pb,wb',L.fb⟩,stOk_row row2 (by simp),⟨?_,?_,?_,Ne.symm n1,r.d2,n2⟩,⟨rfl,?_,?_⟩⟩
  ·have:=row_setc row2 1 (.slice (some (ad wb')) (ws.length + news.length) c')
   rw [List.length_append]
   exact this
  ·rw [List.length_append,List.map_append]
   exact s2.keep fun b e=>by obtain rfl:=Option.some.inj e; exact setc_ne h2 _ _ n1
  ·exact fsl2.keep fun b e=>by obtain rfl:=Option.some.inj e; exact setc_ne h2 _ _ (Ne.symm r.d2)
  ·rintro b (rfl | rfl | rfl)
   ·exact .inl (.inl rfl)
   ·rcases hfp with rfl | h
    ·exact .inl (.inr (.inl rfl))
    ·exact .inr h
   ·exact .inl (.inr (.inr rfl))
  ·refine ⟨by rw [size_setc]; exact Nat.le_trans k.1 k2.1,fun i hi hs=>?_⟩
   rw [setc_ne h2 _ _ (fun e=>hs (.inl e)),k2.2 i (Nat.lt_of_lt_of_le hi k.1) (fun e=>hs (.inr (.inl e)))]
   exact k.2 i hi id
 rcases hcase with ⟨rfl,k2⟩ | ⟨rfl,k2⟩
 ·exact fin L.wb rfl (Ne.symm r.d1) r.d3 (.inl rfl) (k2.mono fun _ _ e=>(Option.some.inj e).symm)
 ·have p1:=hlt _ (.inl rfl)
  have p2:=hlt _ (.inr (.inr rfl))
  exact fin h1.size rfl (by omega) (by omega) (.inr hk1) (k2.mono fun _ _ e=>e.elim)

theorem raw_appF {ws news:List Nat} (r:Raw h L sz ws wc fs fc) (hb:fs.length + news.length ≤ 100000000) {h1:Hp} (k:Kept N h h1) {K:Option Addr→Nat→Nat→Hp→Prop}
  (hK:∀ a' c' h2,(∃ L' ,stOk h2 ⟨L.pb,2,none⟩∧Raw (setc h2 ⟨L.pb,2,none⟩ (.slice a' (fs.length + news.length) c')) L' sz ws wc (fs ++ news) c'∧Grown h L L' (setc h2 ⟨L.pb,2,none⟩ (.slice a' (fs.length + news.length) c')))→K a' (fs.length + news.length) c' h2) :
  appT 77 1 8 #[.int .u64 0] (some (ad L.fb)) fs.length fc (fs.length + news.length) (news.map uv) h1 K:=by
 have s1:=slat_kept r.fsl k id
 refine appT_ok2 s1 rfl (by rw [List.length_map]; omega) (by intro v hv; obtain ⟨n,_,rfl⟩:=List.mem_map.1 hv; rfl) (by omega) (by omega) fun a' c' ob' h2 s2 hcase=>?_
 have row1:=kept_row k r.row id
 have ws1:=slat_kept r.ws k id
 have hlt:=r.lt
 have hk1:=k.1
 have fin:∀ fb':Nat,ob'=some fb'→fb' ≠ L.pb→fb' ≠ L.wb→(fb'=L.fb ∨ h.size ≤ fb')→Kept (fun b=>b=L.fb) h1 h2→K a' (fs.length + news.length) c' h2:=by
  rintro fb' rfl n1 n2 hfp k2
  have row2:=kept_row k2 row1 r.d2
  have ws2:=slat_kept ws1 k2 r.d3
  obtain ⟨rfl,_,_⟩:=s2.row fb' rfl
  refine hK _ c' h2 ⟨⟨L.pb,L.wb,fb'⟩,stOk_row row2 (by simp),⟨?_,?_,?_,r.d1,Ne.symm n1,Ne.symm n2⟩,⟨rfl,?_,?_⟩⟩
  ·have:=row_setc row2 2 (.slice (some (ad fb')) (fs.length + news.length) c')
   rw [List.length_append]
   exact this
  ·exact ws2.keep fun b e=>by obtain rfl:=Option.some.inj e; exact setc_ne h2 _ _ (Ne.symm r.d1)
  ·rw [List.length_append,List.map_append]
   exact s2.keep fun b e=>by obtain rfl:=Option.some.inj e; exact setc_ne h2 _ _ n1
  ·rintro b (rfl | rfl | rfl)
   ·exact .inl (.inl rfl)
   ·exact .inl (.inr (.inl rfl))
   ·rcases hfp with rfl | h
    ·exact .inl (.inr (.inr rfl))
    ·exact .inr h
  ·refine ⟨by rw [size_setc]; exact Nat.le_trans k.1 k2.1,fun i hi hs=>?_⟩
   rw [setc_ne h2 _ _ (fun e=>hs (.inl e)),k2.2 i (Nat.lt_of_lt_of_le hi k.1) (fun e=>hs (.inr (.inr e)))]
   exact k.2 i hi id
 rcases hcase with ⟨rfl,k2⟩ | ⟨rfl,k2⟩
 ·exact fin L.fb rfl (Ne.symm r.d2) (Ne.symm r.d3) (.inl rfl) (k2.mono fun _ _ e=>(Option.some.inj e).symm)
 ·have p1:=hlt _ (.inl rfl)
  have p2:=hlt _ (.inr (.inl rfl))
  exact fin h1.size rfl (by omega) (by omega) (.inr hk1) (k2.mono fun _ _ e=>e.elim)
theorem Raw.setW {ws:List Nat} (r:Raw h L sz ws wc fs fc) {p w:Nat} (hp:p < ws.length):stOk h ⟨L.wb,p,none⟩∧Raw (setc h ⟨L.wb,p,none⟩ (uv w)) L sz (ws.set p w) wc fs fc∧Grown h L L (setc h ⟨L.wb,p,none⟩ (uv w)):=by
 obtain ⟨h1,h2⟩:=r.ws.set (by rw [List.length_map]; exact hp) (uv w)
 refine ⟨h1,⟨?_,?_,?_,r.d1,r.d2,r.d3⟩,⟨rfl,fun _=>.inl,kept_setc h p (uv w) (.inr (.inl rfl))⟩⟩
 ·rw [List.length_set]; exact row_setc_ne r.row _ r.d1
 ·rw [List.length_set,List.map_set]; exact h2
 ·exact r.fsl.keep fun b e=>by obtain rfl:=Option.some.inj e; exact setc_ne h _ _ (Ne.symm r.d3)
theorem Raw.setB {ws:List Nat} (r:Raw h L sz ws wc fs fc) {p w:Nat} (hp:p < fs.length):stOk h ⟨L.fb,p,none⟩∧Raw (setc h ⟨L.fb,p,none⟩ (uv w)) L sz ws wc (fs.set p w) fc∧Grown h L L (setc h ⟨L.fb,p,none⟩ (uv w)):=by
 obtain ⟨h1,h2⟩:=r.fsl.set (by rw [List.length_map]; exact hp) (uv w)
 refine ⟨h1,⟨?_,?_,?_,r.d1,r.d2,r.d3⟩,⟨rfl,fun _=>.inl,kept_setc h p (uv w) (.inr (.inr rfl))⟩⟩
 ·rw [List.length_set]; exact row_setc_ne r.row _ r.d2
 ·exact r.ws.keep fun b e=>by obtain rfl:=Option.some.inj e; exact setc_ne h _ _ r.d3
 ·rw [List.length_set,List.map_set]; exact h2
theorem Raw.bit {ws:List Nat} (r:Raw h L sz ws wc fs fc) {i w:Nat} (hw:fs[i]?=some w):cell h ((ad L.fb).add (i * 1))=some (uv w):=by
 rw [add_ad,Nat.mul_one]
 have hi:=(List.getElem?_eq_some_iff.1 hw).1
 rw [r.fsl.cell (by rw [List.length_map]; exact hi),List.getElem?_map,hw]
 rfl
theorem zeros_uv (n:Nat):(zrow #[.int .u64 0] (n * 1)).toList=(List.replicate n 0).map uv:=by
 rw [zrow_one,List.map_replicate]
 rfl
def J79 (h:Hp) (L:ArLoc) (sz:Nat) (ws fs:List Nat) (at_:Nat):Nat→Option Addr→Int→Hp→Prop:=fun m s0 s7 h'=>∃ (L':ArLoc) (k wc' fc':Nat),
 s0=some (ad L.pb)∧s7=at_∧m=ws.length - (fs.length + k)∧Raw h' L' sz ws wc' (fs ++ List.replicate k 0) fc'∧Grown h L L' h'∧(fs.length + k) * 64 < ws.length + 64
theorem extend_ok (r:ArR h L sz os wc fc fs) (o:AObj) (hok:o.Ok) {hd n:Nat} (he:o.enc=hd :: List.replicate (n - 1) 0) (hn:n=o.size) (hfit:used os + o.size ≤ sz) {R:Value→Hp→Prop}
  (hR:∀ h' L',Ar h' L' sz (os ++ [o])→Grown h L L' h'→R (.int .i64 (used os:Nat)) h'):CallTo Tryz.prog 104 #[.pointer (some (ad L.pb)),uv hd,.int .i64 n] h R:=by
 refine f104F_ok ?_
 unfold f104F
 have hs:=r.s
 have ho1:=size_pos o
 have hul:(wordsOf os).length=used os:=rfl
 refine PtrOk_mk ⟨⟨some (ad L.wb),used os,wc⟩,r.c1,PtrOk_mk ⟨⟨some (ad L.wb),used os,wc⟩,r.c1,⟨by omega,by omega⟩,by omega,?_⟩⟩
 show appT 77 1 8 #[.int .u64 0] (some (ad L.wb)) (used os) wc (used os + n) (zrow #[.int .u64 0] (n * 1)).toList h _
 rw [zeros_uv]
 have hz:used os + n=(wordsOf os).length + (List.replicate n 0).length:=by rw [List.length_replicate]; rfl
 rw [hz]
 refine raw_appW r.raw (by rw [List.length_replicate]; omega) (Kept.refl _ _) fun a' c' h2 ⟨L1,hst,r1,g1⟩=>PtrOk_mk ?_
 have e1:(ad L.pb).add 1=⟨L.pb,1,none⟩:=add_ad _ _
 simp only [e1]
 refine ⟨hst,Let_mk fun h3 e3=>?_⟩
 rw [← e3] at r1 g1
 refine PtrOk_mk ⟨⟨_,_,_⟩,by have:=r1.c1; rw [g1.pb,e1] at this; exact this,⟨by omega,?_⟩,PtrOk_mk ?_⟩
 ·show ((used os:Nat):Int) < (((wordsOf os ++ List.replicate n 0).length:Nat):Int)
  rw [List.length_append,List.length_replicate,hul]; omega
 ·have e2:(ad L1.wb).add ((((used os:Nat):Int)).toNat * 1)=⟨L1.wb,used os,none⟩:=by rw [add_ad,Int.toNat_natCast,Nat.mul_one]
  simp only [e2]
  obtain ⟨hst2,r2,g2⟩:=r1.setW (p:=used os) (w:=hd) (by rw [List.length_append,List.length_replicate,hul]; omega)
  refine ⟨hst2,Let_mk fun h4 e4=>?_⟩
  rw [show setc h3 ⟨L1.wb,used os,none⟩ (uv hd)=h4 from e4.symm] at r2 g2
  have hws:(wordsOf os ++ List.replicate n 0).set (used os) hd=wordsOf (os ++ [o]):=by
   rw [wordsOf_snoc,he,List.set_append_right _ _ (by rw [hul]; exact Nat.le_refl _),hul,Nat.sub_self]
   congr 1
   cases n with
   | zero=>omega
   | succ n=>rfl
  rw [hws] at r2
  have hwl:(wordsOf (os ++ [o])).length=used os + o.size:=used_snoc os o
  have hfl:=r.fl
  refine f104L1_rule (J79 h L sz (wordsOf (os ++ [o])) fs (used os)) (used os + o.size - fs.length) ⟨L1,0,_,_,rfl,rfl,by rw [hwl]; rfl,by rw [List.replicate_zero,List.append_nil]; exact r2,g1.trans g2,by omega⟩ ?_
  rintro m s0 s7 g h5 ⟨L2,k,wc2,fc2,rfl,rfl,rfl,r3,g3,hk⟩
  unfold f104L1
  have c2:=r3.c2
  have c1:=r3.c1
  rw [g3.pb] at c1 c2
  have hl2:(fs ++ List.replicate k 0).length=fs.length + k:=by rw [List.length_append,List.length_replicate]
  refine PtrOk_mk ⟨⟨_,_,_⟩,c2,PtrOk_mk ⟨⟨_,_,_⟩,c1,?_⟩⟩
  rw [hl2] at c2
  rw [hwl] at c1 hk
  have ew:IntKind.wrap .i64 (((fs.length + k:Nat):Int) * (64:Int))=(((fs.length + k) * 64:Nat):Int):=by rw [wrap_ar (by omega) (by omega)]; omega
  simp only [hl2,hwl,ew]
  refine Cond_dec (fun hlt=>?_) fun hge=>?_
  ·have hlt':(((fs.length + k) * 64:Nat):Int) < (((wordsOf (os ++ [o])).length:Nat):Int):=hlt
   rw [hwl] at hlt'
   clear hlt
   have hlt:(fs.length + k) * 64 < used os + o.size:=by omega
   refine PtrOk_mk ⟨⟨_,_,_⟩,c2,Let_mk fun h6 e6=>?_⟩
   have k6:Kept N h5 h6:=e6 ▸ kept_push _ _ _
   refine ⟨[0].map uv,reads_row (e6 ▸ row_new h5 #[.int .u64 0] 77) (fun j v hj=>by rw [Nat.zero_add]; exact hj),rfl,?_⟩
   have:=raw_appF (news:=[0]) r3 (by rw [hl2]; show fs.length + k + 1 ≤ 100000000; omega) k6 (K:=fun ra rn rc h7=>PtrOk (some (ad L.pb)) fun p48=>stOk h7 (p48.add 2)∧Let (setc h7 (p48.add 2) (.slice ra rn rc)) fun h8 =>
    ∃ m,m < used os + o.size - (fs.length + k)∧J79 h L sz (wordsOf (os ++ [o])) fs (used os) m (some (ad L.pb)) (used os:Nat) h8) ?_
   ·rw [hl2] at this
    exact this
   ·rintro a7 c7 h7 ⟨L3,hst7,r7,g7⟩
    rw [g3.pb] at hst7 r7 g7
    refine PtrOk_mk ?_
    have e2:(ad L.pb).add 2=⟨L.pb,2,none⟩:=add_ad _ _
    simp only [e2]
    refine ⟨hst7,Let_mk fun h8 e8=>?_⟩
    rw [← e8] at r7 g7
    have r8:Raw h8 L3 sz (wordsOf (os ++ [o])) wc2 (fs ++ List.replicate (k + 1) 0) c7:=by
     rw [List.replicate_succ',← List.append_assoc]
     exact r7
    exact ⟨used os + o.size - (fs.length + (k + 1)),by omega,L3,k + 1,wc2,c7,rfl,rfl,by rw [hwl],r8,g3.trans g7,by rw [hwl]; omega⟩
  ·have hge':¬ (((fs.length + k) * 64:Nat):Int) < (((wordsOf (os ++ [o])).length:Nat):Int):=hge
   rw [hwl] at hge'
   clear hge
   have hge:used os + o.size ≤ (fs.length + k) * 64:=by omega
   have hi:used os / 64 < (fs ++ List.replicate k 0).length:=by rw [hl2]; omega
   obtain ⟨w,hw⟩:∃ w,(fs ++ List.replicate k 0)[used os / 64]?=some w:=⟨_,List.getElem?_eq_getElem hi⟩
   have hwlt:w < 18446744073709551616:=by
    rcases List.mem_append.1 (List.mem_of_getElem? hw) with hx | hx
    ·exact r.first.lt _ hx
    ·rw [(List.mem_replicate.1 hx).2]; omega
   have hgd:(fs ++ List.replicate k 0).getD (used os / 64) 0=w:=by rw [List.getD_eq_getElem?_getD,hw]; rfl
   rw [div64 (by omega),mod64]
   simp only [Int.toNat_natCast]
   have hbit:=r3.bit hw
   rw [hl2] at hi
   have cb:(0:Int) ≤ ((used os / 64:Nat):Int)∧((used os / 64:Nat):Int) < ((fs.length + k:Nat):Int):=by omega
   refine PtrOk_mk ⟨⟨_,_,_⟩,c2,by omega,cb,PtrOk_mk ⟨_,hbit,by omega,by omega,cb,PtrOk_mk ?_⟩⟩
   have e2:(ad L2.fb).add (used os / 64 * 1)=⟨L2.fb,used os / 64,none⟩:=by rw [add_ad,Nat.mul_one]
   have em:min (used os % 64) (IntKind.bits .u64)=used os % 64:=by rw [bits_u64]; omega
   have ep:(1:Int) * 2 ^ (used os % 64)=((2 ^ (used os % 64):Nat):Int):=by rw [Int.one_mul]; norm_cast
   have h2p:2 ^ (used os % 64) < 2 ^ 64:=Nat.pow_lt_pow_right (by omega) (by omega)
   have h2p':2 ^ (used os % 64) < 18446744073709551616:=h2p
   rw [em,ep,wrap_u64' (Int.natCast_nonneg _) (Int.ofNat_lt.2 h2p'),orI_nat hwlt h2p']
   simp only [e2]
   obtain ⟨hst4,r4,g4⟩:=r3.setB (p:=used os / 64) (w:=w ||| 2 ^ (used os % 64)) (by rw [hl2]; exact hi)
   refine ⟨hst4,Let_mk fun h9 e9=>?_⟩
   rw [show setc h5 ⟨L2.fb,used os / 64,none⟩ (uv (w ||| 2 ^ (used os % 64)))=h9 from e9.symm] at r4 g4
   refine hR h9 L2 ⟨wc2,fc2,(fs ++ List.replicate k 0).set (used os / 64) (w ||| 2 ^ (used os % 64)),?_⟩ (g3.trans g4)
   have hsn:=r.first.snoc (o:=o) (k:=k) (by omega)
   rw [hgd] at hsn
   refine ⟨r4.row,r4.ws,r4.fsl,hsn,?_,by rw [used_snoc]; exact hfit,hs,?_,r4.d1,r4.d2,r4.d3⟩
   ·intro x hx
    rcases List.mem_append.1 hx with hx | hx
    ·exact r.ok x hx
    ·rw [List.mem_singleton.1 hx]; exact hok
   ·rw [List.length_set,hl2,used_snoc]; exact hk
end
end Go.Ev
