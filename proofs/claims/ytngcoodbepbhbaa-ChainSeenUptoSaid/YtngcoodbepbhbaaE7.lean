/- The arena's bytes: span, Bytes, SetBytes / Slices whose head moves within their block (l = l[1:]) / The heap's struct and all that it owns, said of lists of objects; what may change without touching it / Functions that defer calls, for the evaluator. No condition but that these are ones. -/
import Derived.Test.YtngcoodbepbhbaaE6
import Derived.Test.YtngcoodbepbhbaaE3
import Derived.Defers
set_option linter.all false
set_option maxRecDepth 100000
namespace Go.Ev
open Go.Proofs
def byteAt (raws:List Nat) (j:Nat):Nat:=raws.getD (j / 8) 0 / 2 ^ (j % 8 * 8) % 256
def putW (w s c:Nat):Nat:=2 ^ s * (2 ^ 8 * (w / 2 ^ (s + 8)) + c) + w % 2 ^ s
def putByte (raws:List Nat) (j c:Nat):List Nat:=raws.set (j / 8) (putW (raws.getD (j / 8) 0) (j % 8 * 8) c)
def putBytes:List Nat→Nat→List Nat→List Nat
 | raws,_,[]=>raws
 | raws,j,c :: cs=>putBytes (putByte raws j c) (j + 1) cs
theorem putBytes_snoc:∀ (l:List Nat) (raws:List Nat) (j c:Nat),putBytes raws j (l ++ [c])=putByte (putBytes raws j l) (j + l.length) c
 | [],_,_,_=>rfl
 | x :: l,raws,j,c=>by
  show putBytes (putByte raws j x) (j + 1) (l ++ [c])=putByte (putBytes (putByte raws j x) (j + 1) l) _ c
  rw [putBytes_snoc l]
  congr 1
  rw [List.length_cons]; omega
theorem putByte_len (raws:List Nat) (j c:Nat):(putByte raws j c).length=raws.length:=by simp [putByte]
theorem putBytes_len:∀ (l:List Nat) (raws:List Nat) (j:Nat),(putBytes raws j l).length=raws.length
 | [],_,_=>rfl
 | x :: l,raws,j=>by
  show (putBytes (putByte raws j x) (j + 1) l).length=_
  rw [putBytes_len l,putByte_len]
theorem putW_bit {w s c j:Nat} (hc:c < 256):(putW w s c).testBit j=if j < s then w.testBit j else if j - s < 8 then c.testBit (j - s) else w.testBit j:=by
 unfold putW
 rw [Nat.testBit_two_pow_mul_add _ (Nat.mod_lt _ (Nat.two_pow_pos s))]
 split
 ·rename_i h
  rw [Nat.testBit_mod_two_pow]
  simp [h]
 ·rename_i h
  rw [Nat.testBit_two_pow_mul_add _ (show c < 2 ^ 8 by omega)]
  split
  ·rfl
  ·rename_i h2
   rw [Nat.testBit_div_two_pow]
   congr 1
   omega
theorem putW_lt {w s c:Nat} (hw:w < 18446744073709551616) (hs:s ≤ 56) (hc:c < 256):putW w s c < 18446744073709551616:=by
 have:putW w s c < 2 ^ 64:=by
  apply Nat.lt_pow_two_of_testBit
  intro j hj
  rw [putW_bit hc,if_neg (by omega)]
  have hw0:w.testBit j=false:=testBit_lt (k:=64) hw j hj
  split
  ·omega
  ·exact hw0
 exact this
theorem putW_eq {w s c:Nat} (hw:w < 18446744073709551616) (hs:s ≤ 56) (hc:c < 256) :
  orI .u64 (andNotI .u64 (w:Int) (IntKind.wrap .u64 ((255:Int) * 2 ^ s))) (IntKind.wrap .u64 ((c:Int) * 2 ^ s))=((putW w s c:Nat):Int):=by
 have hp:2 ^ s ≤ 2 ^ 56:=Nat.pow_le_pow_right (by omega) hs
 have hp':2 ^ s ≤ 72057594037927936:=hp
 have e1:(255:Int) * 2 ^ s=((255 * 2 ^ s:Nat):Int):=by norm_cast
 have e2:(c:Int) * 2 ^ s=((c * 2 ^ s:Nat):Int):=by norm_cast
 have hm1:255 * 2 ^ s ≤ 255 * 72057594037927936:=Nat.mul_le_mul_left _ hp'
 have hm2:c * 2 ^ s ≤ 255 * 72057594037927936:=Nat.mul_le_mul (by omega) hp'
 rw [e1,e2,wrap_u64' (Int.natCast_nonneg _) (by generalize 255 * 2 ^ s=z at *; omega),wrap_u64' (Int.natCast_nonneg _) (by generalize c * 2 ^ s=z at *; omega)]
 have e3:andNotI .u64 (w:Int) ((255 * 2 ^ s:Nat):Int)=(((BitVec.ofNat 64 w &&& ~~~(BitVec.ofNat 64 (255 * 2 ^ s))).toNat:Nat):Int):=by
  show IntKind.wrap .u64 (((BitVec.ofInt 64 (w:Int) &&& ~~~(BitVec.ofInt 64 ((255 * 2 ^ s:Nat):Int)):BitVec 64).toNat:Nat):Int)=_
  rw [bv_ofNat,bv_ofNat]
  have:=(BitVec.ofNat 64 w &&& ~~~(BitVec.ofNat 64 (255 * 2 ^ s))).isLt
  exact wrap_u64' (Int.natCast_nonneg _) (by omega)
 rw [e3,orI_nat (BitVec.isLt _) (by generalize c * 2 ^ s=z at *; omega)]
 congr 1
 apply Nat.eq_of_testBit_eq
 intro j
 rw [putW_bit hc,Nat.testBit_or,BitVec.testBit_toNat,BitVec.getLsbD_and,BitVec.getLsbD_not,BitVec.getLsbD_ofNat,BitVec.getLsbD_ofNat,Nat.mul_comm 255,Nat.mul_comm c,Nat.testBit_two_pow_mul,Nat.testBit_two_pow_mul]
 have h255:∀ k,Nat.testBit 255 k=decide (k < 8):=fun k=>by
  rw [show (255:Nat)=2 ^ 8 - 1 by decide,Nat.testBit_two_pow_sub_one]
 have hcb:∀ k,8 ≤ k→c.testBit k=false:=testBit_lt (k:=8) hc
 rw [h255]
 by_cases hj:j < 64
 ·by_cases h1:j < s
  ·simp [hj,h1,show ¬ s ≤ j by omega]
  ·by_cases h2:j - s < 8
   ·simp [hj,h1,h2,show s ≤ j by omega]
   ·simp [hj,h1,h2,show s ≤ j by omega,hcb (j - s) (by omega)]
 ·have hw0:w.testBit j=false:=testBit_lt (k:=64) hw j (by omega)
  have h2:¬ j - s < 8:=by omega
  simp [hj,hw0,show ¬ j < s by omega,h2,hcb (j - s) (by omega)]
section
variable {h h':Hp} {L:ArLoc} {sz:Nat} {os:List AObj} {wc fc:Nat} {fs:List Nat}
def spanE (os:List AObj) (at_ from_ n:Int):Int :=
 match (idxI os at_).bind (os[·]?) with
 | none=>23
 | some o=>if o.fwd.isSome then 26 else if 0 ≤ from_∧0 ≤ n∧from_ + n ≤ 8 * (o.raws.length:Int) then 0 else 25
theorem span_ok (r:ArR h L sz os wc fc fs) {at_ from_ n:Int} (hn0:-9223372036854775808 ≤ n) (hf0:-9223372036854775808 ≤ from_) (hn1:n < 9223372036854775808) (hf1:from_ < 9223372036854775808) {R:Value→Hp→Prop}
  (hbad:spanE os at_ from_ n ≠ 0→R (.tuple #[.slice none 0 0,.int .i64 (spanE os at_ from_ n)]) h)
  (hgood:∀ i o a,spanE os at_ from_ n=0→idxI os at_=some i→os[i]?=some o→o.fwd=none→0 ≤ from_→0 ≤ n→from_ + n ≤ 8 * (o.raws.length:Int) →
   (o.raws.length ≠ 0→a=some ⟨L.wb,pos os i + 1 + o.refs.length,none⟩)→R (.tuple #[.slice a o.raws.length o.raws.length,.int .i64 0]) h) :
  CallTo Try.prog 125 #[.pointer (some (ad L.pb)),.int .i64 at_,.int .i64 from_,.int .i64 n] h R:=by
 refine f125F_ok ?_
 unfold f125F
 refine fields_ok r (fun he=>?_) fun i o a he hi ho hf ha hp=>?_
 ·refine ⟨⟨none,0,0⟩,_,_,rfl,Cond_t (by simpa using he) ?_⟩
  unfold spanE at hbad
  unfold objE at he ⊢
  cases hx:(idxI os at_).bind (os[·]?) with
  | none=>rw [hx] at hbad; exact hbad (by simp)
  | some o =>
   rw [hx] at hbad he
   simp only at hbad he ⊢
   cases hf:o.fwd with
   | some t=>rw [hf] at hbad; exact hbad (by simp)
   | none=>rw [hf] at he; simp at he
 ·have hoo:=r.ok o (List.mem_of_getElem? ho)
  have hsp:spanE os at_ from_ n=if 0 ≤ from_∧0 ≤ n∧from_ + n ≤ 8 * (o.raws.length:Int) then 0 else 25:=by
   unfold spanE
   rw [hi]
   simp only [Option.bind_some,ho,hf]
   rfl
  have hfl:o.flds.length=o.refs.length + o.raws.length:=by unfold AObj.flds; simp
  have hnw:=hoo.nw
  refine ⟨⟨a,o.flds.length,o.flds.length⟩,_,_,rfl,Cond_f rfl ⟨⟨by omega,?_⟩,?_⟩⟩
  ·show (o.refs.length:Int) ≤ ((o.flds.length:Nat):Int); omega
  simp only [Int.toNat_natCast]
  have el:o.flds.length - o.refs.length=o.raws.length:=by omega
  have e8:IntKind.wrap .i64 ((8:Int) * ((o.raws.length:Nat):Int))=8 * ((o.raws.length:Nat):Int):=wrap_ar (by omega) (by omega)
  simp only [el,e8]
  have bad:∀ s,¬ (0 ≤ from_∧0 ≤ n∧from_ + n ≤ 8 * (o.raws.length:Int))→f125K1 s true h R:=fun s hn=>by
   rw [if_neg hn] at hsp
   rw [hsp] at hbad
   exact hbad (by simp)
  refine Cond_dec (fun c=>bad _ (by omega)) fun c1=>Cond_dec (fun c=>bad _ (by omega)) fun c2=>Cond_dec (fun c=>bad _ (by omega)) fun c3=>?_
  have e9:IntKind.wrap .i64 (8 * ((o.raws.length:Nat):Int) - from_)=8 * ((o.raws.length:Nat):Int) - from_:=wrap_ar (by omega) (by omega)
  rw [e9]
  by_cases c4:n > 8 * ((o.raws.length:Nat):Int) - from_
  ·rw [decide_eq_true c4]
   exact bad _ (by omega)
  ·rw [decide_eq_false c4]
   unfold f125K1
   refine Cond_f rfl (hgood i o _ (by rw [hsp,if_pos (by omega)]) hi ho hf (by omega) (by omega) (by omega) fun hne=>?_)
   rw [if_neg (by omega),hp (by omega),Option.map_some,add_mk,Nat.mul_one]

def bv (n:Nat):Value:=.int .u8 (n:Int)
theorem div8 {p:Nat} (hp:p < 4611686018427387904):IntKind.wrap .i64 (Int.tdiv (p:Int) (8:Int))=((p / 8:Nat):Int):=by
 rw [tdiv_nn (by omega),wrap_i64' (by omega) (by omega)]; omega
theorem mod8 (p:Nat):IntKind.wrap .i64 ((Int.tmod (p:Int) (8:Int)) * (8:Int))=((p % 8 * 8:Nat):Int):=by
 rw [tmod_nn (by omega),wrap_i64' (by omega) (by omega)]; omega
theorem ArR.raw_word (r:ArR h L sz os wc fc fs) {i j w:Nat} {o:AObj} (ho:os[i]?=some o) (hw:o.raws[j]?=some w):cell h ((⟨L.wb,pos os i + 1 + o.refs.length,none⟩:Addr).add (j * 1))=some (uv w):=by
 rw [add_mk,Nat.mul_one]
 have hj:=(List.getElem?_eq_some_iff.1 hw).1
 have hf:o.flds[o.refs.length + j]?=some w:=by
  unfold AObj.flds
  rw [List.getElem?_append_right (by omega),Nat.add_sub_cancel_left]
  exact hw
 have hl:o.refs.length + j < o.flds.length:=(List.getElem?_eq_some_iff.1 hf).1
 have:=word_fld ho hl
 rw [hf] at this
 have h2:=r.word (i:=pos os i + 1 + (o.refs.length + j)) this
 rw [add_ad,Nat.mul_one] at h2
 rw [show pos os i + 1 + o.refs.length + j=pos os i + 1 + (o.refs.length + j) by omega]
 exact h2
theorem abytes_ok (r:ArR h L sz os wc fc fs) {at_ from_ n:Int} (hn0:-9223372036854775808 ≤ n) (hf0:-9223372036854775808 ≤ from_) (hn1:n < 9223372036854775808) (hf1:from_ < 9223372036854775808) {R:Value→Hp→Prop}
  (hbad:spanE os at_ from_ n ≠ 0→R (.tuple #[.slice none 0 0,.int .i64 (spanE os at_ from_ n)]) h)
  (hgood:∀ i o (f m:Nat) b h',idxI os at_=some i→os[i]?=some o→o.fwd=none→from_=f→n=m→f + m ≤ 8 * o.raws.length →
   Row h' b ((List.range m).map fun j=>bv (byteAt o.raws (f + j)))→h.size ≤ b→Kept N h h'→R (.tuple #[.slice (some (ad b)) m m,.int .i64 0]) h') :
  CallTo Try.prog 121 #[.pointer (some (ad L.pb)),.int .i64 at_,.int .i64 from_,.int .i64 n] h R:=by
 refine f121F_ok ?_
 unfold f121F
 refine span_ok r hn0 hf0 hn1 hf1 (fun he=>⟨⟨none,0,0⟩,_,rfl,Cond_t (by simpa using he) (hbad he)⟩) fun i o a he hi ho hf f0 n0 hfn ha=>?_
 have hoo:=r.ok o (List.mem_of_getElem? ho)
 have hnw:=hoo.nw
 obtain ⟨f,rfl⟩:=Int.eq_ofNat_of_zero_le f0
 obtain ⟨m,rfl⟩:=Int.eq_ofNat_of_zero_le n0
 refine ⟨⟨a,o.raws.length,o.raws.length⟩,_,rfl,Cond_f rfl ⟨⟨by omega,by omega⟩,by omega,by omega,Let_mk fun h1 e1=>?_⟩⟩
 simp only [Int.toNat_natCast] at e1 ⊢
 rw [zrow_one] at e1
 have r1:Row h1 h.size (List.replicate m (bv 0)):=e1 ▸ row_new h (List.replicate m (bv 0)).toArray 5
 have k1:Kept N h h1:=e1 ▸ kept_push _ _ _
 refine f121L1_rule (s10:=⟨a,o.raws.length,o.raws.length⟩) (s12:=⟨some (ad h.size),m,m⟩) (fun q s2 s10 s12 s29 s30 h'=>∃ k:Nat,k ≤ m∧q=m - k∧s2=f∧s10=⟨a,o.raws.length,o.raws.length⟩∧s12=⟨some (ad h.size),m,m⟩∧s29=m∧s30=k ∧
  Row h' h.size (((List.range k).map fun j=>bv (byteAt o.raws (f + j))) ++ List.replicate (m - k) (bv 0))∧Kept N h h') m ⟨0,by omega,rfl,rfl,rfl,rfl,rfl,rfl,by simpa using r1,k1⟩ ?_
 rintro q s2 s10 s12 s29 s30 g h2 ⟨k,hk,rfl,rfl,rfl,rfl,rfl,rfl,r2,k2⟩
 unfold f121L1
 refine Cond_dec (fun hlt=>?_) fun hge=>?_
 ·have hkm:k < m:=by omega
  have ew:IntKind.wrap .i64 ((f:Int) + (k:Int))=((f + k:Nat):Int):=by rw [wrap_ar (by omega) (by omega)]; omega
  rw [ew,div8 (by omega),mod8]
  have hj:(f + k) / 8 < o.raws.length:=by omega
  have hw:o.raws[(f + k) / 8]?=some o.raws[(f + k) / 8]:=List.getElem?_eq_getElem hj
  have hcell:=(r.keep k2 (fun _ _=>id)).raw_word ho hw
  simp only [Int.toNat_natCast]
  refine ⟨by omega,⟨by omega,?_⟩,PtrOk_of (ha (by omega)) ⟨_,hcell,by omega,by omega,⟨by omega,?_⟩,PtrOk_mk ?_⟩⟩
  ·show (((f + k) / 8:Nat):Int) < ((o.raws.length:Nat):Int); omega
  ·show (k:Int) < ((m:Nat):Int); omega
  have ea:(ad h.size).add (k * 1)=⟨h.size,k,none⟩:=by rw [add_ad,Nat.mul_one]
  simp only [ea]
  have em:min ((f + k) % 8 * 8) (IntKind.bits .u64)=(f + k) % 8 * 8:=by rw [bits_u64]; omega
  have ev:IntKind.wrap .u8 (Int.fdiv ((o.raws[(f + k) / 8]:Nat):Int) (2 ^ ((f + k) % 8 * 8)))=((byteAt o.raws (f + k):Nat):Int):=by
   rw [fdiv_pow,wrap_u8']
   unfold byteAt
   rw [List.getD_eq_getElem?_getD,hw,Option.getD_some]
   omega
  rw [em,ev]
  refine ⟨stOk_row r2 (by simp; omega),Let_mk fun h3 e3=>⟨m - (k + 1),by omega,k + 1,by omega,rfl,trivial,trivial,trivial,trivial,?_,?_,?_⟩⟩
  ·rw [wrap_ar (by omega) (by omega)]; rfl
  ·rw [e3]
   have:=row_setc r2 k (bv (byteAt o.raws (f + k)))
   have e:(((List.range k).map fun j=>bv (byteAt o.raws (f + j))) ++ List.replicate (m - k) (bv 0)).set k (bv (byteAt o.raws (f + k)))=((List.range (k + 1)).map fun j=>bv (byteAt o.raws (f + j))) ++ List.replicate (m - (k + 1)) (bv 0):=by
    rw [List.set_append_right _ _ (by simp),List.range_succ,List.map_append,List.append_assoc]
    congr 1
    rw [show m - k=(m - (k + 1)) + 1 by omega,List.replicate_succ]
    simp
   rw [e] at this
   exact this
  ·rw [e3]
   refine ⟨by rw [size_setc]; exact k2.1,fun b hb _=>?_⟩
   rw [setc_ne _ _ _ (by show b ≠ h.size; omega)]
   exact k2.2 b hb id
 ·obtain rfl:k=m:=by omega
  rw [Nat.sub_self,List.replicate_zero,List.append_nil] at r2
  exact hgood i o f k h.size h2 hi ho hf rfl rfl (by omega) r2 (Nat.le_refl _) k2
theorem putByte_lt {raws:List Nat} {j c:Nat} (hr:∀ x ∈ raws,x < 18446744073709551616) (hc:c < 256):∀ x ∈ putByte raws j c,x < 18446744073709551616:=by
 intro x hx
 rcases List.mem_or_eq_of_mem_set hx with hx | hx
 ·exact hr x hx
 ·rw [hx]
  refine putW_lt ?_ (by omega) hc
  rw [List.getD_eq_getElem?_getD]
  cases h:raws[j / 8]? with
  | none=>simp
  | some w=>exact hr w (List.mem_of_getElem? h)
theorem putBytes_lt:∀ {l:List Nat} {raws:List Nat} {j:Nat},(∀ x ∈ raws,x < 18446744073709551616)→(∀ c ∈ l,c < 256)→∀ x ∈ putBytes raws j l,x < 18446744073709551616
 | [],_,_,hr,_=>hr
 | c :: l,raws,j,hr,hl=>putBytes_lt (l:=l) (putByte_lt hr (hl c (List.mem_cons_self ..))) fun c hc=>hl c (List.mem_cons_of_mem _ hc)
/-- An object whose raws are others, as many. -/
def AObj.withRaws (o:AObj) (ws:List Nat):AObj:={ o with raws:=ws }
theorem setF_raw (o:AObj) (k w:Nat):o.setF (o.refs.length + k) w=o.withRaws (o.raws.set k w):=by
 unfold AObj.setF AObj.withRaws
 rw [if_neg (by omega),Nat.add_sub_cancel_left]
theorem modify_modify {α:Type} (l:List α) (i:Nat) (f g:α→α):(l.modify i f).modify i g=l.modify i (g ∘ f):=by
 apply List.ext_getElem?
 intro j
 rw [List.getElem?_modify,List.getElem?_modify,List.getElem?_modify]
 cases l[j]? with
 | none=>rfl
 | some x=>show some _=some _; congr 1; by_cases h:i=j <;> simp [h]
theorem modify_congr {α:Type} {l:List α} {i:Nat} {x:α} (hx:l[i]?=some x) {f g:α→α} (h:f x=g x):l.modify i f=l.modify i g:=by
 apply List.ext_getElem?
 intro j
 rw [List.getElem?_modify,List.getElem?_modify]
 by_cases hij:i=j
 ·subst hij; rw [hx]; show some _=some _; simp [h]
 ·cases l[j]? with
  | none=>rfl
  | some y=>show some _=some _; simp [hij]
theorem modify_id {α:Type} {l:List α} {i:Nat} {x:α} (hx:l[i]?=some x) {f:α→α} (h:f x=x):l.modify i f=l:=by
 apply List.ext_getElem?
 intro j
 rw [List.getElem?_modify]
 by_cases hij:i=j
 ·subst hij; rw [hx]; show some _=some _; simp [h]
 ·cases l[j]? with
  | none=>rfl
  | some y=>show some _=some _; simp [hij]
theorem asetbytes_ok (r:ArR h L sz os wc fc fs) {at_ from_:Int} {s:Sl} {cs:List Nat} (hs:ReadsO h s.a (cs.map bv)) (hsn:s.n=cs.length) (hcs:∀ c ∈ cs,c < 256) (hsb:∀ a,s.a=some a→cs ≠ []→¬ L.fp a.block)
  (hn:(cs.length:Int) < 9223372036854775808) (hf0:-9223372036854775808 ≤ from_) (hf1:from_ < 9223372036854775808) {R:Value→Hp→Prop}
  (hbad:spanE os at_ from_ cs.length ≠ 0→R (.int .i64 (spanE os at_ from_ cs.length)) h)
  (hgood:∀ i o (f:Nat) h',idxI os at_=some i→os[i]?=some o→o.fwd=none→from_=f→f + cs.length ≤ 8 * o.raws.length →
   ArR h' L sz (os.modify i fun o=>o.withRaws (putBytes o.raws f cs)) wc fc fs→Kept L.fp h h'→R (.int .i64 0) h') :
  CallTo Try.prog 124 #[.pointer (some (ad L.pb)),.int .i64 at_,.int .i64 from_,.slice s.a s.n s.c] h R:=by
 refine f124F_ok ?_
 unfold f124F
 rw [hsn]
 refine span_ok r (by omega) hf0 hn hf1 (fun he=>⟨⟨none,0,0⟩,_,rfl,Cond_t (by simpa using he) (hbad he)⟩) fun i o a he hi ho hf f0 n0 hfn ha=>?_
 have hoo:=r.ok o (List.mem_of_getElem? ho)
 have hnw:=hoo.nw
 obtain ⟨f,rfl⟩:=Int.eq_ofNat_of_zero_le f0
 refine ⟨⟨a,o.raws.length,o.raws.length⟩,_,rfl,Cond_f rfl ?_⟩
 refine f124L1_rule (s9:=⟨a,o.raws.length,o.raws.length⟩) (s27:=⟨s.a,cs.length,s.c⟩) (fun q s2 s9 s27 s28 s29 h'=>∃ k:Nat,k ≤ cs.length∧q=cs.length - k∧s2=f∧s9=⟨a,o.raws.length,o.raws.length⟩∧s27=⟨s.a,cs.length,s.c⟩∧s28=cs.length∧s29=k ∧
  ArR h' L sz (os.modify i fun o=>o.withRaws (putBytes o.raws f (cs.take k))) wc fc fs∧Kept L.fp h h') cs.length ⟨0,by omega,rfl,rfl,rfl,rfl,rfl,rfl,?_,Kept.refl _ _⟩ ?_
 ·have:(os.modify i fun o=>o.withRaws (putBytes o.raws f (cs.take 0)))=os:=modify_id ho rfl
  rw [this]; exact r
 rintro q s2 s9 s27 s28 s29 g h2 ⟨k,hk,rfl,rfl,rfl,rfl,rfl,rfl,r2,k2⟩
 unfold f124L1
 refine Cond_dec (fun hlt=>?_) fun hge=>?_
 ·have hkm:k < cs.length:=by omega
  have hc:cs[k]?=some cs[k]:=List.getElem?_eq_getElem hkm
  have hcl:=hcs _ (List.getElem_mem hkm)
  generalize cs[k]=c at hc hcl
  -- the byte that is read
  obtain ⟨ab,hab⟩:∃ ab,s.a=some ab:=by
   cases hsa:s.a with
   | some ab=>exact ⟨ab,rfl⟩
   | none =>
    rw [hsa] at hs
    have hs:cs.map bv=[]:=hs
    have:=List.map_eq_nil_iff.1 hs
    rw [this] at hkm; simp at hkm
  have hrd:cell h (ab.add k)=some (bv c):=by
   rw [hab] at hs
   exact hs k _ (by rw [List.getElem?_map,hc]; rfl)
  have hrd2:cell h2 (ab.add (k * 1))=some (bv c):=by
   rw [Nat.mul_one,← hrd]
   have hbk:(ab.add k).block=ab.block:=by unfold Addr.add; split <;> rfl
   unfold cell
   rw [hbk]
   have hlt:ab.block < h.size:=by
    unfold cell at hrd
    rw [hbk] at hrd
    split at hrd
    ·rename_i x y z hx; exact (Array.getElem?_eq_some_iff.1 hx).1
    ·cases hrd
   rw [k2.2 _ hlt (hsb ab hab fun e=>by rw [e] at hkm; simp at hkm)]
  -- the object as it stands
  have ho2:(os.modify i fun o=>o.withRaws (putBytes o.raws f (cs.take k)))[i]?=some (o.withRaws (putBytes o.raws f (cs.take k))):=by
   rw [List.getElem?_modify,ho]; show some _=some _; simp
  generalize hX:putBytes o.raws f (cs.take k)=X at ho2
  have hXl:X.length=o.raws.length:=by rw [← hX,putBytes_len]
  have ew:IntKind.wrap .i64 ((f:Int) + (k:Int))=((f + k:Nat):Int):=by rw [wrap_ar (by omega) (by omega)]; omega
  rw [ew,div8 (by omega),mod8]
  have hj:(f + k) / 8 < X.length:=by omega
  obtain ⟨w,hw⟩:∃ w,X[(f + k) / 8]?=some w:=⟨_,List.getElem?_eq_getElem hj⟩
  have hpos:pos (os.modify i fun o=>o.withRaws (putBytes o.raws f (cs.take k))) i=pos os i:=by
   unfold pos
   congr 1
   apply List.ext_getElem?
   intro x
   rw [List.getElem?_take,List.getElem?_take]
   split
   ·rename_i hx
    rw [List.getElem?_modify]
    cases os[x]? with
    | none=>rfl
    | some y=>show some _=some _; simp [show ¬ i=x by omega]
   ·rfl
  have hcell:=r2.raw_word ho2 (j:=(f + k) / 8) hw
  rw [hpos] at hcell
  simp only [Int.toNat_natCast]
  have c1:(0:Int) ≤ (((f + k) / 8:Nat):Int)∧(((f + k) / 8:Nat):Int) < ((o.raws.length:Nat):Int):=by omega
  refine ⟨⟨by omega,by omega⟩,PtrOk_of hab ⟨_,hrd2,by omega,by omega,by omega,c1,PtrOk_of (ha (by omega)) ⟨_,hcell,by omega,by omega,c1,PtrOk_of (ha (by omega)) ?_⟩⟩⟩
  have ea:(⟨L.wb,pos os i + 1 + o.refs.length,none⟩:Addr).add ((f + k) / 8 * 1)=⟨L.wb,pos os i + 1 + (o.refs.length + (f + k) / 8),none⟩:=by rw [add_mk,Nat.mul_one,Nat.add_assoc]
  simp only [ea]
  have em:min ((f + k) % 8 * 8) (IntKind.bits .u64)=(f + k) % 8 * 8:=by rw [bits_u64]; omega
  have hwl:w < 18446744073709551616:=by
   have:=(r2.ok _ (List.mem_of_getElem? ho2)).fl w
   exact this (by unfold AObj.flds AObj.withRaws; exact List.mem_append_right _ (List.mem_of_getElem? hw))
  rw [em,wrap_u64' (x:=((c:Nat):Int)) (by omega) (by omega),putW_eq hwl (by omega) hcl]
  have hgetD:X.getD ((f + k) / 8) 0=w:=by rw [List.getD_eq_getElem?_getD,hw]; rfl
  have hjf:o.refs.length + (f + k) / 8 < (o.withRaws X).flds.length:=by unfold AObj.flds AObj.withRaws; simp; omega
  have hsnoc:cs.take (k + 1)=cs.take k ++ [c]:=by rw [List.take_add_one,hc]; rfl
  have hobj:(os.modify i fun o=>o.withRaws (putBytes o.raws f (cs.take k))).modify i (fun o=>o.setF (o.refs.length + (f + k) / 8) (putW w ((f + k) % 8 * 8) c))=os.modify i fun o=>o.withRaws (putBytes o.raws f (cs.take (k + 1))):=by
   rw [modify_modify]
   refine modify_congr ho ?_
   show (o.withRaws (putBytes o.raws f (cs.take k))).setF (o.refs.length + (f + k) / 8) _=_
   rw [hX,show o.refs.length=(o.withRaws X).refs.length from rfl,setF_raw]
   unfold AObj.withRaws
   simp only
   congr 1
   rw [hsnoc,putBytes_snoc,hX]
   unfold putByte
   rw [List.length_take,Nat.min_eq_left (by omega),hgetD]
  have hset:=words_setF (v:=putW w ((f + k) % 8 * 8) c) ho2 hjf
  have hm2:(os.modify i fun o=>o.withRaws (putBytes o.raws f (cs.take k))).modify i (fun x=>x.setF (o.refs.length + (f + k) / 8) (putW w ((f + k) % 8 * 8) c))=os.modify i fun o=>o.withRaws (putBytes o.raws f (cs.take (k + 1))):=by
   rw [← hobj]
   exact modify_congr ho2 rfl
  rw [hm2,hpos] at hset
  have hps:=pos_size_le ho
  have hfl:o.flds.length=o.refs.length + o.raws.length:=by unfold AObj.flds; simp
  have hsz:o.size=1 + o.flds.length:=rfl
  have hud:used (os.modify i fun o=>o.withRaws (putBytes o.raws f (cs.take k)))=used os:=by
   have:=r2.c1
   have h3:=(kept_row k2 r.row)
   exact used_modify fun o=>by unfold AObj.size AObj.flds AObj.withRaws; simp [putBytes_len]
  obtain ⟨hst,r3,k3⟩:=r2.setw (p:=pos os i + 1 + (o.refs.length + (f + k) / 8)) (w:=putW w ((f + k) % 8 * 8) c) (os':=os.modify i fun o=>o.withRaws (putBytes o.raws f (cs.take (k + 1)))) (by rw [hud]; omega)
   (by rw [hset]) (r.first.modify fun o=>by unfold AObj.size AObj.flds AObj.withRaws; simp [putBytes_len])
   (ok_modify r.ok fun o ho=>⟨ho.k1,ho.k2,ho.nr,by unfold AObj.withRaws; simp only [putBytes_len]; exact ho.nw,fun x hx=>by
    unfold AObj.flds AObj.withRaws at hx
    rcases List.mem_append.1 hx with hx | hx
    ·exact ho.fl x (List.mem_append_left _ hx)
    ·exact putBytes_lt (fun y hy=>ho.fl y (List.mem_append_right _ hy)) (fun y hy=>hcs y (List.mem_of_mem_take hy)) x hx,ho.fw⟩)
  exact ⟨hst,cs.length - (k + 1),by omega,k + 1,by omega,rfl,trivial,trivial,trivial,trivial,by rw [wrap_ar (by omega) (by omega)]; rfl,r3,k2.trans k3⟩
 ·obtain rfl:k=cs.length:=by omega
  rw [List.take_length] at r2
  exact hgood i o f h2 hi ho hf rfl (by omega) r2 k2
end
end Go.Ev
set_option linter.all false
namespace Go.Ev
/-- As SlAt, but the slice may begin within its block. -/
structure SlO (sz:Nat) (h:Hp) (a:Option Addr) (n c:Nat) (ob:Option Nat) (vs:List Value):Prop where
 len:vs.length=n * sz
 nil:ob=none→a=none∧n=0∧c=0
 row:∀ b,ob=some b→∃ off,a=some ⟨b,off,none⟩∧n ≤ c∧∃ pre junk,(c ≠ 0→pre.length=off)∧Row h b (pre ++ (vs ++ junk))∧vs.length + junk.length=c * sz
theorem SlAt.slO {sz:Nat} {h:Hp} {a:Option Addr} {n c:Nat} {ob:Option Nat} {vs:List Value} (s:SlAt sz h a n c ob vs):SlO sz h a n c ob vs :=
 ⟨s.len,s.nil,fun b e=>by obtain ⟨h1,h2,j,h3,h4⟩:=s.row b e; exact ⟨0,h1,h2,[],j,fun _=>rfl,h3,h4⟩⟩
theorem slO_nil (sz:Nat) (h:Hp):SlO sz h none 0 0 none []:=(slAt_nil sz h).slO
theorem SlO.keep {sz:Nat} {h h':Hp} {a:Option Addr} {n c:Nat} {ob:Option Nat} {vs:List Value} (s:SlO sz h a n c ob vs) (hk:∀ b,ob=some b→h'[b]?=h[b]?):SlO sz h' a n c ob vs :=
 ⟨s.len,s.nil,fun b hb=>by obtain ⟨off,h1,h2,p,j,h3,h4,h5⟩:=s.row b hb; exact ⟨off,h1,h2,p,j,h3,row_keep h4 (hk b hb),h5⟩⟩
theorem SlO.kept {sz:Nat} {h h':Hp} {a:Option Addr} {n c:Nat} {ob:Option Nat} {vs:List Value} {S:Nat→Prop} (s:SlO sz h a n c ob vs) (k:Kept S h h') (hS:∀ b,ob=some b→¬ S b):SlO sz h' a n c ob vs :=
 s.keep fun b e=>by
  obtain ⟨_,_,_,_,_,_,hr,_⟩:=s.row b e
  exact k.2 b (row_lt hr) (hS b e)
theorem SlO.lt {sz:Nat} {h:Hp} {a:Option Addr} {n c b:Nat} {vs:List Value} (s:SlO sz h a n c (some b) vs):b < h.size:=by
 obtain ⟨_,_,_,_,_,_,hr,_⟩:=s.row b rfl
 exact row_lt hr
/-- The cell at a place of a slice of one-cell elements. -/
theorem SlO.at {h:Hp} {a:Option Addr} {n c:Nat} {ob:Option Nat} {vs:List Value} (s:SlO 1 h a n c ob vs) {i:Nat} {v:Value} (hv:vs[i]?=some v):∃ p:Addr,a=some p∧cell h (p.add (i * 1))=some v:=by
 have hi:=(List.getElem?_eq_some_iff.1 hv).1
 have hl:=s.len
 cases ob with
 | none=>have:=(s.nil rfl).2.1; omega
 | some b =>
  obtain ⟨off,rfl,h2,pre,junk,h3,h4,h5⟩:=s.row b rfl
  refine ⟨_,rfl,?_⟩
  rw [add_mk,Nat.mul_one,cell_row h4,List.getElem?_append_right (by have:=h3 (by omega); omega),h3 (by omega),Nat.add_sub_cancel_left,List.getElem?_append_left hi]
  exact hv
/-- l[1:] -/
theorem SlO.tail {h:Hp} {a:Option Addr} {n c:Nat} {ob:Option Nat} {v:Value} {vs:List Value} (s:SlO 1 h a n c ob (v :: vs)) :
  SlO 1 h (if c=1 then a else Option.map (fun x=>x.add (1 * 1)) a) (n - 1) (c - 1) ob vs:=by
 have hl:=s.len
 rw [List.length_cons] at hl
 cases ob with
 | none=>have:=(s.nil rfl).2.1; omega
 | some b =>
  obtain ⟨off,rfl,h2,pre,junk,h3,h4,h5⟩:=s.row b rfl
  rw [List.length_cons] at h5
  refine ⟨by omega,nofun,fun b' e=>?_⟩
  obtain rfl:=Option.some.inj e
  have hp:=h3 (by omega)
  have e1:pre ++ (v :: vs ++ junk)=(pre ++ [v]) ++ (vs ++ junk):=by simp
  rw [e1] at h4
  by_cases hc:c=1
  ·rw [if_pos hc]
   exact ⟨off,rfl,by omega,pre ++ [v],junk,fun h=>by omega,h4,by omega⟩
  ·rw [if_neg hc]
   exact ⟨off + 1,by rw [Option.map_some,add_mk],by omega,pre ++ [v],junk,fun _=>by simp [hp],h4,by omega⟩
theorem appO_ok {e sz bys:Nat} {z:Array Value} {a:Option Addr} {n c m:Nat} {ob:Option Nat} {vs news:List Value} {h:Hp} {K:Option Addr→Nat→Nat→Hp→Prop}
  (s:SlO sz h a n c ob vs) (hz:z.size=sz) (hl:news.length=m * sz) (hcell:∀ v ∈ news,isCell v=true) (hb:(2 * (n + m) + 768) * bys ≤ 2 ^ 48) (hlt:n + m < 2 ^ 62)
  (hK:∀ a' c' ob' h',SlO sz h' a' (n + m) c' ob' (vs ++ news)→(ob'=ob∧Kept (fun b=>ob=some b) h h' ∨ ob'=some h.size∧Kept (fun _=>False) h h')→K a' (n + m) c' h') :
  appT e sz bys z a n c (n + m) news h K:=by
 have hvl:=s.len
 refine ⟨fun hc=>?_,fun hc=>⟨hb,hlt,?_⟩⟩
 ·cases ob with
  | none =>
   obtain ⟨rfl,rfl,rfl⟩:=s.nil rfl
   obtain rfl:m=0:=by omega
   have hn:news=[]:=List.length_eq_zero_iff.1 (by omega)
   have hv:vs=[]:=List.length_eq_zero_iff.1 (by omega)
   subst hn hv
   exact hK none 0 none h (slO_nil sz h) (.inl ⟨rfl,Kept.refl _ _⟩)
  | some b =>
   obtain ⟨off,rfl,h2,pre,j,hp,hr,hcl⟩:=s.row b rfl
   show stsOk h ((⟨b,off,none⟩:Addr).add (n * sz)) news 0∧_
   rw [add_mk]
   have hfit:n * sz + news.length ≤ (vs ++ j).length:=by
    rw [List.length_append,hcl,hl]
    have:=Nat.mul_le_mul_right sz hc
    rw [Nat.add_mul] at this
    omega
   by_cases h0:c=0
   ·subst h0
    have hm:m=0:=by omega
    have hn0:n=0:=by omega
    have hn:news=[]:=List.length_eq_zero_iff.1 (by rw [hl,hm]; omega)
    subst hn
    refine ⟨trivial,hK _ 0 (some b) h ⟨by simp [hvl,hm],nofun,fun b' e=>?_⟩ (.inl ⟨rfl,Kept.refl _ _⟩)⟩
    obtain rfl:=Option.some.inj e
    exact ⟨off,rfl,by omega,pre,j,fun h=>absurd rfl h,by rw [List.append_nil]; exact hr,by simpa using hcl⟩
   ·have hpl:=hp h0
    have hfit2:off + n * sz + 0 + news.length ≤ (pre ++ (vs ++ j)).length:=by rw [List.length_append,hpl]; omega
    refine ⟨stsOk_row news h _ _ 0 hr hfit2 hcell,?_⟩
    refine hK _ c (some b) _ ⟨by simp [hvl,hl,Nat.add_mul],nofun,fun b' e=>?_⟩ (.inl ⟨rfl,kept_setcs h _ _ _ rfl⟩)
    obtain rfl:=Option.some.inj e
    refine ⟨off,rfl,hc,pre,j.drop news.length,fun _=>hpl,?_,?_⟩
    ·have:=row_setcs news h _ (off + n * sz) 0 hr hfit2
     rw [Nat.add_zero] at this
     have e1:ovw (pre ++ (vs ++ j)) (off + n * sz) news=pre ++ (vs ++ news ++ j.drop news.length):=by
      unfold ovw
      rw [← hvl,← hpl]
      have t1:(pre ++ (vs ++ j)).take (pre.length + vs.length)=pre ++ vs:=by
       rw [← List.append_assoc,List.take_append_of_le_length (by simp),List.take_of_length_le (by simp)]
      have t2:(pre ++ (vs ++ j)).drop (pre.length + vs.length + news.length)=j.drop news.length:=by
       rw [← List.append_assoc,List.drop_append,List.drop_eq_nil_of_le (by simp),List.nil_append]
       congr 1
       simp
      rw [t1,t2]
      simp
     rwa [e1] at this
    ·rw [List.length_append,List.length_drop,hl]
     rw [List.length_append,hcl] at hfit
     omega
 ·refine ⟨vs,?_,hvl,fun nc h1 h2=>?_⟩
  ·cases ob with
   | none =>
    obtain ⟨rfl,rfl,rfl⟩:=s.nil rfl
    exact List.length_eq_zero_iff.1 (by omega)
   | some b =>
    obtain ⟨off,rfl,hnc,pre,j,hp,hr,hcl⟩:=s.row b rfl
    by_cases h0:c=0
    ·have:vs=[]:=List.length_eq_zero_iff.1 (by have:n=0:=(by omega); rw [hvl,this]; omega)
     subst this
     intro i v hv
     simp at hv
    ·exact reads_row hr fun i v hv=>by
      rw [List.getElem?_append_right (by have:=hp h0; omega),hp h0,Nat.add_sub_cancel_left,List.getElem?_append_left (List.getElem?_eq_some_iff.1 hv).1]; exact hv
  ·refine hK _ nc (some h.size) _ ⟨by simp [hvl,hl,Nat.add_mul],nofun,fun b' hb'=>?_⟩ (.inr ⟨rfl,kept_push _ _ _⟩)
   obtain rfl:h.size=b':=by simpa using hb'
   refine ⟨0,rfl,h1,[],(zrow z ((nc - (n + m)) * z.size)).toList,fun _=>rfl,?_,?_⟩
   ·have:=row_new h (vs.toArray ++ news.toArray ++ zrow z ((nc - (n + m)) * z.size)) e
    simpa using this
   ·have e1:(zrow z ((nc - (n + m)) * z.size)).toList.length=(nc - (n + m)) * sz:=by
     rw [Array.length_toList,zrow_len,hz]
    rw [e1,List.length_append,hvl,hl,← Nat.add_mul,← Nat.add_mul]
    congr 1
    omega
end Go.Ev
set_option linter.all false
set_option maxRecDepth 100000
namespace Go.Ev
open Go.Proofs
inductive Role where
 | out
 | hd
 | half
 | spare
 | bb
 | rb
 | gb
 | tb
 | slot (i:Nat)
structure MH where
 limit:Nat
 hz:Nat
 half:List AObj
 sz:Nat
 spare:List AObj
 blocks:List (Option AObj)
 reached:List Bool
 grey:List Nat
 large:Nat
 since:Nat
 kept:Nat
 roots:List (Bool × Nat)
 r5:Nat
 r6:Int
 r7:Int
 r8:Nat
structure Geo where
 Lh:ArLoc
 Ls:ArLoc
 locs:List (Option ArLoc)
 bs:Sl
 bb:Option Nat
 rs:Sl
 rb:Option Nat
 gs:Sl
 gb:Option Nat
 ts:Sl
 tb:Option Nat
def slV (s:Sl):Value:=.slice s.a s.n s.c
def ptrV:Option ArLoc→Value
 | none=>.pointer none
 | some L=>.pointer (some (ad L.pb))
def rootV (r:Bool × Nat):List Value:=[.bool r.1,uv r.2]
def nv (n:Nat):Value:=.int .i64 (n:Int)
def hcells (m:MH) (G:Geo):List Value :=
 [nv m.limit,.pointer (some (ad G.Lh.pb)),.pointer (some (ad G.Ls.pb)),slV G.bs,slV G.rs,slV G.gs,nv m.large,nv m.since,nv m.kept,slV G.ts,
  .int .i64 0,.int .i64 0,.int .i64 0,.int .i64 0,.int .i64 0,nv m.r5,.int .i64 m.r6,.int .i64 m.r7,nv m.r8]
def BlockOk (h:Hp) (role:Nat→Role) (i:Nat):Option AObj→Option ArLoc→Prop
 | some o,some L=>Ar h L (o.size + 1) [o]∧∀ b,L.fp b→role b=.slot i
 | none,none=>True
 | _,_=>False
structure HRep (h:Hp) (hb:Nat) (role:Nat→Role) (m:MH) (G:Geo):Prop where
 row:Row h hb (hcells m G)
 rh:role hb=.hd
 fresh:∀ b,h.size ≤ b→role b=.out
 half:Ar h G.Lh m.hz m.half
 halfr:∀ b,G.Lh.fp b→role b=.half
 spare:Ar h G.Ls m.sz m.spare
 sparer:∀ b,G.Ls.fp b→role b=.spare
 bs:SlAt 1 h G.bs.a G.bs.n G.bs.c G.bb (G.locs.map ptrV)
 bsr:∀ b,G.bb=some b→role b=.bb
 ll:G.locs.length=m.blocks.length
 bl:∀ i o L,m.blocks[i]?=some o→G.locs[i]?=some L→BlockOk h role i o L
 rs:SlAt 1 h G.rs.a G.rs.n G.rs.c G.rb (m.reached.map Value.bool)
 rsr:∀ b,G.rb=some b→role b=.rb
 gs:SlO 1 h G.gs.a G.gs.n G.gs.c G.gb (m.grey.map nv)
 gsr:∀ b,G.gb=some b→role b=.gb
 ts:SlAt 2 h G.ts.a G.ts.n G.ts.c G.tb (m.roots.flatMap rootV)
 tsr:∀ b,G.tb=some b→role b=.tb
section
variable {h h':Hp} {hb:Nat} {role:Nat→Role} {m:MH} {G:Geo}
theorem BlockOk.keep {i:Nat} {o:Option AObj} {L:Option ArLoc} (x:BlockOk h role i o L) {S:Nat→Prop} (k:Kept S h h') (hS:∀ b,role b=.slot i→¬ S b):BlockOk h' role i o L:=by
 cases o <;> cases L <;> first | exact x | exact ⟨x.1.keep k fun b hb=>hS b (x.2 b hb),x.2⟩
/-- What bears no role may change, and new blocks may come. -/
theorem HRep.keep (r:HRep h hb role m G) {S:Nat→Prop} (k:Kept S h h') (hS:∀ b,S b→role b=.out):HRep h' hb role m G:=by
 have no:∀ b x,role b=x→x ≠ .out→¬ S b:=fun b x e hx s=>hx (e ▸ hS b s)
 exact ⟨kept_row k r.row (no _ _ r.rh nofun),r.rh,fun b hb=>r.fresh b (Nat.le_trans k.1 hb),r.half.keep k fun b hb=>no _ _ (r.halfr b hb) nofun,r.halfr,r.spare.keep k fun b hb=>no _ _ (r.sparer b hb) nofun,r.sparer,
  slat_kept' r.bs k fun b hb=>no _ _ (r.bsr b hb) nofun,r.bsr,r.ll,fun i o L h1 h2=>(r.bl i o L h1 h2).keep k fun b hb=>no _ _ hb nofun,
  slat_kept' r.rs k fun b hb=>no _ _ (r.rsr b hb) nofun,r.rsr,r.gs.kept k fun b hb=>no _ _ (r.gsr b hb) nofun,r.gsr,slat_kept' r.ts k fun b hb=>no _ _ (r.tsr b hb) nofun,r.tsr⟩
theorem HRep.c (r:HRep h hb role m G) (i:Nat):cell h ((ad hb).add i)=(hcells m G)[i]?:=by rw [add_ad]; exact cell_row r.row i
theorem HRep.c0 (r:HRep h hb role m G):cell h (ad hb)=some (nv m.limit):=cell_ad r.row
theorem HRep.hlt (r:HRep h hb role m G):hb < h.size:=row_lt r.row
/-- One cell of the struct is written over. -/
theorem HRep.setHd (r:HRep h hb role m G) {i:Nat} {v:Value} {m':MH} {G':Geo} (hc:(hcells m G).set i v=hcells m' G') :
  Row (setc h ⟨hb,i,none⟩ v) hb (hcells m' G')∧Kept (fun b=>b=hb) h (setc h ⟨hb,i,none⟩ v):=by
 refine ⟨?_,kept_setc h i v rfl⟩
 have:=row_setc r.row i v
 rwa [hc] at this
theorem HRep.stOk (r:HRep h hb role m G) {i:Nat} (hi:i < 19):Go.Ev.stOk h ⟨hb,i,none⟩:=stOk_row r.row hi
/-- The struct's numbers change, and nothing else. -/
theorem HRep.renum (r:HRep h hb role m G) {i:Nat} {v:Value} {m':MH} (hc:(hcells m G).set i v=hcells m' G) (h1:m'.hz=m.hz) (h2:m'.half=m.half) (h3:m'.sz=m.sz) (h4:m'.spare=m.spare) (h5:m'.blocks=m.blocks)
  (h6:m'.reached=m.reached) (h7:m'.grey=m.grey) (h8:m'.roots=m.roots):HRep (setc h ⟨hb,i,none⟩ v) hb role m' G:=by
 obtain ⟨h9,k⟩:=r.setHd hc
 have no:∀ b x,role b=x→x ≠ .hd→¬ b=hb:=fun b x e hx s=>hx (e ▸ s ▸ r.rh)
 exact ⟨h9,r.rh,fun b hb=>r.fresh b (Nat.le_trans k.1 hb),h1 ▸ h2 ▸ r.half.keep k fun b hb=>no _ _ (r.halfr b hb) nofun,r.halfr,h3 ▸ h4 ▸ r.spare.keep k fun b hb=>no _ _ (r.sparer b hb) nofun,r.sparer,
  slat_kept' r.bs k fun b hb=>no _ _ (r.bsr b hb) nofun,r.bsr,h5 ▸ r.ll,fun i o L e1 e2=>(r.bl i o L (h5 ▸ e1) e2).keep k fun b hb=>no _ _ hb nofun,
  h6 ▸ slat_kept' r.rs k fun b hb=>no _ _ (r.rsr b hb) nofun,r.rsr,h7 ▸ r.gs.kept k fun b hb=>no _ _ (r.gsr b hb) nofun,r.gsr,h8 ▸ slat_kept' r.ts k fun b hb=>no _ _ (r.tsr b hb) nofun,r.tsr⟩
/-- Blocks that have come join a role. -/
def joinR (role:Nat→Role) (n:Nat) (P:Nat→Prop) [DecidablePred P] (x:Role) (b:Nat):Role:=if n ≤ b∧P b then x else role b
instance (L:ArLoc):DecidablePred L.fp:=fun b=>inferInstanceAs (Decidable (_ ∨ _ ∨ _))

/-- All parts but that of the role x, and but the struct's own cells. -/
structure HPart (h:Hp) (hb:Nat) (role:Nat→Role) (m:MH) (G:Geo) (x:Role):Prop where
 rh:role hb=.hd
 fresh:∀ b,h.size ≤ b→role b=.out
 half:x ≠ .half→Ar h G.Lh m.hz m.half∧∀ b,G.Lh.fp b→role b=.half
 spare:x ≠ .spare→Ar h G.Ls m.sz m.spare∧∀ b,G.Ls.fp b→role b=.spare
 bs:x ≠ .bb→SlAt 1 h G.bs.a G.bs.n G.bs.c G.bb (G.locs.map ptrV)∧∀ b,G.bb=some b→role b=.bb
 ll:G.locs.length=m.blocks.length
 bl:∀ i o L,x ≠ .slot i→m.blocks[i]?=some o→G.locs[i]?=some L→BlockOk h role i o L
 rs:x ≠ .rb→SlAt 1 h G.rs.a G.rs.n G.rs.c G.rb (m.reached.map Value.bool)∧∀ b,G.rb=some b→role b=.rb
 gs:x ≠ .gb→SlO 1 h G.gs.a G.gs.n G.gs.c G.gb (m.grey.map nv)∧∀ b,G.gb=some b→role b=.gb
 ts:x ≠ .tb→SlAt 2 h G.ts.a G.ts.n G.ts.c G.tb (m.roots.flatMap rootV)∧∀ b,G.tb=some b→role b=.tb
theorem HRep.part (r:HRep h hb role m G) {x:Role} {S:Nat→Prop} (k:Kept S h h') (hS:∀ b,S b→role b=x ∨ role b=.hd ∨ role b=.out) {role':Nat→Role} (hr:∀ b,b < h.size→role' b=role b) (hf:∀ b,h'.size ≤ b→role' b=.out) :
  HPart h' hb role' m G x:=by
 have no:∀ b y,role b=y→y ≠ x→y ≠ .hd→y ≠ .out→¬ S b:=fun b y e h1 h2 h3 s=>by
  rcases hS b s with h | h | h
  ·exact h1 (e ▸ h)
  ·exact h2 (e ▸ h)
  ·exact h3 (e ▸ h)
 have lo:∀ b y,role b=y→y ≠ .out→b < h.size:=fun b y e hy=>by
  rcases Nat.lt_or_ge b h.size with hl | hl
  ·exact hl
  ·exact absurd (e ▸ r.fresh b hl) hy
 have tr:∀ b y,role b=y→y ≠ .out→role' b=y:=fun b y e hy=>(hr b (lo b y e hy)).trans e
 refine ⟨tr _ _ r.rh nofun,hf,fun hx=>⟨r.half.keep k fun b hb=>no _ _ (r.halfr b hb) (Ne.symm hx) nofun nofun,fun b hb=>tr _ _ (r.halfr b hb) nofun⟩,
  fun hx=>⟨r.spare.keep k fun b hb=>no _ _ (r.sparer b hb) (Ne.symm hx) nofun nofun,fun b hb=>tr _ _ (r.sparer b hb) nofun⟩,
  fun hx=>⟨slat_kept' r.bs k fun b hb=>no _ _ (r.bsr b hb) (Ne.symm hx) nofun nofun,fun b hb=>tr _ _ (r.bsr b hb) nofun⟩,r.ll,fun i o L hx h1 h2=>?_,
  fun hx=>⟨slat_kept' r.rs k fun b hb=>no _ _ (r.rsr b hb) (Ne.symm hx) nofun nofun,fun b hb=>tr _ _ (r.rsr b hb) nofun⟩,
  fun hx=>⟨r.gs.kept k fun b hb=>no _ _ (r.gsr b hb) (Ne.symm hx) nofun nofun,fun b hb=>tr _ _ (r.gsr b hb) nofun⟩,
  fun hx=>⟨slat_kept' r.ts k fun b hb=>no _ _ (r.tsr b hb) (Ne.symm hx) nofun nofun,fun b hb=>tr _ _ (r.tsr b hb) nofun⟩⟩
 have x0:=(r.bl i o L h1 h2).keep k fun b hb=>no _ _ hb (Ne.symm hx) nofun nofun
 cases o <;> cases L <;> first | exact x0 | exact ⟨x0.1,fun b hb=>tr _ _ (x0.2 b hb) nofun⟩
theorem joinR_old {role:Nat→Role} {n:Nat} {P:Nat→Prop} [DecidablePred P] {x:Role} {b:Nat} (h:b < n):joinR role n P x b=role b:=by unfold joinR; rw [if_neg (by omega)]
theorem joinR_new {role:Nat→Role} {n:Nat} {P:Nat→Prop} [DecidablePred P] {x:Role} {b:Nat} (h:n ≤ b) (hp:P b):joinR role n P x b=x:=by unfold joinR; rw [if_pos ⟨h,hp⟩]
theorem joinR_out {role:Nat→Role} {n:Nat} {P:Nat→Prop} [DecidablePred P] {x:Role} {b:Nat} (h:role b=.out) (hp:¬ P b):joinR role n P x b=.out:=by unfold joinR; rw [if_neg (fun c=>hp c.2)]; exact h
/-- The half's block is another list of objects. -/
theorem HRep.setHalf (r:HRep h hb role m G) {L':ArLoc} {os':List AObj} (ha:Ar h' L' m.hz os') (g:Grown h G.Lh L' h') :
  HRep h' hb (joinR role h.size L'.fp .half) { m with half:=os' } { G with Lh:=L' }:=by
 have hS:∀ b,G.Lh.fp b→role b=Role.half ∨ role b=.hd ∨ role b=.out:=fun b hb=>.inl (r.halfr b hb)
 have p:=r.part (x:=.half) g.kept hS (role':=joinR role h.size L'.fp .half) (fun b hb=>joinR_old hb) fun b hb=>joinR_out (r.fresh b (Nat.le_trans g.kept.1 hb)) fun hf=>by have:=ha.lt b hf; omega
 have hrow:Row h' hb (hcells { m with half:=os' } { G with Lh:=L' }):=by
  have:=kept_row g.kept r.row fun hf=>by have:=r.halfr _ hf; rw [r.rh] at this; cases this
  unfold hcells at this ⊢
  simp only [g.pb]
  exact this
 exact ⟨hrow,p.rh,p.fresh,ha,fun b hb=>by
   rcases Nat.lt_or_ge b h.size with hl | hl
   ·rw [joinR_old hl]
    rcases g.fp b hb with h | h
    ·exact r.halfr b h
    ·omega
   ·exact joinR_new hl hb,
  (p.spare nofun).1,(p.spare nofun).2,(p.bs nofun).1,(p.bs nofun).2,p.ll,fun i o L h1 h2=>p.bl i o L nofun h1 h2,(p.rs nofun).1,(p.rs nofun).2,(p.gs nofun).1,(p.gs nofun).2,(p.ts nofun).1,(p.ts nofun).2⟩
theorem HRep.setSpare (r:HRep h hb role m G) {L':ArLoc} {os':List AObj} (ha:Ar h' L' m.sz os') (g:Grown h G.Ls L' h') :
  HRep h' hb (joinR role h.size L'.fp .spare) { m with spare:=os' } { G with Ls:=L' }:=by
 have hS:∀ b,G.Ls.fp b→role b=Role.spare ∨ role b=.hd ∨ role b=.out:=fun b hb=>.inl (r.sparer b hb)
 have p:=r.part (x:=.spare) g.kept hS (role':=joinR role h.size L'.fp .spare) (fun b hb=>joinR_old hb) fun b hb=>joinR_out (r.fresh b (Nat.le_trans g.kept.1 hb)) fun hf=>by have:=ha.lt b hf; omega
 have hrow:Row h' hb (hcells { m with spare:=os' } { G with Ls:=L' }):=by
  have:=kept_row g.kept r.row fun hf=>by have:=r.sparer _ hf; rw [r.rh] at this; cases this
  unfold hcells at this ⊢
  simp only [g.pb]
  exact this
 exact ⟨hrow,p.rh,p.fresh,(p.half nofun).1,(p.half nofun).2,ha,fun b hb=>by
   rcases Nat.lt_or_ge b h.size with hl | hl
   ·rw [joinR_old hl]
    rcases g.fp b hb with h | h
    ·exact r.sparer b h
    ·omega
   ·exact joinR_new hl hb,
  (p.bs nofun).1,(p.bs nofun).2,p.ll,fun i o L h1 h2=>p.bl i o L nofun h1 h2,(p.rs nofun).1,(p.rs nofun).2,(p.gs nofun).1,(p.gs nofun).2,(p.ts nofun).1,(p.ts nofun).2⟩
/-- A large object's block is the same block with another object of that size. -/
theorem HRep.setSlot (r:HRep h hb role m G) {i:Nat} {o o':AObj} {L:ArLoc} (ho:m.blocks[i]?=some (some o)) (hL:G.locs[i]?=some (some L)) (hsz:o'.size=o.size) (ha:Ar h' L (o.size + 1) [o']) (k:Kept L.fp h h') :
  HRep h' hb role { m with blocks:=m.blocks.set i (some o') } G:=by
 have hx:=r.bl i _ _ ho hL
 have p:=r.part (x:=.slot i) k (fun b hb=>.inl (hx.2 b hb)) (role':=role) (fun _ _=>rfl) fun b hb=>r.fresh b (Nat.le_trans k.1 hb)
 have hrow:Row h' hb (hcells { m with blocks:=m.blocks.set i (some o') } G):=kept_row k r.row fun hf=>by have:=hx.2 _ hf; rw [r.rh] at this; cases this
 refine ⟨hrow,p.rh,p.fresh,(p.half nofun).1,(p.half nofun).2,(p.spare nofun).1,(p.spare nofun).2,(p.bs nofun).1,(p.bs nofun).2,by rw [List.length_set]; exact p.ll,fun j x Lx h1 h2=>?_,(p.rs nofun).1,(p.rs nofun).2,(p.gs nofun).1,(p.gs nofun).2,(p.ts nofun).1,(p.ts nofun).2⟩
 have hil:=(List.getElem?_eq_some_iff.1 ho).1
 by_cases hj:j=i
 ·subst hj
  rw [hL] at h2
  obtain rfl:=Option.some.inj h2
  have h1:(m.blocks.set j (some o'))[j]?=some x:=h1
  rw [List.getElem?_set_self hil] at h1
  obtain rfl:=Option.some.inj h1
  exact ⟨by rw [hsz]; exact ha,hx.2⟩
 ·have h1:(m.blocks.set i (some o'))[j]?=some x:=h1
  rw [List.getElem?_set_ne (Ne.symm hj)] at h1
  exact p.bl j x Lx (fun e=>hj (by cases e; rfl)) h1 h2
end
end Go.Ev
set_option linter.all false
namespace Go.Ev
/-- A deferred call, behind a function's own text. -/
def DCallTo (P:Program) (f:FuncId) (args:Array Value) (h:Hp) (R:Value→Hp→Prop):Prop :=
 ∀ (w:World) (u:FrameMode),w.heap=h→CallsD P f args u w fun e u' w'=>u'=u∧∃ v,e=.returned v∧Same w w'∧R v w'.heap
def deferOf (T:Tab) (o:Oper) (env:List Value):Option Deferred :=
 match o.op with
 | .defer c=>match c.callee with
  | .value f=>match evalL env f with
   | .func (.func g) first captured=>if T.callee g=true then some { target:=.fn (.func g) captured,args:=(first.toList ++ c.args.toList.map (evalL env)).toArray } else none
   | _=>none
  | _=>none
 | _=>none
def evOpsD (P:Program) (T:Tab) (ops:Array Oper):List Oper→List Deferred→List Value→Hp→(List Deferred→List Value→Hp→Prop)→Prop
 | [],D,env,h,Q=>Q D env h
 | o :: rest,D,env,h,Q=>evG ops o env
   (fun env'=>match deferOf T o env' with
    | some d=>evOpsD P T ops rest (d :: D) (putL env' o.dst undef) h Q
    | none=>evOp P T o env' h fun v h'=>evOpsD P T ops rest D (putL env' o.dst v) h' Q)
   (fun env'=>evOpsD P T ops rest D (putL env' o.dst undef) h Q)
abbrev KcD:=Exit→List Deferred→List Value→Hp→Prop
def seqKD (next:List Deferred→List Value→Hp→Prop) (Q:KcD):KcD
 | .normal,D,env,h=>next D env h
 | e,D,env,h=>Q e D env h
def blockKD (id:Nat) (Q:KcD):KcD
 | .exit id',D,env,h=>if id'=id then Q .normal D env h else Q (.exit id') D env h
 | e,D,env,h=>Q e D env h
def noDefOps (ops:Array Oper):Bool:=ops.toList.all fun o=>match o.op with | .defer _=>false | _=>true
def withD (Q:KcD) (D:List Deferred):Kc:=fun e env h=>Q e D env h
def evCD (P:Program) (T:Tab) (lv:Nat→List Nat):Code→KcD→List Deferred→List Value→Hp→Prop
 | .seq a b,Q,D,env,h=>evCD P T lv a (seqKD (evCD P T lv b Q) Q) D env h
 | .cond c a b,Q,D,env,h=>match evalL env c with
  | .bool t=>Cond t (evCD P T lv a Q D env h) (evCD P T lv b Q D env h)
  | _=>False
 | .block id c,Q,D,env,h=>evCD P T lv c (blockKD id Q) D env h
 | .region id ops draw,Q,D,env,h=>if draw=true then evC P T lv (.region id ops draw) (withD Q D) env h else evOpsD P T ops ops.toList D env h (Q .normal)
 | .skip,Q,D,env,h=>Q .normal D env h
 | .ret,Q,D,env,h=>Q .ret D env h
 | .exit id,Q,D,env,h=>Q (.exit id) D env h
 | .loop c,Q,D,env,h=>evC P T lv (.loop c) (withD Q D) env h
 | _,_,_,_,_=>False
def liftD (w0:World) (Q:KcD) (e:Exit) (a:Act) (w:World):Prop :=
 Same w0 w∧∃ D env,a=actL env D∧match e with | .normal=>Q .normal D env w.heap | .exit id=>Q (.exit id) D env w.heap | .ret=>Q .ret D env w.heap | _=>False
section
variable {P:Program} {T:Tab} {w0:World}
theorem lift_withD {D:List Deferred} {Q:KcD} {e:Exit} {a:Act} {w:World} (h:lift D w0 (withD Q D) e a w):liftD w0 Q e a w:=by
 obtain ⟨hs,env,he,hq⟩:=h
 exact ⟨hs,D,env,he,by cases e <;> exact hq⟩
theorem run_defer (hT:TabOk P T) {o:Oper} {env:List Value} {d:Deferred} (h:deferOf T o env=some d) (w:World):(execOp (evalL env) o).run P w=.ok (.defer d) w:=by
 unfold deferOf at h
 split at h
 ·rename_i c hop
  split at h
  ·rename_i f hf
   split at h
   ·rename_i g first captured hv
    split at h
    ·have h:=Option.some.inj h
     subst h
     have ha:first ++ c.args.map (evalL env)=(first.toList ++ c.args.toList.map (evalL env)).toArray:=by
      apply Array.ext'
      simp
     simp only [execOp,hop,run_bind,resolve,hf,hv,Deferred.ofValue,run_pure,ha]
    ·cases h
   ·cases h
  ·cases h
 ·cases h
theorem evOpsD_sound (hT:TabOk P T) {ops:Array Oper} {Q:KcD}:∀ (l:List Oper) (k:Nat) (D:List Deferred) (env:List Value) (w:World),(∀ i,l[i]?=ops[k + i]?)→Same w0 w →
  evOpsD P T ops l D env w.heap (Q .normal)→wpOps P ops (liftD w0 Q) (List.range' k l.length) (actL env D) w:=by
 intro l
 induction l with
 | nil=>intro k D env w _ hs h; exact ⟨hs,D,env,rfl,h⟩
 | cons o rest ih =>
  intro k D env w hl hs h
  have ho:ops[k]?=some o:=by have:=hl 0; simpa using this.symm
  have hl':∀ i,rest[i]?=ops[k + 1 + i]?:=fun i=>by have:=hl (i + 1); rw [show k + (i + 1)=k + 1 + i by omega] at this; simpa using this
  rw [List.length_cons,List.range'_succ,wpOps_cons]
  unfold wpOp
  simp only [ho]
  have e:(actL env D).tmps=env.toArray:=rfl
  rw [e]
  unfold evOpsD at h
  rcases evG_sound h with ⟨hw,h⟩ | ⟨hw,h⟩
  ·rw [if_pos hw]
   left
   cases hd:deferOf T o env with
   | some d =>
    simp only [hd] at h
    unfold Oper.wp
    rw [eval_actL,run_defer hT hd,Oper.upon_defer]
    have e2:({ actL env D with defers:=d :: (actL env D).defers }:Act)=actL env (d :: D):=rfl
    rw [e2,put_actL]
    exact ih (k + 1) _ _ w hl' hs h
   | none =>
    simp only [hd] at h
    exact OpOk.wp hs (evOp_sound hT h) fun v w' hs' hk=>ih (k + 1) D _ w' hl' hs' hk
  ·rw [hw]
   simp only [Bool.false_eq_true,if_false]
   rw [put_actL]
   exact ih (k + 1) D _ w hl' hs h
theorem evCD_sound {lv:Nat→List Nat} (hm:P.follows .mixedOrders=true) (hT:TabOk P T):∀ (c:Code),noSel c=true→∀ (Q:KcD) (D:List Deferred) (env:List Value) (w:World),Same w0 w →
  evCD P T lv c Q D env w.heap→c.wp P (liftD w0 Q) (actL env D) w:=by
 intro c
 induction c with
 | skip=>exact fun _ Q D env w hs h=>wp_skip ⟨hs,D,env,rfl,h⟩
 | ret=>exact fun _ Q D env w hs h=>wp_ret ⟨hs,D,env,rfl,h⟩
 | exit id=>exact fun _ Q D env w hs h=>wp_exit ⟨hs,D,env,rfl,h⟩
 | seq a b iha ihb =>
  intro hn Q D env w hs h
  simp only [noSel,Bool.and_eq_true] at hn
  refine wp_seq (wp_mono (iha hn.1 _ D env w hs h) fun e a' w' hl=>?_)
  obtain ⟨hs',D',env',rfl,hl⟩:=hl
  cases e <;> first | exact hl.elim | exact ⟨hs',D',env',rfl,hl⟩ | exact ihb hn.2 Q D' env' w' hs' hl
 | cond c a b iha ihb =>
  intro hn Q D env w hs h
  simp only [noSel,Bool.and_eq_true] at hn
  unfold evCD at h
  split at h
  ·rename_i t hc
   have hc':(actL env D).eval c=.bool t:=by rw [eval_actL]; exact hc
   rcases h.split with ⟨rfl,hx⟩ | ⟨rfl,hx⟩
   ·exact wp_cond_true hc' (iha hn.1 Q D env w hs hx)
   ·exact wp_cond_false hc' (ihb hn.2 Q D env w hs hx)
  ·exact h.elim
 | block id c ih =>
  intro hn Q D env w hs h
  refine wp_block (wp_mono (ih hn _ D env w hs h) fun e a' w' hl=>?_)
  obtain ⟨hs',D',env',rfl,hl⟩:=hl
  cases e with
  | exit id' =>
   show if id'=id then _ else _
   simp only [blockKD] at hl
   split at hl
   ·rename_i hid; rw [if_pos hid]; exact ⟨hs',D',env',rfl,hl⟩
   ·rename_i hid; rw [if_neg hid]; exact ⟨hs',D',env',rfl,hl⟩
  | _=>first | exact hl.elim | exact ⟨hs',D',env',rfl,hl⟩
 | loop c ih =>
  intro hn Q D env w hs h
  exact wp_mono (evC_sound (D:=D) hm hT (.loop c) hn (withD Q D) env w hs h) fun e a' w' hl=>lift_withD hl
 | region id ops draw =>
  intro hn Q D env w hs h
  unfold evCD at h
  cases draw with
  | false =>
   simp only [Bool.false_eq_true,if_false] at h
   refine wp_region ?_
   have:=evOpsD_sound (P:=P) (w0:=w0) hT (ops:=ops) ops.toList 0 D env w (fun i=>by simp) hs h
   rw [Array.length_toList] at this
   rwa [List.range_eq_range']
  | true =>
   simp only [if_true] at h
   exact wp_mono (evC_sound (D:=D) hm hT (.region id ops true) hn (withD Q D) env w hs h) fun e a' w' hl=>lift_withD hl
 | _=>exact fun _ Q D env w hs h=>h.elim
/-- Behind a function's own text: what was deferred, the last one first; then the results. -/
def leaveEv (P:Program) (T:Tab) (fn:Func) (hints:List VK) (R:Value→Hp→Prop):List Deferred→List Value→Hp→Prop
 | [],env,h=>rdSem P (results fn env.toArray) hints h fun v _=>R v h
 | d :: ds,env,h=>match d.target with
  | .fn (.func g) cap=>Cond (T.callee g) (DCallTo P g (d.args.toList ++ cap.toList).toArray h fun _ h'=>leaveEv P T fn hints R ds env h') False
  | _=>False
theorem leaveEv_sound (hT:TabOk P T) {fn:Func} {hints:List VK} {R:Value→Hp→Prop}:∀ (D:List Deferred) (env:List Value) (w:World),Same w0 w→leaveEv P T fn hints R D env w.heap →
  Leaves P fn env.toArray (fun e w'=>∃ v,e=.returned v∧Same w0 w'∧R v w'.heap) D .returning w:=by
 intro D
 induction D with
 | nil =>
  intro env w hs h
  obtain ⟨v,vs,hr,hk⟩:=rdSem_sound _ _ _ _ h
  exact ⟨v,hr,v,rfl,hs,hk⟩
 | cons d ds ih =>
  intro env w hs h
  unfold leaveEv at h
  split at h
  ·rename_i g cap htar
   obtain ⟨hg,h⟩:=Cond_true' h
   refine ⟨nofun,.func g,cap,g,(d.args.toList ++ cap.toList).toArray,htar,?_,(h w .returning rfl).mono fun e u' w' hx=>?_⟩
   ·have hc:=hT.callee g hg (d.args ++ cap) w
    have e:(d.args.toList ++ cap.toList).toArray=d.args ++ cap:=by apply Array.ext'; simp
    rw [e,htar]
    simp only [invoke]
    exact hc
   ·obtain ⟨rfl,v,rfl,hs',hx⟩:=hx
    exact ih env w' (hs.trans hs') hx
  ·exact h.elim
def bodyKD (P:Program) (T:Tab) (fn:Func) (hints:List VK) (R:Value→Hp→Prop):KcD
 | .normal,D,env,h=>leaveEv P T fn hints R D env h
 | .ret,D,env,h=>leaveEv P T fn hints R D env h
 | _,_,_,_=>False
def evFD (P:Program) (T:Tab) (lv:Nat→List Nat) (fn:Func) (c:Code) (hints:List VK) (args:List Value) (h:Hp) (R:Value→Hp→Prop):Prop :=
 evCD P T lv c (bodyKD P T fn hints R) [] (envOf fn args) h
theorem callTo_of_evD {lv:Nat→List Nat} (hm:P.follows .mixedOrders=true) (hT:TabOk P T) {f:FuncId} {fn:Func} {c:Code} {hints:List VK} {args:List Value} {h:Hp} {R:Value→Hp→Prop} (hf:P.funcs[f]?=some fn) (hb:fn.body=some c)
  (hn:noSel c=true) (he:evFD P T lv fn c hints args h R):CallTo P f args.toArray h R:=by
 intro w hw
 subst hw
 refine calls_of_wp_defers hf hb ?_
 have key:=evCD_sound (w0:=w) hm hT c hn _ _ _ w (Same.refl _) he
 have e:({ tmps:=args.toArray ++ Array.replicate (fn.ntmps - args.toArray.size) undef,defers:=[] }:Act)=actL (envOf fn args) []:=by
  unfold actL envOf
  congr 1
  apply Array.ext'
  simp
 rw [e]
 refine wp_mono key fun e a w' hl=>?_
 obtain ⟨hs,D,env,rfl,hl⟩:=hl
 cases e <;> first | exact hl.elim | skip
 all_goals exact leaveEv_sound hT D env w' hs hl
/-- A function that defers nothing, itself deferred. -/
theorem dcallTo_of_ev {lv:Nat→List Nat} (hm:P.follows .mixedOrders=true) (hT:TabOk P T) {f:FuncId} {fn:Func} {c:Code} {hints:List VK} {args:List Value} {h:Hp} {R:Value→Hp→Prop} (hf:P.funcs[f]?=some fn) (hb:fn.body=some c)
  (hn:noSel c=true) (he:evF P T lv fn c hints args h R):DCallTo P f args.toArray h R:=by
 intro w u hw
 subst hw
 refine (callsD_of_wp (R:=fun e w'=>∃ v,e=.returned v∧Same w w'∧R v w'.heap) hf hb ?_).mono fun e u' w' h=>h
 have key:=evC_sound (D:=[]) (w0:=w) hm hT c hn _ _ w (Same.refl _) he
 have e:({ tmps:=args.toArray ++ Array.replicate (fn.ntmps - args.toArray.size) undef,defers:=[] }:Act)=actL (envOf fn args) []:=by
  unfold actL envOf
  congr 1
  apply Array.ext'
  simp
 rw [e]
 refine wp_mono key fun e a w' hl=>?_
 obtain ⟨hs,env,rfl,hl⟩:=hl
 cases e <;> first | exact hl.elim | skip
 all_goals
  obtain ⟨v,vs,hr,hk⟩:=rdSem_sound _ _ _ _ hl
  exact ⟨rfl,v,hr,v,rfl,hs,hk⟩
end
end Go.Ev
