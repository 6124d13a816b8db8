/- bytes / The document's answer for blobs: its heap in memory, what it tells / The document's answer for blobs: New, Write, Slice, Count. No condition but that these are ones. -/
import Derived.Test.YtdkopnbjommjdaaGreatQ15
import Derived.Test.YtdkopnbjommjdaaGreatQ22
import Derived.Laws.Externs
import Derived.Test.YtdkopnbjommjdaaGreatQ18
set_option linter.all false
set_option maxRecDepth 1000000
namespace Go.Ev
open Go.Proofs
/-- How two lists of bytes stand to one another. -/
def cmpL:List Nat→List Nat→Int
 | [],[]=>0
 | [],_ :: _=>-1
 | _ :: _,[]=>1
 | x :: a,y :: b=>if x < y then -1 else if y < x then 1 else cmpL a b
def toBA (l:List Nat):ByteArray:=⟨(l.map Nat.toUInt8).toArray⟩
theorem toBA_size (l:List Nat):(toBA l).size=l.length:=by unfold toBA ByteArray.size; simp
theorem toBA_get {l:List Nat} {i:Nat} (h:i < l.length):(toBA l)[i]! = (l.getD i 0).toUInt8:=by
 have hs:i < (toBA l).size:=by rw [toBA_size]; exact h
 rw [getElem!_pos (toBA l) i hs,List.getD_eq_getElem?_getD,List.getElem?_eq_getElem h]
 show (l.map Nat.toUInt8).toArray[i]'(by simpa using h)=_
 rw [List.getElem_toArray,List.getElem_map]
 rfl
theorem u8_lt {x y:Nat} (hx:x < 256) (hy:y < 256):(x.toUInt8 < y.toUInt8) ↔ x < y:=by
 rw [UInt8.lt_iff_toNat_lt]
 have e1:x.toUInt8.toNat=x:=by rw [Nat.toUInt8,UInt8.toNat_ofNat']; exact Nat.mod_eq_of_lt hx
 have e2:y.toUInt8.toNat=y:=by rw [Nat.toUInt8,UInt8.toNat_ofNat']; exact Nat.mod_eq_of_lt hy
 rw [e1,e2]
theorem u8_eq {x y:Nat} (hx:x < 256) (hy:y < 256):(x.toUInt8=y.toUInt8) ↔ x=y:=by
 refine ⟨fun e=>?_,fun e=>by rw [e]⟩
 have:=congrArg UInt8.toNat e
 have e1:x.toUInt8.toNat=x:=by rw [Nat.toUInt8,UInt8.toNat_ofNat']; exact Nat.mod_eq_of_lt hx
 have e2:y.toUInt8.toNat=y:=by rw [Nat.toUInt8,UInt8.toNat_ofNat']; exact Nat.mod_eq_of_lt hy
 rw [e1,e2] at this
 exact this
/-- The same by the first place at which they part. -/
theorem cmpL_drop:∀ (i:Nat) (a b:List Nat),i ≤ a.length→i ≤ b.length→(∀ k,k < i→a.getD k 0=b.getD k 0)→cmpL a b=cmpL (a.drop i) (b.drop i)
 | 0,a,b,_,_,_=>rfl
 | i + 1,[],b,h,_,_=>by simp at h
 | i + 1,x :: a,[],_,h,_=>by simp at h
 | i + 1,x :: a,y :: b,h1,h2,h=>by
  have e:x=y:=h 0 (by omega)
  subst e
  rw [List.drop_succ_cons,List.drop_succ_cons,← cmpL_drop i a b (by simpa using h1) (by simpa using h2) fun k hk=>by have:=h (k + 1) (by omega); simpa using this]
  show (if x < x then (-1:Int) else if x < x then 1 else cmpL a b)=_
  rw [if_neg (by omega),if_neg (by omega)]
theorem cmpL_at {i:Nat} {a b:List Nat} (ha:i < a.length) (hb:i < b.length) (h:∀ k,k < i→a.getD k 0=b.getD k 0) (hne:a.getD i 0 ≠ b.getD i 0):cmpL a b=if a.getD i 0 < b.getD i 0 then -1 else 1:=by
 rw [cmpL_drop i a b (by omega) (by omega) h,List.drop_eq_getElem_cons ha,List.drop_eq_getElem_cons hb]
 have e1:a.getD i 0=a[i]:=by rw [List.getD_eq_getElem?_getD,List.getElem?_eq_getElem ha]; rfl
 have e2:b.getD i 0=b[i]:=by rw [List.getD_eq_getElem?_getD,List.getElem?_eq_getElem hb]; rfl
 rw [e1,e2] at hne ⊢
 unfold cmpL
 split
 ·rfl
 ·rw [if_pos (by omega)]
theorem cmpL_end {a b:List Nat} (h:∀ k,k < min a.length b.length→a.getD k 0=b.getD k 0):cmpL a b=if a.length < b.length then -1 else if a.length > b.length then 1 else 0:=by
 rw [cmpL_drop (min a.length b.length) a b (Nat.min_le_left _ _) (Nat.min_le_right _ _) h]
 by_cases h1:a.length < b.length
 ·rw [if_pos h1,Nat.min_eq_left (by omega),List.drop_length,List.drop_eq_getElem_cons h1]; rfl
 ·by_cases h2:a.length > b.length
  ·rw [if_neg h1,if_pos h2,Nat.min_eq_right (by omega),List.drop_length,List.drop_eq_getElem_cons h2]; rfl
  ·rw [if_neg h1,if_neg h2,Nat.min_eq_left (by omega),List.drop_length,List.drop_of_length_le (by omega)]; rfl
theorem ext_cmp {a b:List Nat} (ha:Bytes8 a) (hb:Bytes8 b):Extern.BytealgCompare.cmp (toBA a) (toBA b)=cmpL a b:=by
 have ga:∀ i,a.getD i 0 < 256:=getD_byte ha
 have gb:∀ i,b.getD i 0 < 256:=getD_byte hb
 unfold Extern.BytealgCompare.cmp
 rw [toBA_size,toBA_size]
 cases hf:(List.range (min a.length b.length)).find? fun i=>(toBA a)[i]! != (toBA b)[i]! with
 | some i =>
  simp only
  have hm:=List.find?_some hf
  have hr:=List.mem_of_find?_eq_some hf
  have hi:=List.mem_range.1 hr
  have before:∀ k,k < i→a.getD k 0=b.getD k 0:=fun k hk=>by
   obtain ⟨_,j,hj,hji,hb4⟩:=List.find?_eq_some_iff_getElem.1 hf
   have hji:j=i:=by simpa using hji
   subst hji
   have:=hb4 k hk
   simp only [List.getElem_range,bne_iff_ne,ne_eq,Bool.not_eq_true',Bool.not_eq_eq_eq_not,Bool.not_true] at this
   rw [toBA_get (by omega),toBA_get (by omega)] at this
   have this:((a.getD k 0).toUInt8 != (b.getD k 0).toUInt8)=false:=this
   have this:(a.getD k 0).toUInt8=(b.getD k 0).toUInt8:=by simpa using this
   exact (u8_eq (ga k) (gb k)).1 this
  rw [toBA_get (by omega),toBA_get (by omega)] at hm ⊢
  have hm:(a.getD i 0).toUInt8 ≠ (b.getD i 0).toUInt8:=by simpa using hm
  rw [cmpL_at (by omega) (by omega) before fun e=>hm (by rw [e])]
  by_cases hlt:a.getD i 0 < b.getD i 0
  ·rw [if_pos ((u8_lt (ga i) (gb i)).2 hlt),if_pos hlt]
  ·rw [if_neg (fun h=>hlt ((u8_lt (ga i) (gb i)).1 h)),if_neg hlt]
 | none =>
  simp only
  rw [cmpL_end fun k hk=>?_]
  have:=List.find?_eq_none.1 hf k (List.mem_range.2 hk)
  rw [toBA_get (by omega),toBA_get (by omega)] at this
  have this:(a.getD k 0).toUInt8=(b.getD k 0).toUInt8:=by simpa using this
  exact (u8_eq (ga k) (gb k)).1 this
theorem run_loadBytes {P:Program} {w:World}:∀ (l:List Nat) (a:Addr) (acc:ByteArray),Reads w.heap a (l.map bv)→(Extern.Bytes.loadBytes a l.length acc).run P w=.ok ⟨acc.data ++ (l.map Nat.toUInt8).toArray⟩ w
 | [],a,acc,_=>by
  show (Pure.pure acc:Sem ByteArray).run P w=_
  rw [run_pure]
  simp
 | c :: l,a,acc,h=>by
  have h0:cell w.heap a=some (bv c):=by have:=h 0 (bv c) rfl; rwa [show a.add 0=a from by cases a with | mk b o s=>cases s <;> rfl] at this
  have ht:Reads w.heap (a.add 1) (l.map bv):=fun j v hj=>by rw [add_add,Nat.add_comm]; exact h (j + 1) v hj
  show (Bind.bind (Go.load a) _:Sem ByteArray).run P w=_
  rw [run_bind,run_load h0]
  show (Extern.Bytes.loadBytes (a.add 1) l.length (acc.push (c:Int).toNat.toUInt8)).run P w=_
  have:=run_loadBytes (P:=P) l (a.add 1) (acc.push (c:Int).toNat.toUInt8) ht
  rw [Int.toNat_natCast] at this ⊢
  refine this.trans ?_
  congr 1
  show (⟨(acc.data.push _) ++ _⟩:ByteArray)=_
  congr 1
  apply Array.ext'
  simp
section
variable {h h' h2:Hp} {q q' q2:HQ} {s s':RS} {nd:List NodeD} {b t:List Nat} {id:Nat} {R:Value→Hp→Prop}
theorem run_bytesOf {P:Program} {w:World} {a:Sl} {l:List Nat} (rd:ReadsO w.heap a.a (l.map bv)) (n:a.n=l.length):(Extern.Bytes.bytesOf (.slice a.a a.n a.c)).run P w=.ok (toBA l) w:=by
 cases ha:a.a with
 | none =>
  rw [ha] at rd
  have e:l=[]:=List.map_eq_nil_iff.1 rd
  subst e
  rfl
 | some p =>
  rw [ha] at rd
  rw [n]
  have:=run_loadBytes (P:=P) (w:=w) l p .empty rd
  refine Eq.trans ?_ (this.trans ?_)
  ·rfl
  ·congr 1
   show (⟨#[] ++ _⟩:ByteArray)=⟨_⟩
   simp
theorem ext_ok {a c:Sl} {l m:List Nat} (ra:ReadsO h a.a (l.map bv)) (na:a.n=l.length) (b8:Bytes8 l) (rc:ReadsO h c.a (m.map bv)) (nc:c.n=m.length) (c8:Bytes8 m) :
  ExtTo Tryz.prog 115 #[.slice a.a a.n a.c,.slice c.a c.n c.c] h (.int .i64 (cmpL l m)):=by
 intro w hw
 subst hw
 rw [run_callFunc_extern (e:=Extern.BytealgCompare.compare) Tryz.func115 (by kernel_rfl) (by kernel_rfl) (by kernel_rfl) (by kernel_rfl)]
 have:(Extern.BytealgCompare.compare #[.slice a.a a.n a.c,.slice c.a c.n c.c]).run Tryz.prog w=.ok (.int .i64 (cmpL l m)) w:=by
  have e:Extern.BytealgCompare.compare #[.slice a.a a.n a.c,.slice c.a c.n c.c]=(do
    let x ← Extern.Bytes.bytesOf (.slice a.a a.n a.c)
    let y ← Extern.Bytes.bytesOf (.slice c.a c.n c.c)
    Pure.pure (goInt (Extern.BytealgCompare.cmp x y)):Sem Value):=rfl
  rw [e]
  simp only [run_bind,run_bytesOf ra na,run_bytesOf rc nc,run_pure,ext_cmp b8 c8]
  rfl
 rw [this]
 rfl
theorem bcmp_ok {a c:Sl} {l m:List Nat} (ra:ReadsO h a.a (l.map bv)) (na:a.n=l.length) (b8:Bytes8 l) (rc:ReadsO h c.a (m.map bv)) (nc:c.n=m.length) (c8:Bytes8 m) (hR:R (.int .i64 (cmpL l m)) h) :
  CallTo Tryz.prog 99 #[.slice a.a a.n a.c,.slice c.a c.n c.c] h R:=by
 refine f99F_ok ?_
 unfold f99F
 exact ⟨_,ext_ok ra na b8 rc nc c8,hR⟩
theorem compare_ok (x:HSt h q s) (B:s.IsB id b) (ok:Okb b) {c:Sl} {m:List Nat} (rc:ReadsO h c.a (m.map bv)) (nc:c.n=m.length) (c8:Bytes8 m) (hR:∀ h',Kept N h h'→R (.tuple #[.int .i64 (cmpL b m),.int .i64 0]) h') :
  CallTo Tryz.prog 57 #[.pointer (some (ad q.hb)),uv (s.ref id),.slice c.a c.n c.c] h R:=by
 refine f57F_ok ?_
 unfold f57F
 refine read_ok x B ok fun d h1 row hd k1=>⟨⟨some (ad d),b.length,b.length⟩,_,rfl,Cond_f rfl ?_⟩
 exact bcmp_ok (a:=⟨some (ad d),b.length,b.length⟩) (row_reads row) rfl ok.b8 (reads_keptN k1 rc) nc c8 ⟨_,rfl,hR h1 k1⟩
/-! ### Count -/
def ones (c:Nat):Nat:=(strC0[c]?.getD 0).toNat
def onesL (l:List Nat):Nat:=(l.map ones).sum
theorem ones_tab:(List.range 256).all (fun c=>decide (ones c + ones (255 - c)=8))=true:=by kernel_rfl
theorem ones_opp {c:Nat} (h:c < 256):ones c + ones (255 - c)=8:=by
 have:=List.all_eq_true.1 ones_tab c (List.mem_range.2 h)
 exact of_decide_eq_true this
theorem strC0_size:strC0.size=256:=by kernel_rfl
theorem ones_le {c:Nat} (h:c < 256):ones c ≤ 8:=by have:=ones_opp h; omega
theorem onesL_le {l:List Nat} (h:Bytes8 l):onesL l ≤ 8 * l.length:=by
 induction l with
 | nil=>simp [onesL]
 | cons c l ih =>
  have h1:=ones_le (h c (List.mem_cons_self ..))
  have h2:=ih fun x hx=>h x (List.mem_cons_of_mem _ hx)
  unfold onesL at h2 ⊢
  simp only [List.map_cons,List.sum_cons,List.length_cons]
  omega
theorem ones_ok {c:Nat} (hc:c < 256) (hR:R (.int .i64 (ones c:Nat)) h):CallTo Tryz.prog 100 #[.int .u8 (c:Nat)] h R:=by
 refine f100F_ok ?_
 unfold f100F
 have e:IntKind.wrap .i64 ((((strC0[(((c:Nat):Int)).toNat]?.getD 0).toNat:Nat):Int))=((ones c:Nat):Int):=by
  rw [Int.toNat_natCast]
  have:=ones_le hc
  unfold ones at this ⊢
  rw [wrap_i64' (by omega) (by omega)]
 rw [e]
 exact ⟨⟨by omega,by rw [strC0_size]; omega⟩,hR⟩
theorem count_ok (x:HSt h q s) (B:s.IsB id b) (ok:Okb b) {f n:Int} (hf:-9223372036854775808 ≤ f∧f < 9223372036854775808) (hn:-9223372036854775808 ≤ n∧n < 9223372036854775808)
  (hbad:¬ InSp b f n→R (.tuple #[.int .i64 0,.int .i64 42]) h)
  (hgood:∀ h',InSp b f n→Kept N h h'→R (.tuple #[.int .i64 (onesL ((b.drop f.toNat).take n.toNat):Nat),.int .i64 0]) h') :
  CallTo Tryz.prog 61 #[.pointer (some (ad q.hb)),uv (s.ref id),.int .i64 f,.int .i64 n] h R:=by
 refine f61F_ok ?_
 unfold f61F
 refine slice_ok x B ok hf hn (fun hb=>⟨⟨none,0,0⟩,_,rfl,Cond_t rfl (hbad hb)⟩) fun c h1 hin row hc k1=>⟨⟨some (ad c),n.toNat,n.toNat⟩,_,rfl,Cond_f rfl ?_⟩
 obtain ⟨i1,i2,i3,i4⟩:=hin
 have hl:=ok.len
 generalize hL:(b.drop f.toNat).take n.toNat=L at row hgood
 have hLl:L.length=n.toNat:=by rw [← hL]; simp; omega
 have h8:Bytes8 L:=fun y hy=>ok.b8 y (by rw [← hL] at hy; exact List.mem_of_mem_drop (List.mem_of_mem_take hy))
 refine f61L1_rule (fun m s12 s26 s27 s28 h'=>∃ i:Nat,i ≤ L.length∧m=L.length - i∧s12=((onesL (L.take i):Nat):Int)∧s26=⟨some (ad c),n.toNat,n.toNat⟩∧s27=((L.length:Nat):Int)∧s28=(i:Int)∧h1=h') L.length
  ⟨0,Nat.zero_le _,rfl,rfl,rfl,by rw [hLl],rfl,rfl⟩ ?_
 rintro m s12 s26 s27 s28 g h2 ⟨i,hi,rfl,rfl,rfl,rfl,rfl,rfl⟩
 unfold f61L1
 refine Cond_dec (fun hlt=>?_) fun hge=>?_
 ·have hil:i < L.length:=by omega
  have hLi:L[i]?=some (L[i]):=List.getElem?_eq_getElem hil
  have hb8:=h8 _ (List.getElem_mem hil)
  generalize L[i]=y at hLi hb8
  obtain ⟨p,hp,hcell⟩:=readsO_get (row_reads row) (i:=i) (v:=bv y) (by rw [List.getElem?_map,hLi]; rfl)
  obtain rfl:=Option.some.inj hp
  refine ⟨⟨by omega,by show ((i:Nat):Int) < ((n.toNat:Nat):Int); omega⟩,PtrOk_mk ⟨((y:Nat):Int),by rw [Int.toNat_natCast,Nat.mul_one]; exact hcell,ones_ok hb8 ⟨_,rfl,L.length - (i + 1),by omega,i + 1,hil,rfl,?_,rfl,rfl,by rw [wrap_i64' (by omega) (by omega)]; rfl,rfl⟩⟩⟩
  have e:onesL (L.take (i + 1))=onesL (L.take i) + ones y:=by rw [RS.take_snoc hLi]; unfold onesL; simp
  have h3:onesL (L.take i) ≤ 8 * (L.take i).length:=onesL_le fun z hz=>h8 z (List.mem_of_mem_take hz)
  have h4:=ones_le hb8
  have h5:(L.take i).length ≤ L.length:=by rw [List.length_take]; omega
  rw [e,wrap_i64' (by omega) (by omega)]
  omega
 ·have hie:i=L.length:=by omega
  subst hie
  rw [List.take_length]
  exact hgood h1 ⟨i1,i2,i3,i4⟩ k1
end
end Go.Ev
set_option linter.all false
set_option maxRecDepth 1000000
namespace Go.Ev
open Go.Proofs
structure WD where
 wb:Nat
 M:Mem
 lim:Nat
 objs:List (Sl × List Nat)
 slots:List Nat
 so:Sl
def WD.cells (W:WD):List Value:=[nv W.lim,.slice W.so.a W.so.n W.so.c] ++ W.slots.map nv
def WD.foot (W:WD) (b:Nat):Prop:=W.M.own b ∨ ∃ e ∈ W.objs,∃ p,e.1.a=some p∧p.block=b
structure WObj (h:Hp) (M:Mem) (e:Sl × List Nat):Prop where
 rd:ReadsO h e.1.a (e.2.map bv)
 n:e.1.n=e.2.length
 ok:Okb e.2
 out:∀ p,e.1.a=some p→p.block < h.size∧¬ M.own p.block
structure Wk (h:Hp) (W:WD):Prop where
 sep:Sep h W.M
 l0:W.M.loc 0=some W.wb
 c0:W.M.cont 0=W.cells
 s1:IsSl 1 W.M 1 W.so (W.objs.map fun e=>slV e.1)
 each:∀ e ∈ W.objs,WObj h W.M e
 s8:W.slots.length=8
 sle:∀ n ∈ W.slots,n ≤ W.objs.length
 lm:W.lim ≤ 1048576
 few:W.objs.length ≤ 100000
def sizeB (n:Nat):Nat:=2 + wordsN n
def heldW (slots:List Nat) (i:Nat):Bool:=decide (i + 1 ∈ slots)
def smallW (slots:List Nat) (objs:List (List Nat)) (n:Nat):Nat:=((List.range n).map fun i=>if heldW slots i=true∧sizeB (objs.getD i []).length ≤ 64 then sizeB (objs.getD i []).length else 0).sum
def largeW (slots:List Nat) (objs:List (List Nat)) (n:Nat):Nat:=((List.range n).map fun i=>if heldW slots i=true∧¬ sizeB (objs.getD i []).length ≤ 64 then sizeB (objs.getD i []).length + 1 else 0).sum
def WD.bs (W:WD):List (List Nat):=W.objs.map (·.2)
def WD.small (W:WD):Nat:=1 + smallW W.slots W.bs W.bs.length
def WD.large (W:WD):Nat:=largeW W.slots W.bs W.bs.length
/-- Has the heap no room for s words? -/
def WD.full (W:WD) (s:Nat):Bool:=if s ≤ 64 then decide ((W.small:Int) + s > ((W.lim:Int) - W.large) / 2) else decide (W.large + s + 1 + 2 * (max W.small 64) > W.lim)
section
variable {h h' h2:Hp} {W W':WD} {R:Value→Hp→Prop} {b t:List Nat}
theorem Wk.keep {S:Nat→Prop} (x:Wk h W) (k:Kept S h h') (hS:∀ b,W.foot b→¬ S b):Wk h' W :=
 ⟨x.sep.keep k fun b hb=>hS b (.inl hb),x.l0,x.c0,x.s1,fun e he=>(have z:=x.each e he; ⟨reads_kept2 k z.rd fun p hp _=>⟨(z.out p hp).1,hS _ (.inr ⟨e,he,p,hp,rfl⟩)⟩,z.n,z.ok,fun p hp=>⟨Nat.lt_of_lt_of_le (z.out p hp).1 k.1,(z.out p hp).2⟩⟩),x.s8,x.sle,x.lm,x.few⟩
theorem Wk.keepN (x:Wk h W) (k:Kept N h h'):Wk h' W:=x.keep k fun _ _=>_root_.id
theorem Wk.foot_lt (x:Wk h W) {b:Nat} (hb:W.foot b):b < h.size:=by
 rcases hb with hb | ⟨e,he,p,hp,rfl⟩
 ·exact x.sep.own_lt hb
 ·exact ((x.each e he).out p hp).1
theorem Wk.cell (x:Wk h W) (k:Nat):Go.Ev.cell h ((ad W.wb).add k)=W.cells[k]?:=by rw [x.sep.cellA x.l0 k,x.c0]
theorem Wk.cell0 (x:Wk h W):Go.Ev.cell h (ad W.wb)=some (.int .i64 (W.lim:Nat)):=x.cell 0
theorem Wk.cell1 (x:Wk h W):Go.Ev.cell h ((ad W.wb).add 1)=some (.slice W.so.a W.so.n W.so.c):=x.cell 1
theorem Wk.cellS (x:Wk h W) {i n:Nat} (hi:W.slots[i]?=some n):Go.Ev.cell h (((ad W.wb).add 2).add (i * 1))=some (.int .i64 (n:Nat)):=by
 rw [add_add,Nat.mul_one,x.cell]
 unfold WD.cells
 rw [List.getElem?_append_right (by simp),List.getElem?_map]
 show (W.slots[2 + i - 2]?).map nv=_
 rw [Nat.add_sub_cancel_left,hi]
 rfl
theorem Wk.son (x:Wk h W):W.so.n=W.objs.length:=by have:=x.s1.len; rw [List.length_map] at this; omega
theorem size_ok {n:Nat} (hn:n < 10000000) (hR:R (.int .i64 (sizeB n:Nat)) h):CallTo Tryz.prog 27 #[.int .i64 (n:Nat)] h R:=by
 refine f27F_ok ?_
 unfold f27F
 refine words2_ok (by omega) ⟨_,rfl,?_⟩
 have:wordsN n ≤ n:=by unfold wordsN; omega
 rw [wrap_i64' (by omega) (by omega)]
 unfold sizeB at hR
 have e:(2:Int) + ((wordsN n:Nat):Int)=((2 + wordsN n:Nat):Int):=by omega
 rw [e]
 exact hR
theorem wheld_ok (x:Wk h W) {i:Nat} (hi:i < 1000000) (hR:R (.bool (heldW W.slots i)) h):CallTo Tryz.prog 26 #[.pointer (some (ad W.wb)),.int .i64 (i:Nat)] h R:=by
 refine f26F_ok ?_
 unfold f26F
 refine f26L1_rule (fun m s0 s1 s5 h'=>∃ k:Nat,k ≤ 8∧m=8 - k∧s0=some (ad W.wb)∧s1=(i:Int)∧s5=(k:Int)∧(∀ j,j < k→W.slots[j]? ≠ some (i + 1))∧h=h') 8 ⟨0,by omega,rfl,rfl,rfl,rfl,(fun j hj=>by omega),rfl⟩ ?_
 rintro m s0 s1 s5 g h1 ⟨k,hk,rfl,rfl,rfl,rfl,hno,rfl⟩
 unfold f26L1
 refine Cond_dec (fun hlt=>?_) fun hge=>?_
 ·obtain ⟨n,hn⟩:∃ n,W.slots[k]?=some n:=⟨_,List.getElem?_eq_getElem (by rw [x.s8]; omega)⟩
  have e:IntKind.wrap .i64 (((i:Nat):Int) + 1)=((i + 1:Nat):Int):=by rw [wrap_i64' (by omega) (by omega)]; omega
  rw [Int.toNat_natCast,e]
  refine PtrOk_mk ⟨⟨by omega,hlt⟩,_,x.cellS hn,Cond_b (fun e1=>?_) fun e1=>?_⟩
  ·have e1:n=i + 1:=by have:=beq_iff_eq.1 e1; omega
   have:heldW W.slots i=true:=decide_eq_true (e1 ▸ List.mem_of_getElem? hn)
   rw [this] at hR
   exact hR
  ·have e1:n ≠ i + 1:=fun e=>by rw [e] at e1; simp at e1
   exact ⟨8 - (k + 1),by omega,k + 1,by omega,rfl,rfl,rfl,by rw [wrap_i64' (by omega) (by omega)]; rfl,fun j hj=>by
    by_cases ej:j=k
    ·rw [ej,hn]; exact fun e=>e1 (Option.some.inj e)
    ·exact hno j (by omega),rfl⟩
 ·have hk8:k=8:=by omega
  subst hk8
  have:heldW W.slots i=false:=decide_eq_false fun hm=>by
   obtain ⟨j,hj⟩:=List.mem_iff_getElem?.1 hm
   exact hno j (by have:=(List.getElem?_eq_some_iff.1 hj).1; rw [x.s8] at this; exact this) hj
  rw [this] at hR
  exact hR
theorem wsum_succ {f:Nat→Nat} (n:Nat):((List.range (n + 1)).map f).sum=((List.range n).map f).sum + f n:=by
 rw [List.range_succ,List.map_append,List.sum_append]
 simp
theorem smallW_succ (slots:List Nat) (objs:List (List Nat)) (n:Nat):smallW slots objs (n + 1)=smallW slots objs n + (if heldW slots n=true∧sizeB (objs.getD n []).length ≤ 64 then sizeB (objs.getD n []).length else 0):=wsum_succ n
theorem largeW_succ (slots:List Nat) (objs:List (List Nat)) (n:Nat):largeW slots objs (n + 1)=largeW slots objs n + (if heldW slots n=true∧¬ sizeB (objs.getD n []).length ≤ 64 then sizeB (objs.getD n []).length + 1 else 0):=wsum_succ n
theorem sizeB_le {n:Nat} (h:n ≤ 4096):sizeB n ≤ 514:=by unfold sizeB wordsN; omega
theorem getD_ok {objs:List (List Nat)} (h:∀ b ∈ objs,Okb b) (i:Nat):(objs.getD i []).length ≤ 4096:=by
 rw [List.getD_eq_getElem?_getD]
 cases e:objs[i]? with
 | none=>exact Nat.zero_le _
 | some b=>exact (h b (List.mem_of_getElem? e)).len
theorem live_bnd {objs:List (List Nat)} (h:∀ b ∈ objs,Okb b) (slots:List Nat):∀ n,smallW slots objs n ≤ 515 * n∧largeW slots objs n ≤ 515 * n
 | 0=>⟨Nat.zero_le _,Nat.zero_le _⟩
 | n + 1=>by
  have ih:=live_bnd h slots n
  have:=sizeB_le (getD_ok h n)
  rw [smallW_succ,largeW_succ]
  constructor <;> (split <;> omega)
theorem Wk.bsok (x:Wk h W):∀ b ∈ W.bs,Okb b:=fun b hb=>by
 obtain ⟨e,he,rfl⟩:=List.mem_map.1 hb
 exact (x.each e he).ok
theorem Wk.bsl (x:Wk h W):W.bs.length=W.objs.length:=by unfold WD.bs; rw [List.length_map]
theorem Wk.bnd (x:Wk h W):W.small ≤ 1 + 51500000∧W.large ≤ 51500000:=by
 have:=live_bnd x.bsok W.slots W.bs.length
 have:=x.bsl
 have:=x.few
 unfold WD.small WD.large
 omega
theorem live_ok (x:Wk h W) (hR:R (.tuple #[.int .i64 (W.small:Nat),.int .i64 (W.large:Nat)]) h):CallTo Tryz.prog 10 #[.pointer (some (ad W.wb))] h R:=by
 have few:=x.few
 have bl:=x.bsl
 refine f10F_ok ?_
 unfold f10F
 refine f10L1_rule (fun m s0 s4 s5 s6 h'=>∃ i:Nat,i ≤ W.objs.length∧m=W.objs.length - i∧s0=some (ad W.wb)∧s4=((1 + smallW W.slots W.bs i:Nat):Int)∧s5=((largeW W.slots W.bs i:Nat):Int)∧s6=(i:Int)∧h=h') W.objs.length ⟨0,Nat.zero_le _,rfl,rfl,rfl,rfl,rfl,rfl⟩ ?_
 rintro m s0 s4 s5 s6 g h1 ⟨i,hi,rfl,rfl,rfl,rfl,rfl,rfl⟩
 have bd:=live_bnd x.bsok W.slots i
 unfold f10L1
 refine PtrOk_mk ⟨W.so,x.cell1,Cond_dec (fun hlt=>?_) fun hge=>?_⟩
 ·have son:=x.son
  have hil:i < W.objs.length:=by omega
  obtain ⟨e,he⟩:∃ e,W.objs[i]?=some e:=⟨_,List.getElem?_eq_getElem hil⟩
  have eo:=x.each e (List.mem_of_getElem? he)
  have ebs:W.bs.getD i []=e.2:=by unfold WD.bs; rw [List.getD_eq_getElem?_getD,List.getElem?_map,he]; rfl
  have hel:=eo.ok.len
  have hsz:=sizeB_le hel
  have ew:IntKind.wrap .i64 (((i:Nat):Int) + 1)=((i + 1:Nat):Int):=by rw [wrap_i64' (by omega) (by omega)]; omega
  obtain ⟨pa,hpa,ca⟩:=readsO_get (slAt_reads (x.s1.slAt x.sep)) (i:=i) (v:=slV e.1) (by rw [List.getElem?_map,he]; rfl)
  rw [Int.toNat_natCast,Nat.mul_one]
  refine wheld_ok x (by omega) ⟨_,rfl,Cond_b (fun hh=>?_) fun hh=>?_⟩
  ·refine PtrOk_mk ⟨W.so,x.cell1,⟨by omega,hlt⟩,PtrOk_of hpa ⟨e.1,ca,?_⟩⟩
   rw [eo.n]
   refine size_ok (by omega) ⟨_,rfl,Cond_dec (fun hbig=>?_) fun hsm=>?_⟩
   ·unfold f10K1
    refine ⟨W.objs.length - (i + 1),by omega,i + 1,hil,rfl,rfl,?_,?_,ew,rfl⟩
    ·rw [smallW_succ,ebs,if_neg (by omega)]; rfl
    ·rw [largeW_succ,ebs,if_pos ⟨hh,by omega⟩,wrap_i64' (x:=((largeW W.slots W.bs i:Nat):Int) + _) (by omega) (by omega),wrap_i64' (by omega) (by omega)]; omega
   ·unfold f10K1
    refine ⟨W.objs.length - (i + 1),by omega,i + 1,hil,rfl,rfl,?_,?_,ew,rfl⟩
    ·rw [smallW_succ,ebs,if_pos ⟨hh,by omega⟩,wrap_i64' (by omega) (by omega)]; omega
    ·rw [largeW_succ,ebs,if_neg (by omega)]; rfl
  ·unfold f10K1
   have hn:¬ heldW W.slots i=true:=by rw [hh]; nofun
   refine ⟨W.objs.length - (i + 1),by omega,i + 1,hil,rfl,rfl,?_,?_,ew,rfl⟩
   ·rw [smallW_succ,if_neg fun z=>hn z.1]; rfl
   ·rw [largeW_succ,if_neg fun z=>hn z.1]; rfl
 ·have son:=x.son
  have hie:i=W.bs.length:=by omega
  subst hie
  exact hR
theorem full_ok (x:Wk h W) {s:Nat} (hs:s < 1000000) (hR:R (.bool (W.full s)) h):CallTo Tryz.prog 90 #[.pointer (some (ad W.wb)),.int .i64 (s:Nat)] h R:=by
 obtain ⟨b1,b2⟩:=x.bnd
 have lm:=x.lm
 refine f90F_ok ?_
 unfold f90F
 unfold WD.full at hR
 refine live_ok x ⟨_,_,rfl,Cond_dec (fun hle=>?_) fun hgt=>?_⟩
 ·rw [if_pos (by omega)] at hR
  refine PtrOk_mk ⟨_,x.cell0,by decide,?_⟩
  rw [wrap_i64' (x:=((W.small:Nat):Int) + _) (by omega) (by omega),wrap_i64' (x:=((W.lim:Nat):Int) - _) (by omega) (by omega)]
  -- the division of what may be below zero
  have hdiv:∀ z:Int,-60000000 ≤ z→z ≤ 2000000→decide (((W.small:Nat):Int) + ((s:Nat):Int) > IntKind.wrap .i64 (Int.tdiv z 2))=decide (((W.small:Nat):Int) + ((s:Nat):Int) > z / 2):=fun z h1 h2=>by
   by_cases hz:0 ≤ z
   ·rw [Int.tdiv_eq_ediv_of_nonneg hz,wrap_i64' (by omega) (by omega)]
   ·have e:Int.tdiv z 2=- ((-z) / 2):=by
     have:=Int.neg_tdiv (-z) 2
     rw [Int.neg_neg] at this
     rw [this,Int.tdiv_eq_ediv_of_nonneg (by omega)]
    rw [e,wrap_i64' (by omega) (by omega)]
    have:W.small=1 + smallW W.slots W.bs W.bs.length:=rfl
    rw [decide_eq_true (by omega),decide_eq_true (by omega)]
  rw [hdiv _ (by omega) (by omega)]
  exact hR
 ·rw [if_neg (by omega)] at hR
  have fin:∀ m:Nat,m=max W.small 64→f90K1 (some (ad W.wb)) (s:Nat) (W.large:Nat) (m:Nat) h R:=fun m hm=>by
   unfold f90K1
   refine PtrOk_mk ⟨_,x.cell0,?_⟩
   rw [wrap_i64' (x:=((W.large:Nat):Int) + _) (by omega) (by omega),wrap_i64' (x:=((W.large:Nat):Int) + ((s:Nat):Int) + 1) (by omega) (by omega),wrap_i64' (x:=(2:Int) * _) (by omega) (by omega),wrap_i64' (by omega) (by omega)]
   have e:decide (((W.large:Nat):Int) + ((s:Nat):Int) + 1 + 2 * ((m:Nat):Int) > ((W.lim:Nat):Int))=decide (W.large + s + 1 + 2 * (max W.small 64) > W.lim):=by
    rw [← hm]
    by_cases hc:W.large + s + 1 + 2 * m > W.lim
    ·rw [decide_eq_true hc,decide_eq_true (by omega)]
    ·rw [decide_eq_false hc,decide_eq_false (by omega)]
   rw [e]
   exact hR
  refine Cond_dec (fun hb=>fin _ (by omega)) fun hb=>fin 64 (by omega)
theorem there_ok (x:Wk h W) {i n:Nat} (hi:W.slots[i]?=some n) (hR:R (.bool (decide (0 < n))) h):CallTo Tryz.prog 30 #[.pointer (some (ad W.wb)),.int .i64 (i:Nat)] h R:=by
 have h8:i < 8:=by have:=(List.getElem?_eq_some_iff.1 hi).1; rw [x.s8] at this; exact this
 refine f30F_ok ?_
 unfold f30F
 rw [Int.toNat_natCast]
 refine PtrOk_mk ⟨⟨by omega,by omega⟩,_,x.cellS hi,?_⟩
 have e:decide (((n:Nat):Int) > (0:Int))=decide (0 < n):=by
  by_cases hc:0 < n
  ·rw [decide_eq_true hc,decide_eq_true (by omega)]
  ·rw [decide_eq_false hc,decide_eq_false (by omega)]
 rw [e]
 exact hR
theorem wcopy_ok {a:Sl} {l:List Nat} (ha:ReadsO h a.a (l.map bv)) (na:a.n=l.length) (hn:l.length < 140737488355328)
  (hR:∀ c h',Row h' c (l.map bv)→h.size ≤ c→Kept N h h'→R (.slice (some (ad c)) l.length l.length) h'):CallTo Tryz.prog 71 #[.slice a.a a.n a.c] h R:=by
 refine f71F_ok ?_
 unfold f71F
 rw [na]
 refine ⟨⟨by omega,by omega⟩,by omega,by omega,Let_mk fun h1 e1=>?_⟩
 rw [Int.toNat_natCast] at e1 ⊢
 have k1:Kept N h h1:=e1 ▸ kept_push _ _ _
 have row1:Row h1 h.size (List.replicate l.length (bv 0)):=by
  have e2:=e1
  rw [zrow_one] at e2
  exact e2 ▸ row_new h (List.replicate l.length (bv 0)).toArray 5
 have enb:nb h=ad h.size:=rfl
 rw [enb]
 refine cpy_row (o:=0) (l:=l) row1 (reads_keptN k1 ha) rfl (Nat.le_refl _) (by rw [List.length_replicate]; omega) (fun _=>rfl) fun h2 row2 k2=>?_
 have e:ovw (List.replicate l.length (bv 0)) 0 (l.map bv)=l.map bv:=by unfold ovw; simp
 rw [e] at row2
 exact hR _ h2 row2 (Nat.le_refl _) ⟨Nat.le_trans k1.1 k2.1,fun j hj _=>(k2.2 j (Nat.lt_of_lt_of_le hj k1.1) (by omega)).trans (k1.2 j hj _root_.id)⟩
/-- A slot's blob, as its object says. -/
theorem Wk.obj (x:Wk h W) {i m:Nat} (hi:W.slots[i]?=some (m + 1)):∃ e,W.objs[m]?=some e∧WObj h W.M e∧∃ p,W.so.a=some p∧Go.Ev.cell h (p.add m)=some (.slice e.1.a e.1.n e.1.c):=by
 have hle:=x.sle _ (List.mem_of_getElem? hi)
 obtain ⟨e,he⟩:∃ e,W.objs[m]?=some e:=⟨_,List.getElem?_eq_getElem (by omega)⟩
 obtain ⟨pa,hpa,ca⟩:=readsO_get (slAt_reads (x.s1.slAt x.sep)) (i:=m) (v:=slV e.1) (by rw [List.getElem?_map,he]; rfl)
 exact ⟨e,he,x.each e (List.mem_of_getElem? he),pa,hpa,ca⟩
theorem wbytes_ok (x:Wk h W) {i m:Nat} (hi:W.slots[i]?=some (m + 1)) {e:Sl × List Nat} (he:W.objs[m]?=some e) (hR:∀ c h',Row h' c (e.2.map bv)→h.size ≤ c→Kept N h h'→R (.slice (some (ad c)) e.2.length e.2.length) h') :
  CallTo Tryz.prog 31 #[.pointer (some (ad W.wb)),.int .i64 (i:Nat)] h R:=by
 have h8:i < 8:=by have:=(List.getElem?_eq_some_iff.1 hi).1; rw [x.s8] at this; exact this
 have few:=x.few
 have son:=x.son
 have hml:=(List.getElem?_eq_some_iff.1 he).1
 obtain ⟨e',he',eo,pa,hpa,ca⟩:=x.obj hi
 rw [he] at he'
 obtain rfl:=Option.some.inj he'
 have hel:=eo.ok.len
 refine f31F_ok ?_
 unfold f31F
 have ew:IntKind.wrap .i64 (((m + 1:Nat):Int) - 1)=((m:Nat):Int):=by rw [wrap_i64' (by omega) (by omega)]; omega
 rw [Int.toNat_natCast]
 have bnd:(0:Int) ≤ ((i:Nat):Int)∧((i:Nat):Int) < ((8:Nat):Int):=⟨by omega,by omega⟩
 refine PtrOk_mk ⟨bnd,_,x.cellS hi,Cond_f (by rw [beq_eq_false_iff_ne]; omega) (PtrOk_mk ⟨W.so,x.cell1,PtrOk_mk ⟨bnd,_,x.cellS hi,?_⟩⟩)⟩
 rw [ew,Int.toNat_natCast,Nat.mul_one]
 exact ⟨⟨by omega,by omega⟩,PtrOk_of hpa ⟨e.1,ca,wcopy_ok eo.rd eo.n (by omega) fun c h1 row hc k=>⟨⟨some (ad c),e.2.length,e.2.length⟩,rfl,hR c h1 row hc k⟩⟩⟩
end
end Go.Ev
set_option linter.all false
set_option maxRecDepth 1000000
namespace Go.Ev
open Go.Proofs
/-- The bytes while they are written. -/
def mid (b:List Nat) (p:Nat) (t:List Nat) (i:Nat):List Nat:=(List.range (max b.length (p + t.length))).map fun j=>if p ≤ j∧j < p + i then t.getD (j - p) 0 else b.getD j 0
theorem mid_len (b:List Nat) (p:Nat) (t:List Nat) (i:Nat):(mid b p t i).length=max b.length (p + t.length):=by unfold mid; simp
theorem mid_zero (b:List Nat) (p:Nat) (t:List Nat):mid b p t 0=b ++ List.replicate (max b.length (p + t.length) - b.length) 0:=by
 apply List.ext_getElem?
 intro j
 unfold mid
 rw [List.getElem?_map]
 by_cases hj:j < max b.length (p + t.length)
 ·rw [List.getElem?_range hj]
  show some (if p ≤ j∧j < p + 0 then _ else b.getD j 0)=_
  rw [if_neg (by omega),List.getD_eq_getElem?_getD]
  by_cases hb:j < b.length
  ·rw [List.getElem?_append_left hb,List.getElem?_eq_getElem hb]; rfl
  ·rw [List.getElem?_append_right (by omega),List.getElem?_replicate,if_pos (by omega),List.getElem?_eq_none (by omega)]; rfl
 ·rw [List.getElem?_eq_none (by simp; omega),List.getElem?_eq_none (by simp; omega)]; rfl
theorem mid_succ {b t:List Nat} {p i:Nat} (hi:i < t.length):mid b p t (i + 1)=(mid b p t i).set (p + i) (t.getD i 0):=by
 apply List.ext_getElem?
 intro j
 by_cases hj:j < max b.length (p + t.length)
 ·by_cases he:j=p + i
  ·subst he
   rw [List.getElem?_set_self (by rw [mid_len]; exact hj)]
   unfold mid
   rw [List.getElem?_map,List.getElem?_range hj]
   show some (if p ≤ p + i∧p + i < p + (i + 1) then t.getD (p + i - p) 0 else _)=_
   rw [if_pos (by omega),Nat.add_sub_cancel_left]
  ·rw [List.getElem?_set_ne (Ne.symm he)]
   unfold mid
   rw [List.getElem?_map,List.getElem?_map,List.getElem?_range hj]
   show some (if p ≤ j∧j < p + (i + 1) then _ else _)=some (if p ≤ j∧j < p + i then _ else _)
   by_cases hc:p ≤ j∧j < p + i
   ·rw [if_pos hc,if_pos (by omega)]
   ·rw [if_neg hc,if_neg (by omega)]
 ·rw [List.getElem?_eq_none (by rw [mid_len]; omega),List.getElem?_eq_none (by rw [List.length_set,mid_len]; omega)]
theorem mid_end (b:List Nat) (p:Nat) (t:List Nat):mid b p t t.length=splice b p t:=rfl
def WT (h:Hp) (W:WD) (h':Hp) (W':WD):Prop:=Kept W.foot h h'∧∀ b,W'.foot b→W.foot b ∨ h.size ≤ b
section
variable {h h' h2:Hp} {W W' W2:WD} {R:Value→Hp→Prop} {b t:List Nat}
theorem mem_one {c:Nat} {l:List Nat} (row:Row h c (l.map bv)):∃ M:Mem,M.loc 0=some c∧Sep h M∧IsSl 1 M 0 ⟨some (ad c),l.length,l.length⟩ (l.map bv)∧∀ d,M.own d→d=c:=by
 have key:∀ y d,(if y=0 then some c else none:Option Nat)=some d→y=0∧d=c:=fun y d hy=>by
  split at hy
  ·rename_i e; exact ⟨e,(Option.some.inj hy).symm⟩
  ·cases hy
 refine ⟨⟨fun y=>if y=0 then some c else none,fun _=>l.map bv⟩,rfl,⟨fun y d hy=>?_,fun y z d hy hz=>?_⟩,⟨by simp,fun e=>?_,fun d e=>?_⟩,fun d ⟨y,hy⟩=>(key y d hy).2⟩
 ·rw [(key y d hy).2]; exact row
 ·rw [(key y d hy).1,(key z d hz).1]
 ·have e:(some c:Option Nat)=none:=e
  cases e
 ·have e:some c=some d:=e
  obtain rfl:=Option.some.inj e
  exact ⟨rfl,Nat.le_refl _,[],by rw [List.append_nil],by simp⟩
theorem WT.refl (h:Hp) (W:WD):WT h W h W:=⟨Kept.refl _ _,fun _=>.inl⟩
theorem WT.trans (a:WT h W h' W') (c:WT h' W' h2 W2):WT h W h2 W2 :=
 ⟨⟨Nat.le_trans a.1.1 c.1.1,fun i hi hn=>(c.1.2 i (Nat.lt_of_lt_of_le hi a.1.1) fun o=>(a.2 i o).elim hn fun h=>by omega).trans (a.1.2 i hi hn)⟩,
  fun i o=>(c.2 i o).elim (a.2 i) fun h=>.inr (Nat.le_trans a.1.1 h)⟩
theorem WT.keepN (k:Kept N h h'):WT h W h' W:=⟨k.mono fun _ _ e=>e.elim,fun _=>.inl⟩
theorem WObj.keep {M M':Mem} {e:Sl × List Nat} {S:Nat→Prop} (z:WObj h M e) (k:Kept S h h') (hS:∀ p,e.1.a=some p→¬ S p.block) (hM:∀ p,e.1.a=some p→¬ M'.own p.block):WObj h' M' e :=
 ⟨reads_kept2 k z.rd fun p hp _=>⟨(z.out p hp).1,hS p hp⟩,z.n,z.ok,fun p hp=>⟨Nat.lt_of_lt_of_le (z.out p hp).1 k.1,hM p hp⟩⟩
/-- A slot is set. -/
theorem Wk.setS (x:Wk h W) {i n:Nat} (hi:i < 8) (hn:n ≤ W.objs.length) {K:Hp→Prop} (hK:∀ h' W',Wk h' W'→W'.wb=W.wb→W'.lim=W.lim→W'.objs=W.objs→W'.slots=W.slots.set i n→WT h W h' W'→Kept W.M.own h h'→K h') :
  stOk h (((ad W.wb).add 2).add (i * 1))∧Let (setc h (((ad W.wb).add 2).add (i * 1)) (.int .i64 (n:Nat))) fun h'=>K h':=by
 rw [add_add,Nat.mul_one]
 refine x.sep.st x.l0 (o:=2 + i) (add_ad _ _) (by rw [x.c0]; unfold WD.cells; rw [List.length_append,List.length_map,x.s8]; simp; omega) fun h' sep' ch=>?_
 rw [x.c0] at sep' ch
 have e:W.cells.set (2 + i) (.int .i64 (n:Nat))=WD.cells { W with slots:=W.slots.set i n }:=by
  unfold WD.cells
  rw [List.set_append_right _ _ (by simp)]
  show _ ++ (W.slots.map nv).set (2 + i - 2) (nv n)=_
  rw [Nat.add_sub_cancel_left,← List.map_set]
 rw [e] at sep' ch
 have own':∀ b,(W.M.upd 0 (some W.wb) (WD.cells { W with slots:=W.slots.set i n })).own b→b < h.size→W.M.own b:=fun b hb hl=>(ch.2 b hb).resolve_right fun z=>by omega
 exact hK h' { W with M:=W.M.upd 0 (some W.wb) (WD.cells { W with slots:=W.slots.set i n }),slots:=W.slots.set i n } ⟨sep',Mem.loc_self _ _ _ _,Mem.cont_self _ _ _ _,x.s1.other (by omega),fun e he=>(x.each e he).keep ch.1 (fun p hp=>((x.each e he).out p hp).2) fun p hp ho=>((x.each e he).out p hp).2 (own' _ ho ((x.each e he).out p hp).1),by show (W.slots.set i n).length=8; rw [List.length_set]; exact x.s8,fun m hm=>by
  rcases List.mem_or_eq_of_mem_set hm with hm | hm
  ·exact x.sle m hm
  ·rw [hm]; exact hn,x.lm,x.few⟩ rfl rfl rfl rfl ⟨ch.1.mono fun b _ hb=>.inl hb,fun b hb=>by
  rcases hb with hb | hb
  ·exact (ch.2 b hb).imp_left .inl
  ·exact .inl (.inr hb)⟩ ch.1
/-- A new blob, held by the slot. -/
theorem whold_ok (x:Wk h W) {i:Nat} (hi:i < 8) {a:Sl} (rd:ReadsO h a.a (b.map bv)) (na:a.n=b.length) (ok:Okb b) (few:W.objs.length < 100000)
  (hR:∀ h' W',Wk h' W'→W'.wb=W.wb→W'.lim=W.lim→W'.bs=W.bs ++ [b]→W'.slots=W.slots.set i (W.bs.length + 1)→WT h W h' W'→R (.tuple #[]) h'):CallTo Tryz.prog 91 #[.pointer (some (ad W.wb)),.int .i64 (i:Nat),.slice a.a a.n a.c] h R:=by
 have hl:=ok.len
 have son:=x.son
 refine f91F_ok ?_
 unfold f91F
 refine PtrOk_mk ⟨W.so,x.cell1,wcopy_ok rd na (by omega) fun c h1 row1 hc k1=>⟨⟨some (ad c),b.length,b.length⟩,rfl,?_⟩⟩
 have x1:=x.keepN k1
 refine ⟨⟨W.so,x1.cell1,rfl⟩,Let_mk fun h2 e2=>?_⟩
 have k2:Kept N h1 h2:=e2 ▸ kept_push _ _ _
 have row2:Row h2 h1.size [.slice (some (ad c)) b.length b.length]:=e2 ▸ row_new h1 #[.slice (some (ad c)) b.length b.length] 33
 have x2:=x1.keepN k2
 refine ⟨⟨W.so,x2.cell1,rfl⟩,?_⟩
 refine fld_app2 (y:=1) (k:=1) x2.sep x2.l0 x2.c0 (by unfold WD.cells; rw [List.length_append]; simp; omega) (by omega) x2.s1 (by omega) rfl (row_reads row2) fun h4 M4 so4 sep4 l4 c4 sl4 o4 ch4=>?_
 have son4:so4.n=W.objs.length + 1:=by have:=sl4.len; rw [List.length_append,List.length_map] at this; simp at this; omega
 have ec:W.cells.set 1 (slV so4)=WD.cells { W with so:=so4 }:=rfl
 rw [ec] at c4
 have row1c:Row h2 c (b.map bv):=kept_row k2 row1 _root_.id
 have cM:¬ W.M.own c:=fun ho=>by have:=x.sep.own_lt ho; omega
 have hc2:c < h2.size:=row_lt row1c
 have k12:Kept N h h2:=k1.trans k2
 have m4:∀ z,z < h2.size→¬ W.M.own z→¬ M4.own z:=fun z hz hn ho=>(ch4.2 z ho).elim hn fun y=>by omega
 have x4:Wk h4 { W with M:=M4,objs:=W.objs ++ [(⟨some (ad c),b.length,b.length⟩,b)],so:=so4 }:=⟨sep4,l4,c4,by
   show IsSl 1 M4 1 so4 ((W.objs ++ [((⟨some (ad c),b.length,b.length⟩,b):Sl × List Nat)]).map fun e=>slV e.1)
   rw [List.map_append]; exact sl4,fun e he=>by
   rcases List.mem_append.1 he with he | he
   ·exact (x2.each e he).keep ch4.1 (fun p hp=>((x2.each e he).out p hp).2) fun p hp=>m4 _ ((x2.each e he).out p hp).1 ((x2.each e he).out p hp).2
   ·obtain rfl:=List.mem_singleton.1 he
    exact ⟨reads_kept2 ch4.1 (row_reads row1c) fun p hp _=>(by obtain rfl:=Option.some.inj hp; exact ⟨hc2,cM⟩),rfl,ok,fun p hp=>by obtain rfl:=Option.some.inj hp; exact ⟨Nat.lt_of_lt_of_le hc2 ch4.1.1,m4 c hc2 cM⟩⟩,x.s8,fun n hn=>by show n ≤ (W.objs ++ [_]).length; rw [List.length_append]; have:=x.sle n hn; omega,x.lm,by show (W.objs ++ [_]).length ≤ _; rw [List.length_append]; simp; omega⟩
 have t4:WT h W h4 { W with M:=M4,objs:=W.objs ++ [(⟨some (ad c),b.length,b.length⟩,b)],so:=so4 }:=⟨⟨Nat.le_trans k12.1 ch4.1.1,fun j hj hn=>(ch4.1.2 j (Nat.lt_of_lt_of_le hj k12.1) fun ho=>hn (.inl ho)).trans (k12.2 j hj _root_.id)⟩,fun z hz=>by
  rcases hz with hz | ⟨e,he,p,hp,rfl⟩
  ·rcases ch4.2 z hz with y | y
   ·exact .inl (.inl y)
   ·exact .inr (Nat.le_trans k12.1 y)
  ·rcases List.mem_append.1 he with he | he
   ·exact .inl (.inr ⟨e,he,p,hp,rfl⟩)
   ·obtain rfl:=List.mem_singleton.1 he
    obtain rfl:=Option.some.inj hp
    exact .inr hc⟩
 refine PtrOk_mk ⟨so4,x4.cell1,PtrOk_mk ⟨⟨by omega,by omega⟩,?_⟩⟩
 rw [Int.toNat_natCast,son4]
 refine x4.setS hi (n:=W.objs.length + 1) (by show _ ≤ (W.objs ++ [_]).length; rw [List.length_append]; simp) fun h5 W5 x5 wb5 lm5 ob5 sl5 t5 _=>hR h5 W5 x5 wb5 lm5 ?_ ?_ (t4.trans t5)
 ·unfold WD.bs; rw [ob5]; show (W.objs ++ [_]).map _=_; rw [List.map_append]; rfl
 ·rw [sl5,x.bsl]
theorem wnew_ok (x:Wk h W) {i:Nat} (hi:i < 8) {a:Sl} {sls:List Sl} {parts:List (List Nat)} (l:Lists h a sls parts) (hlong:sls.length < 10000000) (hF:parts.flatten.length < 10000000) (few:W.objs.length < 100000)
  (hL:parts.flatten.length > 4096→∀ h',Kept N h h'→R (.int .i64 41) h') (hF:parts.flatten.length ≤ 4096→W.full (sizeB parts.flatten.length)=true→∀ h',Kept N h h'→R (.int .i64 31) h')
  (hR:parts.flatten.length ≤ 4096→W.full (sizeB parts.flatten.length)=false→∀ h' W',Wk h' W'→W'.wb=W.wb→W'.lim=W.lim→W'.bs=W.bs ++ [parts.flatten]→W'.slots=W.slots.set i (W.bs.length + 1)→WT h W h' W'→R (.int .i64 0) h') :
  CallTo Tryz.prog 42 #[.pointer (some (ad W.wb)),.int .i64 (i:Nat),.slice a.a a.n a.c] h R:=by
 have hsl:=l.len
 have han:=l.n
 have hFl:parts.flatten.length < 10000000:=by assumption
 refine f42F_ok ?_
 unfold f42F
 refine f42L1_rule (s2:=a) (s7:=⟨none,0,0⟩) (fun m s0 s1 s2 s7 s8 h'=>∃ (k:Nat) (M:Mem),k ≤ sls.length∧m=sls.length - k∧s0=some (ad W.wb)∧s1=(i:Int)∧a=s2∧s8=(k:Int)∧IsSl 1 M 0 s7 ((parts.take k).flatten.map bv)∧Sep h' M∧Chg h M00 h' M) sls.length
  ⟨0,M00,Nat.zero_le _,rfl,rfl,rfl,rfl,rfl,nil00 1,sep00 h,Chg.refl _ _⟩ ?_
 rintro m s0 s1 s2 s7 s8 g h2 ⟨k,M,hk,rfl,rfl,rfl,rfl,rfl,sl2,sep2,ch2⟩
 obtain ⟨k2,own2⟩:=chg00 ch2
 unfold f42L1
 have hfi:=flat_le parts k
 have ln:s7.n=(parts.take k).flatten.length:=by have:=sl2.len; rw [List.length_map] at this; omega
 refine Cond_dec (fun hlt=>?_) fun hge=>?_
 ·have hil:k < sls.length:=by omega
  obtain ⟨c,hc⟩:∃ c,sls[k]?=some c:=⟨_,List.getElem?_eq_getElem hil⟩
  obtain ⟨p,hp⟩:∃ p,parts[k]?=some p:=⟨_,List.getElem?_eq_getElem (by omega)⟩
  obtain ⟨rdc,nc,b8,lc,oc⟩:=l.each k c p hc hp
  obtain ⟨pa,hpa,hcell⟩:=readsO_get (reads_keptN k2 l.rd) (i:=k) (v:=slV c) (by rw [List.getElem?_map,hc]; rfl)
  have hfl:=flat_le parts (k + 1)
  have e1:(parts.take (k + 1)).flatten.length=(parts.take k).flatten.length + p.length:=by rw [flat_take hp,List.length_append]
  refine ⟨⟨by omega,hlt⟩,PtrOk_of hpa ⟨c,by rw [Int.toNat_natCast,Nat.mul_one]; exact hcell,p.map bv,reads_keptN k2 rdc,by rw [List.length_map]; omega,?_⟩⟩
  refine sl2.app sep2 rfl (by rw [List.length_map]; omega) (fun v hv=>by obtain ⟨x,_,rfl⟩:=List.mem_map.1 hv; rfl) (by omega) (by omega) fun a' c' h3 ob cc sep3 sl3 ch3=>?_
  refine ⟨sls.length - (k + 1),by omega,k + 1,_,hil,rfl,rfl,rfl,rfl,by rw [wrap_i64' (by omega) (by omega)]; rfl,?_,sep3,ch2.trans ch3⟩
  rw [← List.map_append,← flat_take hp] at sl3
  exact sl3
 ·have hie:k=parts.length:=by omega
  subst hie
  rw [List.take_length] at sl2 ln
  have x2:=x.keepN k2
  have hw:wordsN parts.flatten.length ≤ parts.flatten.length:=by unfold wordsN; omega
  refine Cond_dec (fun hbig=>hL (by omega) h2 k2) fun hsm=>?_
  rw [ln]
  have b8:Bytes8 parts.flatten:=fun y hy=>by
   obtain ⟨p,hp,hyp⟩:=List.mem_flatten.1 hy
   obtain ⟨ii,hii⟩:=List.mem_iff_getElem?.1 hp
   have hl:=(List.getElem?_eq_some_iff.1 hii).1
   obtain ⟨_,_,b8,_⟩:=l.each ii _ p (List.getElem?_eq_getElem (by omega)) hii
   exact b8 y hyp
  refine size_ok (by omega) ⟨_,rfl,full_ok x2 (by unfold sizeB; omega) ⟨_,rfl,Cond_b (fun hf=>hF (by omega) hf h2 k2) fun hf=>?_⟩⟩
  have:=whold_ok (R:=fun v h'=>v=.tuple #[]∧R (.int .i64 0) h') x2 hi (slAt_reads (sl2.slAt sep2)) ln ⟨b8,by omega⟩ few fun h' W' x' w1 w2 w3 w4 w5=>⟨rfl,hR (by omega) hf h' W' x' w1 w2 w3 w4 ((WT.keepN k2).trans w5)⟩
  rw [ln] at this
  exact this
/-- Write's end: in place, or a new one, or no room. -/
theorem wtail (x:Wk h W) {i j m:Nat} (hi:W.slots[i]?=some (m + 1)) (hj:j < 8) {e:Sl × List Nat} (he:W.objs[m]?=some e) {s:Sl} (rd:ReadsO h s.a (b.map bv)) (ns:s.n=b.length) (ok:Okb b) (out:∀ p,s.a=some p→p.block < h.size∧¬ W.foot p.block) (few:W.objs.length < 100000)
  (hS:sizeB b.length=sizeB e.2.length→∀ h' W',Wk h' W'→W'.wb=W.wb→W'.lim=W.lim→W'.bs=W.bs.set m b→W'.slots=W.slots.set j (m + 1)→(Kept (fun z=>W.foot z) h h'∧∀ z,W'.foot z→W.foot z ∨ (∃ p,s.a=some p∧p.block=z) ∨ h.size ≤ z)→R (.tuple #[.bool false,.int .i64 0]) h')
  (hF:sizeB b.length ≠ sizeB e.2.length→W.full (sizeB b.length)=true→R (.tuple #[.bool false,.int .i64 31]) h)
  (hR:sizeB b.length ≠ sizeB e.2.length→W.full (sizeB b.length)=false→∀ h' W',Wk h' W'→W'.wb=W.wb→W'.lim=W.lim→W'.bs=W.bs ++ [b]→W'.slots=W.slots.set j (W.bs.length + 1)→WT h W h' W'→R (.tuple #[.bool true,.int .i64 0]) h') :
  CallTo Tryz.prog 27 #[.int .i64 (((s.n:Nat):Int))] h fun r h5=>∃ t83:Int,r=.int .i64 t83∧CallTo Tryz.prog 27 #[.int .i64 (((e.1.n:Nat):Int))] h5 fun r h6=>∃ t86:Int,r=.int .i64 t86∧Cond (t83 == t86) (PtrOk (some (ad W.wb)) fun p89=>∃ t91:Sl,cell h6 (p89.add 1)=some (.slice t91.a t91.n t91.c)∧PtrOk (some (ad W.wb)) fun p94=>(0 ≤ ((i:Nat):Int)∧((i:Nat):Int) < ((8:Nat):Int))∧∃ t97:Int,cell h6 ((p94.add 2).add (((i:Nat):Int).toNat * 1))=some (.int .i64 t97)∧(0 ≤ (IntKind.wrap .i64 (t97 - (1:Int)))∧(IntKind.wrap .i64 (t97 - (1:Int))) < ((t91.n:Nat):Int))∧PtrOk t91.a fun p100=>stOk h6 (p100.add ((IntKind.wrap .i64 (t97 - (1:Int))).toNat * 1))∧Let (setc h6 (p100.add ((IntKind.wrap .i64 (t97 - (1:Int))).toNat * 1)) (.slice s.a s.n s.c)) fun h7=>PtrOk (some (ad W.wb)) fun p105=>(0 ≤ ((i:Nat):Int)∧((i:Nat):Int) < ((8:Nat):Int))∧∃ t108:Int,cell h7 ((p105.add 2).add (((i:Nat):Int).toNat * 1))=some (.int .i64 t108)∧PtrOk (some (ad W.wb)) fun p109=>(0 ≤ ((j:Nat):Int)∧((j:Nat):Int) < ((8:Nat):Int))∧stOk h7 ((p109.add 2).add (((j:Nat):Int).toNat * 1))∧Let (setc h7 ((p109.add 2).add (((j:Nat):Int).toNat * 1)) (.int .i64 t108)) fun h8=>R (.tuple #[.bool false,.int .i64 0]:Value) h8) (CallTo Tryz.prog 27 #[.int .i64 (((s.n:Nat):Int))] h6 fun r h9=>∃ t115:Int,r=.int .i64 t115∧CallTo Tryz.prog 90 #[.pointer (some (ad W.wb)),.int .i64 t115] h9 fun r h10=>∃ t116:Bool,r=.bool t116∧Cond t116 (R (.tuple #[.bool false,.int .i64 31]:Value) h10) (CallTo Tryz.prog 91 #[.pointer (some (ad W.wb)),.int .i64 ((j:Nat):Int),.slice s.a s.n s.c] h10 fun r h11=>r=.tuple #[]∧R (.tuple #[.bool true,.int .i64 0]:Value) h11)):=by
 have h8:i < 8:=by have:=(List.getElem?_eq_some_iff.1 hi).1; rw [x.s8] at this; exact this
 have hml:=(List.getElem?_eq_some_iff.1 he).1
 have eo:=x.each e (List.mem_of_getElem? he)
 have hel:=eo.ok.len
 have hbl:=ok.len
 have son:=x.son
 have bl:=x.bsl
 have bnd:∀ k:Nat,k < 8→(0:Int) ≤ ((k:Nat):Int)∧((k:Nat):Int) < ((8:Nat):Int):=fun k hk=>⟨by omega,by omega⟩
 rw [ns,eo.n]
 simp only [Int.toNat_natCast]
 refine size_ok (by omega) ⟨_,rfl,size_ok (by omega) ⟨_,rfl,Cond_b (fun hsame=>?_) fun hdiff=>?_⟩⟩
 ·have hsame:sizeB b.length=sizeB e.2.length:=by have:=beq_iff_eq.1 hsame; omega
  have ew:IntKind.wrap .i64 (((m + 1:Nat):Int) - 1)=((m:Nat):Int):=by rw [wrap_i64' (by omega) (by omega)]; omega
  refine PtrOk_mk ⟨W.so,x.cell1,PtrOk_mk ⟨bnd i h8,_,x.cellS hi,?_⟩⟩
  rw [ew,Int.toNat_natCast,Nat.mul_one]
  obtain ⟨sb,hsb,hsa⟩:=x.s1.some_of (fun z=>by have:=congrArg List.length z; rw [List.length_map] at this; simp at this; rw [this] at hml; simp at hml)
  refine ⟨⟨by omega,by omega⟩,PtrOk_of hsa ?_⟩
  obtain ⟨z1,z2⟩:=x.s1.set hsb (.slice s.a b.length s.c) (o:=m) (by rw [List.length_map]; exact hml)
  refine x.sep.st hsb (add_ad _ _) z1 fun h1 sep1 ch1=>?_
  have z3:=x.s1
  have loN:∀ y,y ≠ 1→(W.M.upd 1 (some sb) ((W.M.cont 1).set m (.slice s.a b.length s.c))).loc y=W.M.loc y∧(W.M.upd 1 (some sb) ((W.M.cont 1).set m (.slice s.a b.length s.c))).cont y=W.M.cont y:=fun y hy=>⟨Mem.loc_ne _ _ _ hy,Mem.cont_ne _ _ _ hy⟩
  generalize W.M.upd 1 (some sb) ((W.M.cont 1).set m (.slice s.a b.length s.c))=M1 at sep1 ch1 z2 loN
  have own1:∀ z,z < h.size→M1.own z→W.M.own z:=fun z hz ho=>(ch1.2 z ho).resolve_right fun y=>by omega
  have x1:Wk h1 { W with M:=M1,objs:=W.objs.set m (s,b) }:=⟨sep1,(loN 0 (by omega)).1.trans x.l0,(loN 0 (by omega)).2.trans x.c0,by
    show IsSl 1 M1 1 W.so ((W.objs.set m (s,b)).map fun e=>slV e.1)
    rw [List.map_set]
    have q:slV s=.slice s.a b.length s.c:=by unfold slV; rw [ns]
    show IsSl 1 M1 1 W.so ((W.objs.map fun e=>slV e.1).set m (slV s))
    rw [q]
    exact z2,fun e' he'=>by
    rcases List.mem_or_eq_of_mem_set he' with he' | he'
    ·exact (x.each e' he').keep ch1.1 (fun p hp=>((x.each e' he').out p hp).2) fun p hp ho=>((x.each e' he').out p hp).2 (own1 _ ((x.each e' he').out p hp).1 ho)
    ·subst he'
     exact ⟨reads_kept2 ch1.1 rd fun p hp _=>⟨(out p hp).1,fun ho=>(out p hp).2 (.inl ho)⟩,ns,ok,fun p hp=>⟨Nat.lt_of_lt_of_le (out p hp).1 ch1.1.1,fun ho=>(out p hp).2 (.inl (own1 _ (out p hp).1 ho))⟩⟩,x.s8,fun n hn=>by show n ≤ (W.objs.set m (s,b)).length; rw [List.length_set]; exact x.sle n hn,x.lm,by show (W.objs.set m (s,b)).length ≤ _; rw [List.length_set]; exact x.few⟩
  refine PtrOk_mk ⟨bnd i h8,_,x1.cellS hi,PtrOk_mk ⟨bnd j hj,?_⟩⟩
  refine x1.setS hj (n:=m + 1) (by show m + 1 ≤ (W.objs.set m (s,b)).length; rw [List.length_set]; exact hml) fun h2 W2 x2 w1 w2 w3 w4 w5 w6=>hS hsame h2 W2 x2 w1 w2 ?_ w4 ⟨?_,fun z hz=>?_⟩
  ·unfold WD.bs; rw [w3]; show (W.objs.set m (s,b)).map _=_; rw [List.map_set]
  ·exact ⟨Nat.le_trans ch1.1.1 w6.1,fun y hy hn=>(w6.2 y (Nat.lt_of_lt_of_le hy ch1.1.1) fun ho=>hn (.inl (own1 y hy ho))).trans (ch1.1.2 y hy fun ho=>hn (.inl ho))⟩
  ·rcases w5.2 z hz with y | y
   ·rcases y with y | ⟨e',he',p,hp,rfl⟩
    ·rcases ch1.2 z y with q | q
     ·exact .inl (.inl q)
     ·exact .inr (.inr q)
    ·have he':e' ∈ W.objs.set m (s,b):=he'
     rcases List.mem_or_eq_of_mem_set he' with he' | he'
     ·exact .inl (.inr ⟨e',he',p,hp,rfl⟩)
     ·subst he'; exact .inr (.inl ⟨p,hp,rfl⟩)
   ·exact .inr (.inr (Nat.le_trans ch1.1.1 y))
 ·have hdiff:sizeB b.length ≠ sizeB e.2.length:=fun q=>by rw [q] at hdiff; simp at hdiff
  have hsz:=sizeB_le hbl
  refine size_ok (by omega) ⟨_,rfl,full_ok x (by omega) ⟨_,rfl,Cond_b (fun hf=>hF hdiff hf) fun hf=>?_⟩⟩
  have:=whold_ok (R:=fun v h'=>v=.tuple #[]∧R (.tuple #[.bool true,.int .i64 0]) h') x hj rd ns ok few fun h' W' x' w1 w2 w3 w4 w5=>⟨rfl,hR hdiff hf h' W' x' w1 w2 w3 w4 w5⟩
  rw [ns] at this
  exact this
/-- Write. -/
theorem wwrite_ok (x:Wk h W) {i j n:Nat} (hi:W.slots[i]?=some n) (hj:j < 8) {p:Int} (hp:I64 p) {a:Sl} (rd:ReadsO h a.a (t.map bv)) (na:a.n=t.length) (t8:Bytes8 t) (htl:t.length < 140737488355328) (few:W.objs.length < 100000)
  (h0:n=0→R (.tuple #[.bool false,.int .i64 40]) h)
  (h42:n ≠ 0→(p < 0 ∨ p > 4096)→R (.tuple #[.bool false,.int .i64 42]) h)
  (h41:n ≠ 0→¬ (p < 0 ∨ p > 4096)→0 < t.length→p + t.length > 4096→R (.tuple #[.bool false,.int .i64 41]) h)
  (hK:∀ m e pn,n=m + 1→W.objs[m]?=some e→p=(pn:Nat)→¬ (p < 0 ∨ p > 4096)→(t.length=0 ∨ pn + t.length ≤ 4096)→Okb (if t.length=0 then e.2 else splice e.2 pn t) →
   (sizeB (if t.length=0 then e.2 else splice e.2 pn t).length=sizeB e.2.length→∀ h' W',Wk h' W'→W'.wb=W.wb→W'.lim=W.lim→W'.bs=W.bs.set m (if t.length=0 then e.2 else splice e.2 pn t)→W'.slots=W.slots.set j n→WT h W h' W'→R (.tuple #[.bool false,.int .i64 0]) h') ∧
   (sizeB (if t.length=0 then e.2 else splice e.2 pn t).length ≠ sizeB e.2.length→W.full (sizeB (if t.length=0 then e.2 else splice e.2 pn t).length)=true→∀ h',Kept N h h'→R (.tuple #[.bool false,.int .i64 31]) h') ∧
   (sizeB (if t.length=0 then e.2 else splice e.2 pn t).length ≠ sizeB e.2.length→W.full (sizeB (if t.length=0 then e.2 else splice e.2 pn t).length)=false→∀ h' W',Wk h' W'→W'.wb=W.wb→W'.lim=W.lim→W'.bs=W.bs ++ [if t.length=0 then e.2 else splice e.2 pn t]→W'.slots=W.slots.set j (W.bs.length + 1)→WT h W h' W'→R (.tuple #[.bool true,.int .i64 0]) h')) :
  CallTo Tryz.prog 48 #[.pointer (some (ad W.wb)),.int .i64 (i:Nat),.int .i64 p,.slice a.a a.n a.c,.int .i64 (j:Nat)] h R:=by
 have h8:i < 8:=by have:=(List.getElem?_eq_some_iff.1 hi).1; rw [x.s8] at this; exact this
 have bnd:∀ k:Nat,k < 8→(0:Int) ≤ ((k:Nat):Int)∧((k:Nat):Int) < ((8:Nat):Int):=fun k hk=>⟨by omega,by omega⟩
 have son:=x.son
 refine f48F_ok ?_
 unfold f48F
 refine PtrOk_mk ⟨bnd i h8,_,by rw [Int.toNat_natCast]; exact x.cellS hi,Cond_b (fun e0=>h0 (by have:=beq_iff_eq.1 e0; omega)) fun e0=>?_⟩
 have hn0:n ≠ 0:=fun e=>by rw [e] at e0; simp at e0
 have main:∀ bb,bb=decide (p < 0 ∨ p > 4096)→f48K1 (some (ad W.wb)) (i:Nat) p a (j:Nat) bb h R:=fun bb hbb=>by
  subst hbb
  unfold f48K1
  refine Cond_dec (fun hc=>h42 hn0 hc) fun hc=>?_
  obtain ⟨m,rfl⟩:∃ m,n=m + 1:=⟨n - 1,by omega⟩
  obtain ⟨e,he,eo,pa,hpa,ca⟩:=x.obj hi
  have hml:=(List.getElem?_eq_some_iff.1 he).1
  have few':=x.few
  obtain ⟨pn,rfl⟩:∃ pn:Nat,p=(pn:Int):=⟨p.toNat,by omega⟩
  have hel:=eo.ok.len
  rw [na]
  have es:IntKind.wrap .i64 (((pn:Nat):Int) + ((t.length:Nat):Int))=((pn + t.length:Nat):Int):=by rw [wrap_i64' (by omega) (by omega)]; omega
  rw [es]
  have ew:IntKind.wrap .i64 (((m + 1:Nat):Int) - 1)=((m:Nat):Int):=by rw [wrap_i64' (by omega) (by omega)]; omega
  have bndm:(0:Int) ≤ IntKind.wrap .i64 (((m + 1:Nat):Int) - 1)∧IntKind.wrap .i64 (((m + 1:Nat):Int) - 1) < ((W.so.n:Nat):Int):=by rw [ew]; omega
  have cam:cell h (pa.add ((IntKind.wrap .i64 (((m + 1:Nat):Int) - 1)).toNat * 1))=some (.slice e.1.a e.1.n e.1.c):=by rw [ew,Int.toNat_natCast,Nat.mul_one]; exact ca
  have cSi:cell h (((ad W.wb).add 2).add (((i:Nat):Int).toNat * 1))=some (.int .i64 ((m + 1:Nat):Int)):=by rw [Int.toNat_natCast]; exact x.cellS hi
  have wt:∀ {h1 h':Hp} {W':WD} {s:Sl},Kept N h h1→(∀ p,s.a=some p→h.size ≤ p.block)→(Kept (fun z=>W.foot z) h1 h'∧∀ z,W'.foot z→W.foot z ∨ (∃ p,s.a=some p∧p.block=z) ∨ h1.size ≤ z)→WT h W h' W':=fun {h1 h' W' s} k1 hs ⟨q1,q2⟩ =>
   ⟨⟨Nat.le_trans k1.1 q1.1,fun y hy hn=>(q1.2 y (Nat.lt_of_lt_of_le hy k1.1) hn).trans (k1.2 y hy _root_.id)⟩,fun z hz=>by
    rcases q2 z hz with y | ⟨p,hp,rfl⟩ | y
    ·exact .inl y
    ·exact .inr (hs p hp)
    ·exact .inr (Nat.le_trans k1.1 y)⟩
  have nfoot:∀ {p:Addr},h.size ≤ p.block→¬ W.foot p.block:=fun hp hf=>by have:=x.foot_lt hf; omega
  refine Cond_dec (fun hpos=>?_) fun hz=>?_
  ·have hpos:0 < t.length:=by omega
   refine Cond_dec (fun hbig=>h41 hn0 hc hpos (by omega)) fun hsm=>?_
   have hsum:pn + t.length ≤ 4096:=by omega
   have okS:=okb_splice (p:=pn) eo.ok t8 hsum
   have hSl:=splice_len e.2 pn t
   obtain ⟨kS,kF,kR⟩:=hK m e pn rfl he rfl hc (.inr hsum) (by rw [if_neg (by omega)]; exact okS)
   rw [if_neg (by omega)] at kS kF kR
   refine PtrOk_mk ⟨W.so,x.cell1,PtrOk_mk ⟨bnd i h8,_,cSi,bndm,PtrOk_of hpa ⟨e.1,cam,wcopy_ok eo.rd eo.n (by omega) fun c h1 row1 hcs k1=>⟨⟨some (ad c),e.2.length,e.2.length⟩,rfl,Cond_dec (fun _=>?_) fun hno=>absurd hpos (by omega)⟩⟩⟩⟩
   obtain ⟨M1,l1,sp1,sl1,own1'⟩:=mem_one row1
   have own1:∀ d,M1.own d→h.size ≤ d:=fun d hd=>by rw [own1' d hd]; exact hcs
   rw [← na]
   refine f48L1_rule (s3:=a) (s12:=e.1) (s13:=⟨some (ad c),e.2.length,e.2.length⟩) (fun q s0 s1 s2 s3 s4 s12 s13 h'=>∃ (k:Nat) (M:Mem),e.2.length + k ≤ max e.2.length (pn + t.length)∧q=max e.2.length (pn + t.length) - (e.2.length + k)∧s0=some (ad W.wb)∧s1=((i:Nat):Int)∧s2=((pn:Nat):Int)∧a=s3∧s4=((j:Nat):Int)∧e.1=s12 ∧
     IsSl 1 M 0 s13 ((e.2 ++ List.replicate k 0).map bv)∧Sep h' M∧(∀ d,M.own d→h.size ≤ d)∧Kept N h h') (max e.2.length (pn + t.length) - e.2.length)
    ⟨0,M1,by omega,by rw [Nat.add_zero],rfl,rfl,rfl,rfl,rfl,rfl,by simpa using sl1,sp1,own1,k1⟩ ?_
   clear sl1 sp1 own1
   rintro q s0 s1 s2 s3 s4 s12 s13 g h2 ⟨k,M,hk,rfl,rfl,rfl,rfl,rfl,rfl,rfl,sl2,sep2,own2,k2⟩
   unfold f48L1
   have ln:s13.n=e.2.length + k:=by have:=sl2.len; simp at this; omega
   rw [na,es]
   refine Cond_dec (fun hlt=>?_) fun hge=>?_
   ·refine sl2.app1 sep2 rfl rfl (fun v hv=>by simp at hv; rw [hv]; rfl) (by omega) (by omega) fun a' c' h3 ob cs sep3 sl3 ch3=>?_
    refine ⟨max e.2.length (pn + t.length) - (e.2.length + (k + 1)),by omega,k + 1,_,by omega,rfl,rfl,rfl,rfl,rfl,rfl,rfl,?_,sep3,fun d hd=>?_,⟨Nat.le_trans k2.1 ch3.1.1,fun j hj _=>(ch3.1.2 j (Nat.lt_of_lt_of_le hj k2.1) fun ho=>by have:=own2 j ho; omega).trans (k2.2 j hj _root_.id)⟩⟩
    ·have e':(e.2 ++ List.replicate k 0).map bv ++ #[Value.int .u8 0].toList=(e.2 ++ List.replicate (k + 1) 0).map bv:=by
      rw [List.replicate_succ',← List.append_assoc,List.map_append (l₁:=e.2 ++ List.replicate k 0)]
      rfl
     rw [e'] at sl3
     exact sl3
    ·rcases ch3.2 d hd with hd | hd
     ·exact own2 d hd
     ·exact Nat.le_trans k2.1 hd
   ·have hke:k=max e.2.length (pn + t.length) - e.2.length:=by omega
    subst hke
    rw [← mid_zero] at sl2
    have lnM:s13.n=max e.2.length (pn + t.length):=by omega
    clear hge hk
    rw [← na]
    refine f48L2_rule (s3:=a) (s12:=e.1) (s13:=s13) (fun q s0 s1 s2 s3 s4 s12 s13' s14 h'=>∃ (k:Nat) (M:Mem),k ≤ t.length∧q=t.length - k∧s0=some (ad W.wb)∧s1=((i:Nat):Int)∧s2=((pn:Nat):Int)∧a=s3∧s4=((j:Nat):Int)∧e.1=s12∧s13=s13'∧s14=(k:Int) ∧
      IsSl 1 M 0 s13 ((mid e.2 pn t k).map bv)∧Sep h' M∧(∀ d,M.own d→h.size ≤ d)∧Kept N h h') t.length
     ⟨0,M,Nat.zero_le _,rfl,rfl,rfl,rfl,rfl,rfl,rfl,rfl,rfl,sl2,sep2,own2,k2⟩ ?_
    clear sl2 sep2 own2 k2 M
    rintro q s0 s1 s2 s3 s4 s12 s13' s14 g2 h3 ⟨k,M,hk,rfl,rfl,rfl,rfl,rfl,rfl,rfl,rfl,rfl,sl3,sep3,own3,k3⟩
    unfold f48L2
    refine Cond_dec (fun hlt=>?_) fun hge=>?_
    ·have hil:k < t.length:=by omega
     obtain ⟨pt,hpt,hcell⟩:=readsO_get (reads_keptN k3 rd) (i:=k) (v:=bv (t.getD k 0)) (by rw [List.getElem?_map,List.getD_eq_getElem?_getD,List.getElem?_eq_getElem hil]; rfl)
     have ei:IntKind.wrap .i64 (((pn:Nat):Int) + ((k:Nat):Int))=((pn + k:Nat):Int):=by rw [wrap_i64' (by omega) (by omega)]; omega
     rw [ei]
     have hmx:pn + k < s13.n:=by rw [lnM]; omega
     obtain ⟨d,hd1,hd2⟩:=sl3.some_of (fun e=>by have:=congrArg List.length e; rw [List.length_map,mid_len,List.length_nil] at this; omega)
     refine ⟨⟨by omega,hlt⟩,PtrOk_of hpt ⟨((t.getD k 0:Nat):Int),by rw [Int.toNat_natCast,Nat.mul_one]; exact hcell,⟨by omega,Int.ofNat_lt.2 hmx⟩,PtrOk_of hd2 ?_⟩⟩
     rw [Int.toNat_natCast,Nat.mul_one]
     obtain ⟨z1,z2⟩:=sl3.set hd1 (bv (t.getD k 0)) (o:=pn + k) (by rw [List.length_map,mid_len]; omega)
     refine sep3.st hd1 (add_ad _ _) z1 fun h4 sep4 ch4=>?_
     refine ⟨t.length - (k + 1),by omega,k + 1,_,hil,rfl,rfl,rfl,rfl,rfl,rfl,rfl,rfl,by rw [wrap_i64' (by omega) (by omega)]; rfl,?_,sep4,fun d' he'=>?_,⟨Nat.le_trans k3.1 ch4.1.1,fun j hj _=>(ch4.1.2 j (Nat.lt_of_lt_of_le hj k3.1) fun ho=>by have:=own3 j ho; omega).trans (k3.2 j hj _root_.id)⟩⟩
     ·rw [mid_succ hil,List.map_set]
      exact z2
     ·rcases ch4.2 d' he' with he' | he'
      ·exact own3 d' he'
      ·exact Nat.le_trans k3.1 he'
    ·have hie:k=t.length:=by omega
     subst hie
     rw [mid_end] at sl3
     have x3:=x.keepN k3
     have hs3:∀ p,s13.a=some p→h.size ≤ p.block:=fun p hp=>by
      obtain ⟨d,hd1,hd2⟩:=sl3.some_of (fun e=>by have:=congrArg List.length e; rw [List.length_map,hSl,List.length_nil] at this; omega)
      rw [hd2] at hp
      obtain rfl:=Option.some.inj hp
      exact own3 d ⟨0,hd1⟩
     refine wtail x3 hi hj he (slAt_reads (sl3.slAt sep3)) (by rw [hSl]; exact lnM) okS (fun p hp=>⟨?_,nfoot (hs3 p hp)⟩) few (fun hs h' W' x' w1 w2 w3 w4 w5=>kS hs h' W' x' w1 w2 w3 w4 (wt k3 hs3 w5)) (fun hs hf=>kF hs hf h3 k3) fun hs hf h' W' x' w1 w2 w3 w4 w5=>kR hs hf h' W' x' w1 w2 w3 w4 ((WT.keepN k3).trans w5)
     obtain ⟨d,hd1,hd2⟩:=sl3.some_of (fun e=>by have:=congrArg List.length e; rw [List.length_map,hSl,List.length_nil] at this; omega)
     rw [hd2] at hp
     obtain rfl:=Option.some.inj hp
     exact sep3.lt hd1
  ·have hz:t.length=0:=by omega
   obtain ⟨kS,kF,kR⟩:=hK m e pn rfl he rfl hc (.inl hz) (by rw [if_pos hz]; exact eo.ok)
   rw [if_pos hz] at kS kF kR
   refine PtrOk_mk ⟨W.so,x.cell1,PtrOk_mk ⟨bnd i h8,_,cSi,bndm,PtrOk_of hpa ⟨e.1,cam,wcopy_ok eo.rd eo.n (by omega) fun c h1 row1 hcs k1=>⟨⟨some (ad c),e.2.length,e.2.length⟩,rfl,Cond_dec (fun hno=>absurd hno (by omega)) fun _=>?_⟩⟩⟩⟩
   have x1:=x.keepN k1
   have hs1:∀ p,(some (ad c):Option Addr)=some p→h.size ≤ p.block:=fun p hp=>by obtain rfl:=Option.some.inj hp; exact hcs
   exact wtail x1 hi hj he (s:=⟨some (ad c),e.2.length,e.2.length⟩) (row_reads row1) rfl eo.ok (fun p hp=>⟨by obtain rfl:=Option.some.inj hp; exact row_lt row1,nfoot (hs1 p hp)⟩) few (fun hs h' W' x' w1 w2 w3 w4 w5=>kS hs h' W' x' w1 w2 w3 w4 (wt (s:=⟨some (ad c),e.2.length,e.2.length⟩) k1 hs1 w5)) (fun hs hf=>kF hs hf h1 k1) fun hs hf h' W' x' w1 w2 w3 w4 w5=>kR hs hf h' W' x' w1 w2 w3 w4 ((WT.keepN k1).trans w5)
 by_cases hneg:p < 0
 ·refine Cond_t (decide_eq_true hneg) (main true (decide_eq_true (.inl hneg)).symm)
 ·refine Cond_f (decide_eq_false hneg) (main _ ?_)
  by_cases hb:p > 4096
  ·rw [decide_eq_true hb,decide_eq_true (.inr hb)]
  ·rw [decide_eq_false hb,decide_eq_false (by omega)]
end
end Go.Ev
