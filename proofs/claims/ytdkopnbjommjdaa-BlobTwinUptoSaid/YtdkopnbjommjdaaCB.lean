/- The blob package over the plain data, the statements' helpers, the argument's datum. No condition but that it is one. -/
import Derived.Test.YtdkopnbjommjdaaPB
import Derived.Test.YtdkopnbjommjdaaGO
import Derived.Test.YtdkopnbjommjdaaGY
import Derived.Test.YtdkopnbjommjdaaGL
import Derived.Test.YtdkopnbjommjdaaGZ
import Derived.ProofKit
import Derived.SizedLaws
import Derived.LaidMore
import Derived.OpenShut
set_option linter.all false
set_option maxRecDepth 1000000
namespace Go.Ev
open Go.Proofs
/-- Where a heap lies. -/
structure HQ where
  hb : Nat
  role : Nat → Role
  G : Geo
  sp : List AObj
structure HSt (h : Hp) (q : HQ) (s : RS) : Prop where
  rp : HRep h q.hb q.role (s.words q.sp) q.G
  v : s.Inv
def Ex (h : Hp) (q : HQ) (h' : Hp) (q' : HQ) : Prop := q'.hb = q.hb ∧ ExtO h q.role h' q'.role
/-- A call on a heap: its outcome and the change. -/
def Does (h : Hp) (q : HQ) (s' : RS) (r : Value) (R : Value → Hp → Prop) : Prop := ∀ h' q', HSt h' q' s' → Ex h q h' q' → R r h'
section
variable {h h' h2 : Hp} {q q' q2 : HQ} {s s' : RS} {nd : List NodeD} {b t : List Nat} {id : Nat} {R : Value → Hp → Prop}
theorem Ex.refl (h : Hp) (q : HQ) : Ex h q h q := ⟨rfl, ExtO.refl _ _⟩
theorem Ex.trans (a : Ex h q h' q') (b : Ex h' q' h2 q2) : Ex h q h2 q2 := ⟨b.1.trans a.1, a.2.trans b.2⟩
theorem Ex.of_kept (k : Kept N h h') (fr : ∀ b, h.size ≤ b → q.role b = .out) : Ex h q h' q := ⟨rfl, k.1, fun b hb ho => ⟨ho, k.2 b hb id⟩⟩
theorem Ex.kept (e : Ex h q h' q') : Kept (fun b => q.role b ≠ .out) h h' := ⟨e.2.1, fun b hb hn => (e.2.2 b hb (Classical.byContradiction hn)).2⟩
theorem HSt.keepN (x : HSt h q s) (k : Kept N h h') : HSt h' q s := ⟨x.rp.keep k fun _ e => e.elim, x.v⟩
theorem HSt.fr (x : HSt h q s) {b : Nat} (hb : h.size ≤ b) : q.role b = .out := x.rp.fresh b hb
theorem Ex.out (e : Ex h q h' q') {b : Nat} (hb : b < h.size) (ho : q.role b = .out) : q'.role b = .out := (e.2.2 b hb ho).1
/-! ### The heap's own calls -/
theorem c_set (x : HSt h q s) {r : Nat} (hr : r < 18446744073709551616) {i : Int} {w : Nat} (hw : w < 18446744073709551616) (hR : Does h q (s.setF r i w).1 (.int .i64 (s.setF r i w).2) R) :
    CallTo Try.prog 35 #[.pointer (some (ad q.hb)), uv r, .int .i64 i, uv w] h R :=
  hset_ok x.v x.rp hr hw fun h' role' G' rp' ex => hR h' ⟨q.hb, role', G', q.sp⟩ ⟨rp', x.v.set _ _ hw⟩ ⟨rfl, ex⟩
theorem c_setbytes (x : HSt h q s) {r : Nat} (hr : r < 18446744073709551616) {f : Int} (hf0 : -9223372036854775808 ≤ f) (hf1 : f < 9223372036854775808) {a : Sl} {cs : List Nat} (hs : ReadsO h a.a (cs.map bv)) (hsn : a.n = cs.length) (hcs : Bytes8 cs)
    (hsb : ∀ p, a.a = some p → cs ≠ [] → q.role p.block = .out) (hn : (cs.length : Int) < 9223372036854775808) (hR : Does h q (s.setBytesF r f cs).1 (.int .i64 (s.setBytesF r f cs).2) R) :
    CallTo Try.prog 36 #[.pointer (some (ad q.hb)), uv r, .int .i64 f, .slice a.a a.n a.c] h R :=
  hsetbytes_ok x.v x.rp hr hf0 hf1 hs hsn hcs hsb hn fun h' role' G' rp' ex => hR h' ⟨q.hb, role', G', q.sp⟩ ⟨rp', x.v.setBytes _ _ hcs⟩ ⟨rfl, ex⟩
theorem c_alloc (x : HSt h q s) {k r w : Int} (hR : Does h q (s.alloc k r w).1 (.tuple #[uv (s.alloc k r w).2.1, .int .i64 (s.alloc k r w).2.2]) R) :
    CallTo Try.prog 27 #[.pointer (some (ad q.hb)), .int .i64 k, .int .i64 r, .int .i64 w] h R :=
  halloc_ok x.v x.rp fun h' role' G' sp' rp' ex => hR h' ⟨q.hb, role', G', sp'⟩ ⟨rp', x.v.alloc _ _ _⟩ ⟨rfl, ex⟩
theorem c_root (x : HSt h q s) (hl : s.roots.length < 100000000) {r : Nat} (hr : r < 18446744073709551616) (hR : Does h q (s.rootF r).1 (.tuple #[.int .i64 ((s.rootF r).2.1 : Nat), .int .i64 (s.rootF r).2.2]) R) :
    CallTo Try.prog 17 #[.pointer (some (ad q.hb)), uv r] h R :=
  hroot_ok x.v x.rp hl hr fun h' role' G' rp' ex => hR h' ⟨q.hb, role', G', q.sp⟩ ⟨rp', x.v.root hl⟩ ⟨rfl, ex⟩
theorem c_drop (x : HSt h q s) {n : Int} (hR : Does h q (s.dropF n).1 (.int .i64 (s.dropF n).2) R) : CallTo Try.prog 38 #[.pointer (some (ad q.hb)), .int .i64 n] h R :=
  hdrop_ok x.v x.rp fun h' role' G' rp' ex => hR h' ⟨q.hb, role', G', q.sp⟩ ⟨rp', x.v.drop _⟩ ⟨rfl, ex⟩
theorem c_put (x : HSt h q s) {n : Int} {r : Nat} (hr : r < 18446744073709551616) (hR : Does h q (s.putF n r).1 (.int .i64 (s.putF n r).2) R) : CallTo Try.prog 60 #[.pointer (some (ad q.hb)), .int .i64 n, uv r] h R :=
  hput_ok x.v x.rp hr fun h' role' G' rp' ex => hR h' ⟨q.hb, role', G', q.sp⟩ ⟨rp', x.v.put _ _⟩ ⟨rfl, ex⟩
theorem c_collect (x : HSt h q s) (hR : Does h q s.collect (.tuple #[]) R) : CallTo Try.prog 28 #[.pointer (some (ad q.hb))] h R :=
  hcollect_ok x.v x.rp fun h' role' G' sp' rp' ex => hR h' ⟨q.hb, role', G', sp'⟩ ⟨rp', x.v.collect⟩ ⟨rfl, ex⟩
theorem c_resize (x : HSt h q s) {n : Int} (hR : Does h q (s.resize n).1 (.int .i64 (s.resize n).2) R) : CallTo Try.prog 47 #[.pointer (some (ad q.hb)), .int .i64 n] h R :=
  hresize_ok x.v x.rp fun h' role' G' sp' rp' ex => hR h' ⟨q.hb, role', G', sp'⟩ ⟨rp', x.v.resize n⟩ ⟨rfl, ex⟩
theorem c_at (x : HSt h q s) {n : Int} (hR : R (.tuple #[uv (s.atF n).1, .int .i64 (s.atF n).2]) h) : CallTo Try.prog 30 #[.pointer (some (ad q.hb)), .int .i64 n] h R := hat_ok x.v x.rp hR
/-! ### Small ones -/
theorem words_ok {n : Nat} (hn : n < 100000000) (hR : R (.int .i64 (wordsN n : Nat)) h) : CallTo Try.prog 34 #[.int .i64 (n : Nat)] h R := by
  refine f34F_ok ?_
  unfold f34F
  refine Cond_dec (fun hlt => ?_) fun hge => ⟨by omega, ?_⟩
  · have : wordsN n = 0 := by unfold wordsN; omega
    rw [this] at hR
    exact hR
  · have e : IntKind.wrap .i64 (IntKind.wrap .i64 (Int.tdiv (IntKind.wrap .i64 ((n : Int) - 1)) 8) + 1) = ((wordsN n : Nat) : Int) := by
      rw [wrap_i64' (x := (n : Int) - 1) (by omega) (by omega), Int.tdiv_eq_ediv_of_nonneg (by omega), wrap_i64' (x := ((n : Int) - 1) / 8) (by omega) (by omega), wrap_i64' (by omega) (by omega)]
      unfold wordsN
      omega
    rw [e]
    exact hR
theorem words2_ok {n : Nat} (hn : n < 100000000) (hR : R (.int .i64 (wordsN n : Nat)) h) : CallTo Try.prog 50 #[.int .i64 (n : Nat)] h R := by
  refine f50F_ok ?_
  unfold f50F
  refine Cond_dec (fun hlt => ?_) fun hge => ⟨by omega, by omega, ?_⟩
  · have : wordsN n = 0 := by unfold wordsN; omega
    rw [this] at hR
    exact hR
  · rw [Int.tmod_eq_emod_of_nonneg (by omega), Int.tdiv_eq_ediv_of_nonneg (by omega)]
    refine Cond_dec (fun hm => ?_) fun hm => ?_
    · have e : IntKind.wrap .i64 (IntKind.wrap .i64 ((n : Int) / 8) + 1) = ((wordsN n : Nat) : Int) := by
        rw [wrap_i64' (x := (n : Int) / 8) (by omega) (by omega), wrap_i64' (by omega) (by omega)]; unfold wordsN; omega
      rw [e]; exact hR
    · have e : IntKind.wrap .i64 ((n : Int) / 8) = ((wordsN n : Nat) : Int) := by
        rw [wrap_i64' (by omega) (by omega)]; unfold wordsN; omega
      rw [e]; exact hR
/-- Bytes to be laid: where they lie, none of the heap's own memory. -/
structure Src (h : Hp) (q : HQ) (a : Sl) (b : List Nat) : Prop where
  rd : ReadsO h a.a (b.map bv)
  n : a.n = b.length
  b8 : Bytes8 b
  out : ∀ p, a.a = some p → b ≠ [] → q.role p.block = .out ∧ p.block < h.size
theorem Src.ex {a : Sl} (e : Src h q a b) (x : Ex h q h' q') : Src h' q' a b :=
  ⟨reads_kept2 x.kept e.rd fun p hp hn => (have hn' : b ≠ [] := fun z => hn (by rw [z]; rfl); ⟨(e.out p hp hn').2, fun hx => hx (e.out p hp hn').1⟩), e.n, e.b8, fun p hp hn => ⟨x.out (e.out p hp hn).2 (e.out p hp hn).1, Nat.lt_of_lt_of_le (e.out p hp hn).2 x.2.1⟩⟩
theorem alloc_lt (s : RS) (v : s.Inv) (sh : s.Shd nd) (k r w : Int) : (s.alloc k r w).2.1 < 18446744073709551616 := by
  rcases RS.alloc_cases v k r w with ⟨_, e⟩ | ⟨_, t, st, vt, e | ⟨t', ref, e, n⟩⟩
  · rw [e]; show (0 : Nat) < _; omega
  · rw [e]; show (0 : Nat) < _; omega
  · have v' : t'.Inv := by have := v.alloc k r w; rw [e] at this; exact this
    rw [e]
    show ref < _
    rw [← n.ref]
    exact RS.ref_lt v' (.inr ((n.here _).2 (.inl rfl)))
theorem lay_ok (x : HSt h q s) (sh : s.Shd nd) (ok : Okb b) {a : Sl} (sr : Src h q a b) (hR : Does h q (s.layF b).1 (.tuple #[uv (s.layF b).2.1, .int .i64 (s.layF b).2.2]) R) :
    CallTo Try.prog 37 #[.pointer (some (ad q.hb)), .slice a.a a.n a.c] h R := by
  have hl := ok.len
  have hw : wordsN b.length ≤ 513 := by unfold wordsN; omega
  refine f37F_ok ?_
  unfold f37F
  rw [sr.n]
  refine words_ok (by omega) ⟨_, rfl, ?_⟩
  have e1 : IntKind.wrap .i64 ((1 : Int) + ((wordsN b.length : Nat) : Int)) = ((1 + wordsN b.length : Nat) : Int) := by rw [wrap_i64' (by omega) (by omega)]; omega
  rw [e1]
  have hrl := alloc_lt s x.v sh 1 0 ((1 + wordsN b.length : Nat) : Int)
  refine c_alloc x fun h1 q1 x1 ex1 => ⟨_, _, rfl, ?_⟩
  unfold RS.layF at hR
  by_cases h0 : (s.alloc 1 0 ((1 + wordsN b.length : Nat) : Int)).2.2 = 0
  · rw [if_pos h0] at hR
    refine Cond_f (by rw [h0]; rfl) ?_
    have ew : IntKind.wrap .u64 ((b.length : Nat) : Int) = ((b.length : Nat) : Int) := wrap_u64' (by omega) (by omega)
    rw [ew, ← ex1.1]
    refine c_set x1 hrl (by omega) fun h2 q2 x2 ex2 => ⟨_, rfl, ?_⟩
    have ex12 := ex1.trans ex2
    have sr2 : Src h2 q2 ⟨a.a, b.length, a.c⟩ b := by have := sr.ex ex12; exact ⟨this.rd, rfl, this.b8, this.out⟩
    rw [← ex2.1]
    exact c_setbytes (f := 8) (a := ⟨a.a, b.length, a.c⟩) x2 hrl (by omega) (by omega) sr2.rd sr2.n sr2.b8 (fun p hp hn => (sr2.out p hp hn).1) (by omega) fun h3 q3 x3 ex3 => ⟨_, rfl, hR h3 q3 x3 (ex12.trans ex3)⟩
  · rw [if_neg h0] at hR
    refine Cond_t (by simpa using h0) (hR h1 q1 x1 ex1)
/-! ### Len, Slice, Read -/
theorem IsB.obj (v : s.Inv) (x : s.IsB id b) (ok : Okb b) : s.objF (s.ref id) = ((1, 0, 1 + wordsN b.length), 0) := by
  unfold RS.objF
  rw [RS.ident_ref v (.inr x.here), if_neg x.nz, x.kind, x.refs, RS.raws_len x ok]
  rfl
theorem IsB.len (v : s.Inv) (x : s.IsB id b) (ok : Okb b) : s.getF (s.ref id) 0 = (b.length, 0) := by
  have h0 : (s.obj id).raws[0]? = some b.length := by
    have hl := RS.raws_len x ok
    have := ok.is.h0
    rw [← x.raws, List.getD_eq_getElem?_getD, List.getElem?_eq_getElem (by omega)] at this
    rw [List.getElem?_eq_getElem (by omega)]
    exact congrArg some this
  have := RS.getF_raw v (k := 0) x.here x.nz h0
  rw [x.refs] at this
  exact this
theorem len_ok (x : HSt h q s) (B : s.IsB id b) (ok : Okb b) (hR : R (.tuple #[.int .i64 (b.length : Nat), .int .i64 0]) h) : CallTo Try.prog 19 #[.pointer (some (ad q.hb)), uv (s.ref id)] h R := by
  have hl := ok.len
  have hrl := RS.ref_lt x.v (.inr B.here)
  refine f19F_ok ?_
  unfold f19F
  refine hobject_ok x.v x.rp hrl ⟨_, _, _, _, rfl, ?_⟩
  rw [IsB.obj x.v B ok]
  refine Cond_f rfl ?_
  show f19K1 (some (ad q.hb)) ((s.ref id : Nat) : Int) false h R
  unfold f19K1
  refine Cond_f rfl (hget_ok x.v x.rp hrl ⟨_, _, rfl, ?_⟩)
  rw [IsB.len x.v B ok]
  have e : IntKind.wrap .i64 ((b.length : Nat) : Int) = ((b.length : Nat) : Int) := wrap_i64' (by omega) (by omega)
  show R (.tuple #[.int .i64 (IntKind.wrap .i64 ((b.length : Nat) : Int)), .int .i64 0]) h
  rw [e]
  exact hR
theorem len_bad (x : HSt h q s) {r : Nat} (hr : r < 18446744073709551616) (hb : (s.objF r).2 ≠ 0 ∨ (s.objF r).1.1 ≠ 1) (hR : R (.tuple #[.int .i64 0, .int .i64 40]) h) : CallTo Try.prog 19 #[.pointer (some (ad q.hb)), uv r] h R := by
  refine f19F_ok ?_
  unfold f19F
  refine hobject_ok x.v x.rp hr ⟨_, _, _, _, rfl, ?_⟩
  have bad : f19K1 (some (ad q.hb)) ((r : Nat) : Int) true h R := by unfold f19K1; exact Cond_t rfl hR
  refine Cond_b (fun _ => bad) fun h0 => ?_
  have h0 : (s.objF r).2 = 0 := by simpa using h0
  have h1 := hb.resolve_left fun h => h h0
  have e : ((((s.objF r).1.1 : Nat) : Int) != (1 : Int)) = true := by
    rw [bne_iff_ne]; omega
  rw [e]
  exact bad
def InSp (b : List Nat) (f n : Int) : Prop := 0 ≤ f ∧ 0 ≤ n ∧ f ≤ (b.length : Int) ∧ n ≤ (b.length : Int) - f
theorem slice_ok (x : HSt h q s) (B : s.IsB id b) (ok : Okb b) {f n : Int} (hf : -9223372036854775808 ≤ f ∧ f < 9223372036854775808) (hn : -9223372036854775808 ≤ n ∧ n < 9223372036854775808)
    (hbad : ¬ InSp b f n → R (.tuple #[.slice none 0 0, .int .i64 42]) h)
    (hgood : ∀ c h', InSp b f n → Row h' c (((b.drop f.toNat).take n.toNat).map bv) → h.size ≤ c → Kept N h h' → R (.tuple #[.slice (some (ad c)) n.toNat n.toNat, .int .i64 0]) h') :
    CallTo Try.prog 15 #[.pointer (some (ad q.hb)), uv (s.ref id), .int .i64 f, .int .i64 n] h R := by
  have hl := ok.len
  have hrl := RS.ref_lt x.v (.inr B.here)
  refine f15F_ok ?_
  unfold f15F
  refine len_ok x B ok ⟨_, _, rfl, Cond_f rfl ?_⟩
  have bad : ¬ InSp b f n → f15K1 (some (ad q.hb)) ((s.ref id : Nat) : Int) f n true h R := fun hn => by unfold f15K1; exact Cond_t rfl (hbad hn)
  refine Cond_dec (fun hc => bad fun hi => by have := hi.1; omega) fun c1 => Cond_dec (fun hc => bad fun hi => by have := hi.2.1; omega) fun c2 => Cond_dec (fun hc => bad fun hi => by have := hi.2.2.1; omega) fun c3 => ?_
  rw [wrap_i64' (x := ((b.length : Nat) : Int) - f) (by omega) (by omega)]
  by_cases c4 : n > ((b.length : Nat) : Int) - f
  · rw [decide_eq_true c4]
    exact bad fun hi => by have := hi.2.2.2; omega
  · rw [decide_eq_false c4]
    have hin : InSp b f n := ⟨by omega, by omega, by omega, by omega⟩
    unfold f15K1
    have e8 : IntKind.wrap .i64 ((8 : Int) + f) = 8 + f := wrap_i64' (by omega) (by omega)
    rw [e8]
    refine Cond_f rfl (hbytes_ok x.v x.rp hrl hn.1 (by omega) hn.2 (by omega) (fun hno => absurd ?_ hno) fun c h' hs row hc k => ⟨⟨_, _, _⟩, _, rfl, ?_⟩)
    · unfold RS.spanOk
      rw [RS.ident_ref x.v (.inr B.here), RS.raws_len B ok]
      refine ⟨B.nz, by omega, by omega, ?_⟩
      unfold wordsN
      omega
    · refine hgood c h' hin ?_ hc k
      rw [RS.ident_ref x.v (.inr B.here), B.raws] at row
      have e : ((List.range n.toNat).map fun j => bv (byteAt (blobRaws b) ((8 + f).toNat + j))) = ((b.drop f.toNat).take n.toNat).map bv := by
        apply List.ext_getElem?
        intro j
        rw [List.getElem?_map, List.getElem?_map]
        by_cases hj : j < n.toNat
        · rw [List.getElem?_range hj, List.getElem?_take_of_lt hj, List.getElem?_drop, List.getElem?_eq_getElem (by omega)]
          show some (bv (byteAt (blobRaws b) ((8 + f).toNat + j))) = some (bv _)
          rw [show (8 + f).toNat + j = 8 + (f.toNat + j) by omega, ok.is.at_ _ (by unfold wordsN; omega), List.getD_eq_getElem?_getD, List.getElem?_eq_getElem (by omega)]
          rfl
        · rw [List.getElem?_eq_none (by simp; omega), List.getElem?_eq_none (by simp; omega)]; rfl
      rw [e] at row
      exact row
theorem read_ok (x : HSt h q s) (B : s.IsB id b) (ok : Okb b) (hR : ∀ c h', Row h' c (b.map bv) → h.size ≤ c → Kept N h h' → R (.tuple #[.slice (some (ad c)) b.length b.length, .int .i64 0]) h') :
    CallTo Try.prog 18 #[.pointer (some (ad q.hb)), uv (s.ref id)] h R := by
  have hl := ok.len
  refine f18F_ok ?_
  unfold f18F
  refine len_ok x B ok ⟨_, _, rfl, Cond_f rfl ?_⟩
  refine slice_ok x B ok ⟨by omega, by omega⟩ ⟨by omega, by omega⟩ (fun hn => absurd ⟨by omega, by omega, by omega, by omega⟩ hn) fun c h' _ row hc k => ⟨⟨_, _, _⟩, _, rfl, ?_⟩
  rw [Int.toNat_natCast] at row
  have e : (b.drop (0 : Int).toNat).take b.length = b := by
    show (b.drop 0).take b.length = b
    rw [List.drop_zero, List.take_length]
  rw [e] at row
  exact hR c h' row hc k
end
end Go.Ev
set_option linter.all false
set_option maxRecDepth 1000000
namespace Go.Ev
open Go.Proofs
theorem ovw_get {cs l : List Value} {o : Nat} (h : o + l.length ≤ cs.length) (j : Nat) : (ovw cs o l)[j]? = if o ≤ j ∧ j < o + l.length then l[j - o]? else cs[j]? := by
  unfold ovw
  by_cases h1 : j < o
  · rw [if_neg (by omega), List.append_assoc, List.getElem?_append_left (by rw [List.length_take]; omega), List.getElem?_take_of_lt h1]
  · by_cases h2 : j < o + l.length
    · rw [if_pos ⟨by omega, h2⟩, List.getElem?_append_left (by rw [List.length_append, List.length_take]; omega), List.getElem?_append_right (by rw [List.length_take]; omega), List.length_take, Nat.min_eq_left (by omega)]
    · rw [if_neg (by omega), List.getElem?_append_right (by rw [List.length_append, List.length_take]; omega), List.length_append, List.length_take, Nat.min_eq_left (by omega), List.getElem?_drop]
      congr 1
      omega
/-- Bytes are copied into a block. -/
theorem cpy_row {h : Hp} {b : Nat} {cs : List Value} {o n m : Nat} {src base : Option Addr} {l : List Nat} {K : Int → Hp → Prop} (row : Row h b cs) (rd : ReadsO h src (l.map bv)) (hm : m = l.length) (hn : m ≤ n) (ho : o + l.length ≤ cs.length)
    (hb : l ≠ [] → base = some ⟨b, o, none⟩) (hK : ∀ h', Row h' b (ovw cs o (l.map bv)) → Kept (fun i => i = b) h h' → K (m : Nat) h') : cpySl 1 base n src m h K := by
  have hmin : min m n = m := Nat.min_eq_left hn
  refine ⟨l.map bv, rd, by rw [List.length_map, hmin]; omega, ?_⟩
  rw [hmin]
  by_cases hl : l = []
  · subst hl
    have e : ovw cs o (([] : List Nat).map bv) = cs := by unfold ovw; simp
    rw [e] at hK
    have := hK h row (Kept.refl _ _)
    cases base with
    | none => exact this
    | some a => exact ⟨trivial, this⟩
  · rw [hb hl]
    show stsOk h ((⟨b, o, none⟩ : Addr).add 0) _ 0 ∧ K _ (setcs h ((⟨b, o, none⟩ : Addr).add 0) _ 0)
    have ea : (⟨b, o, none⟩ : Addr).add 0 = ⟨b, o, none⟩ := rfl
    rw [ea]
    refine ⟨stsOk_row _ _ _ o 0 row (by rw [List.length_map]; omega) (fun v hv => by obtain ⟨x, _, rfl⟩ := List.mem_map.1 hv; rfl), hK _ ?_ (kept_setcs _ _ _ _ rfl)⟩
    have := row_setcs (l.map bv) h _ o 0 row (by rw [List.length_map]; omega)
    rwa [Nat.add_zero] at this
theorem splice_cells {b t : List Nat} {p : Nat} : ovw (ovw (List.replicate (max b.length (p + t.length)) (bv 0)) 0 (b.map bv)) p (t.map bv) = (splice b p t).map bv := by
  have h1 : (ovw (List.replicate (max b.length (p + t.length)) (bv 0)) 0 (b.map bv)).length = max b.length (p + t.length) := by
    rw [ovw_len (by rw [List.length_map, List.length_replicate]; omega), List.length_replicate]
  apply List.ext_getElem?
  intro j
  rw [ovw_get (by rw [h1, List.length_map]; omega), ovw_get (by rw [List.length_map, List.length_replicate]; omega), List.length_map, List.length_map]
  unfold splice
  rw [List.map_map, List.getElem?_map, List.getElem?_map (f := bv ∘ _)]
  by_cases hj : j < max b.length (p + t.length)
  · rw [List.getElem?_range hj]
    show _ = some (bv (if p ≤ j ∧ j < p + t.length then t.getD (j - p) 0 else b.getD j 0))
    by_cases hc : p ≤ j ∧ j < p + t.length
    · rw [if_pos hc, if_pos hc, List.getD_eq_getElem?_getD, List.getElem?_eq_getElem (by omega)]
      rfl
    · rw [if_neg hc, if_neg hc]
      by_cases h2 : j < b.length
      · rw [if_pos ⟨by omega, by omega⟩, List.getD_eq_getElem?_getD, Nat.sub_zero, List.getElem?_map, List.getElem?_eq_getElem h2]
        rfl
      · rw [if_neg (by omega), List.getElem?_replicate, if_pos hj, List.getD_eq_getElem?_getD, List.getElem?_eq_none (by omega)]
        rfl
  · rw [if_neg (by omega), if_neg (by omega), List.getElem?_replicate, if_neg hj, List.getElem?_eq_none (by simp; omega)]; rfl
namespace RS
def newF (s : RS) (parts : List (List Nat)) : RS × Nat × Int := if parts.flatten.length > 4096 then (s, 0, 41) else s.layF parts.flatten
def writeF (s : RS) (id : Nat) (b : List Nat) (p : Int) (t : List Nat) : RS × Nat × Int :=
  if p < 0 ∨ p > 4096 then (s, 0, 42)
  else if t.length = 0 then (s, s.ref id, 0)
  else if (t.length : Int) > 4096 - p then (s, 0, 41)
  else if wordsN (max b.length (p.toNat + t.length)) = wordsN b.length then (s.inPl id (blobRaws (splice b p.toNat t)), s.ref id, 0)
  else ((((s.rootF (s.ref id)).1.layF (splice b p.toNat t)).1.dropF ((s.rootF (s.ref id)).2.1 : Nat)).1, ((s.rootF (s.ref id)).1.layF (splice b p.toNat t)).2.1, ((s.rootF (s.ref id)).1.layF (splice b p.toNat t)).2.2)
end RS
/-- Lists of bytes handed over. -/
structure Srcs (h : Hp) (q : HQ) (a : Sl) (sls : List Sl) (parts : List (List Nat)) : Prop where
  rd : ReadsO h a.a (sls.map slV)
  n : a.n = sls.length
  len : sls.length = parts.length
  each : ∀ (i : Nat) (c : Sl) (p : List Nat), sls[i]? = some c → parts[i]? = some p → ReadsO h c.a (p.map bv) ∧ c.n = p.length ∧ Bytes8 p ∧ p.length < 140737488355328 ∧ ∀ a : Addr, c.a = some a → p ≠ [] → a.block < h.size
section
variable {h h' h2 : Hp} {q q' q2 : HQ} {s s' : RS} {nd : List NodeD} {b t : List Nat} {id : Nat} {R : Value → Hp → Prop}
theorem flat_take {parts : List (List Nat)} {i : Nat} {p : List Nat} (h : parts[i]? = some p) : (parts.take (i + 1)).flatten = (parts.take i).flatten ++ p := by rw [RS.take_snoc h]; simp
theorem flat_le (parts : List (List Nat)) (i : Nat) : (parts.take i).flatten.length ≤ parts.flatten.length := by
  conv => rhs; rw [← List.take_append_drop i parts, List.flatten_append, List.length_append]
  omega
theorem new_ok (x : HSt h q s) (sh : s.Shd nd) {a : Sl} {sls : List Sl} {parts : List (List Nat)} (sr : Srcs h q a sls parts) (hlong : sls.length < 100000000000000) (hR : Does h q (s.newF parts).1 (.tuple #[uv (s.newF parts).2.1, .int .i64 (s.newF parts).2.2]) R) :
    CallTo Try.prog 23 #[.pointer (some (ad q.hb)), .slice a.a a.n a.c] h R := by
  have part : ∀ i, i < sls.length → ∃ c p, sls[i]? = some c ∧ parts[i]? = some p := fun i hi => ⟨_, _, List.getElem?_eq_getElem hi, List.getElem?_eq_getElem (by have := sr.len; omega)⟩
  have han := sr.n
  have hsl := sr.len
  refine f23F_ok ?_
  unfold f23F
  refine f23L1_rule (fun m s0 s1 s6 s13 s14 s15 h' => ∃ i : Nat, i ≤ sls.length ∧ m = sls.length - i ∧ s0 = some (ad q.hb) ∧ a = s1 ∧ s6 = (((parts.take i).flatten.length : Nat) : Int) ∧ (parts.take i).flatten.length ≤ 4096 ∧ a = s13 ∧ s14 = ((sls.length : Nat) : Int) ∧ s15 = (i : Int) ∧ h = h') sls.length
    ⟨0, Nat.zero_le _, rfl, rfl, rfl, rfl, by simp, rfl, by rw [han], rfl, rfl⟩ ?_
  rintro m s0 s1 s6 s13 s14 s15 g h1 ⟨i, hi, rfl, rfl, rfl, rfl, hle, rfl, rfl, rfl, rfl⟩
  unfold f23L1
  refine Cond_dec (fun hlt => ?_) fun hge => ?_
  · have hil : i < sls.length := by omega
    obtain ⟨c, p, hc, hp⟩ := part i hil
    obtain ⟨rdc, nc, b8, lc, oc⟩ := sr.each i c p hc hp
    obtain ⟨pa, hpa, hcell⟩ := readsO_get sr.rd (i := i) (v := slV c) (by rw [List.getElem?_map, hc]; rfl)
    refine ⟨⟨by omega, by omega⟩, PtrOk_of hpa ⟨c, by rw [Int.toNat_natCast, Nat.mul_one]; exact hcell, ?_⟩⟩
    have ef : (((parts.take i).flatten.length : Nat) : Int) + ((c.n : Nat) : Int) = (((parts.take (i + 1)).flatten.length : Nat) : Int) := by
      rw [flat_take hp, List.length_append, nc]; omega
    have hfl := flat_le parts (i + 1)
    have e1 : (parts.take (i + 1)).flatten.length = (parts.take i).flatten.length + p.length := by rw [flat_take hp, List.length_append]
    rw [wrap_i64' (x := (((parts.take i).flatten.length : Nat) : Int) + _) (by omega) (by omega), ef]
    refine Cond_dec (fun hbig => ?_) fun hok => ⟨sls.length - (i + 1), by omega, i + 1, hil, rfl, rfl, rfl, rfl, by omega, rfl, rfl, by rw [wrap_i64' (by omega) (by omega)]; rfl, rfl⟩
    have : s.newF parts = (s, 0, 41) := by unfold RS.newF; rw [if_pos (by omega)]
    rw [this] at hR
    exact hR _ q x (Ex.refl _ _)
  · have hie : i = parts.length := by omega
    subst hie
    rw [List.take_length] at hle ⊢
    have hF := hle
    generalize hn : parts.flatten.length = n at hle ⊢
    refine ⟨⟨by omega, by omega⟩, by omega, by omega, Let_mk fun h2 e2 => ?_⟩
    rw [Int.toNat_natCast] at e2 ⊢
    have k2 : Kept N h h2 := e2 ▸ kept_push _ _ _
    have row2 : Row h2 h.size (List.replicate n (bv 0)) := by
      have e3 := e2
      rw [zrow_one] at e3
      exact e3 ▸ row_new h (List.replicate n (bv 0)).toArray 5
    have enb : nb h = ad h.size := rfl
    rw [enb]
    refine f23L2_rule (fun m s0 s9 s10 s28 s29 s30 h' => ∃ i : Nat, i ≤ sls.length ∧ m = sls.length - i ∧ s0 = some (ad q.hb) ∧ s9 = ⟨some (ad h.size), n, n⟩ ∧ s10 = (((parts.take i).flatten.length : Nat) : Int) ∧ a = s28 ∧ s29 = ((sls.length : Nat) : Int) ∧ s30 = (i : Int) ∧
        Kept N h h' ∧ Row h' h.size ((parts.take i).flatten.map bv ++ List.replicate (n - (parts.take i).flatten.length) (bv 0))) sls.length
      ⟨0, Nat.zero_le _, rfl, rfl, rfl, rfl, rfl, by rw [han], rfl, k2, by simpa using row2⟩ ?_
    rintro m s0 s9 s10 s28 s29 s30 g2 h3 ⟨i, hi, rfl, rfl, rfl, rfl, rfl, rfl, rfl, k3, row3⟩
    unfold f23L2
    have hfi := flat_le parts i
    refine Cond_dec (fun hlt => ?_) fun hge => ?_
    · have hil : i < sls.length := by omega
      obtain ⟨c, p, hc, hp⟩ := part i hil
      obtain ⟨rdc, nc, b8, lc, oc⟩ := sr.each i c p hc hp
      obtain ⟨pa, hpa, hcell⟩ := readsO_get (reads_keptN k3 sr.rd) (i := i) (v := slV c) (by rw [List.getElem?_map, hc]; rfl)
      have hfl := flat_le parts (i + 1)
      have e1 : (parts.take (i + 1)).flatten.length = (parts.take i).flatten.length + p.length := by rw [flat_take hp, List.length_append]
      refine ⟨⟨by omega, by omega⟩, PtrOk_of hpa ⟨c, by rw [Int.toNat_natCast, Nat.mul_one]; exact hcell, ⟨by omega, by show (((parts.take i).flatten.length : Nat) : Int) ≤ ((n : Nat) : Int); omega⟩, ?_⟩⟩
      rw [Int.toNat_natCast]
      refine cpy_row (o := (parts.take i).flatten.length) (l := p) row3 (reads_keptN k3 rdc) nc (by show c.n ≤ n - _; omega) ?_ (fun hne => ?_) fun h4 row4 k4 => ?_
      · rw [List.length_append, List.length_map, List.length_replicate]; omega
      · have hpos : 0 < p.length := List.length_pos_iff.2 hne
        show (if n = (parts.take i).flatten.length then _ else _) = _
        rw [if_neg (by omega)]
        show some ((ad h.size).add _) = _
        rw [add_ad, Nat.mul_one]
      · refine ⟨sls.length - (i + 1), by omega, i + 1, hil, rfl, rfl, rfl, ?_, rfl, rfl, by rw [wrap_i64' (by omega) (by omega)]; rfl, ?_, ?_⟩
        · rw [wrap_i64' (by omega) (by omega)]; omega
        · exact ⟨Nat.le_trans k3.1 k4.1, fun j hj _ => (k4.2 j (Nat.lt_of_lt_of_le hj k3.1) (by omega)).trans (k3.2 j hj id)⟩
        · have e5 : ovw ((parts.take i).flatten.map bv ++ List.replicate (n - (parts.take i).flatten.length) (bv 0)) (parts.take i).flatten.length (p.map bv) = (parts.take (i + 1)).flatten.map bv ++ List.replicate (n - (parts.take (i + 1)).flatten.length) (bv 0) := by
            unfold ovw
            have q1 : ((parts.take i).flatten.map bv ++ List.replicate (n - (parts.take i).flatten.length) (bv 0)).take (parts.take i).flatten.length = (parts.take i).flatten.map bv := by
              rw [List.take_append_of_le_length (by rw [List.length_map]; exact Nat.le_refl _), List.take_of_length_le (by rw [List.length_map]; exact Nat.le_refl _)]
            have q2 : ((parts.take i).flatten.map bv ++ List.replicate (n - (parts.take i).flatten.length) (bv 0)).drop ((parts.take i).flatten.length + (p.map bv).length) = List.replicate (n - (parts.take (i + 1)).flatten.length) (bv 0) := by
              rw [List.length_map, List.drop_append, List.drop_eq_nil_of_le (by rw [List.length_map]; omega), List.nil_append, List.length_map, List.drop_replicate]
              congr 1
              omega
            rw [q1, q2, flat_take hp, List.map_append]
          rw [e5] at row4
          exact row4
    · have hie : i = parts.length := by omega
      subst hie
      rw [List.take_length, hn, Nat.sub_self, List.replicate_zero, List.append_nil] at row3
      have x3 := x.keepN k3
      have b8 : Bytes8 parts.flatten := fun c hc => by
        obtain ⟨p, hp, hcp⟩ := List.mem_flatten.1 hc
        obtain ⟨i, hi⟩ := List.mem_iff_getElem?.1 hp
        have hil := (List.getElem?_eq_some_iff.1 hi).1
        obtain ⟨c', p', hc', hp'⟩ := part i (by omega)
        rw [hi] at hp'
        obtain rfl := Option.some.inj hp'
        exact (sr.each i c' p hc' hi).2.2.1 c hcp
      have sr3 : Src h3 q ⟨some (ad h.size), n, n⟩ parts.flatten := ⟨row_reads row3, hn.symm, b8, fun p hp _ => by obtain rfl := Option.some.inj hp; exact ⟨x.fr (Nat.le_refl _), row_lt row3⟩⟩
      have e6 : s.newF parts = s.layF parts.flatten := by unfold RS.newF; rw [if_neg (by omega)]
      rw [e6] at hR
      exact lay_ok x3 sh ⟨b8, by omega⟩ sr3 fun h5 q5 x5 ex5 => ⟨_, _, rfl, hR h5 q5 x5 ((Ex.of_kept k3 fun b hb => x.fr hb).trans ex5)⟩
end
end Go.Ev
set_option linter.all false
set_option maxRecDepth 1000000
namespace Go.Ev
open Go.Proofs
section
variable {h h' h2 : Hp} {q q' q2 : HQ} {s s' : RS} {nd : List NodeD} {b t : List Nat} {id : Nat} {R : Value → Hp → Prop}
theorem okb_splice {p : Nat} (ok : Okb b) (ht : Bytes8 t) (hl : p + t.length ≤ 4096) : Okb (splice b p t) := ⟨splice_8 p ok.b8 ht, by rw [splice_len]; have := ok.len; omega⟩
theorem splice_raws {p : Nat} (ok : Okb b) (ht : Bytes8 t) (hl : p + t.length ≤ 4096) (hw : wordsN (max b.length (p + t.length)) = wordsN b.length) :
    putBytes ((blobRaws b).set 0 (max b.length (p + t.length))) (8 + p) t = blobRaws (splice b p t) :=
  (ok.is.write ht hw (by have := ok.len; omega)).uniq (okb_splice ok ht hl).is
theorem rootF_good (v : s.Inv) (hh : id = 0 ∨ s.here id) : s.rootF (s.ref id) = (s.withRoots (if RS.freeAt s.roots < s.roots.length then s.roots.set (RS.freeAt s.roots) (some id) else s.roots ++ [some id]), RS.freeAt s.roots + 1, 0) := by
  unfold RS.rootF
  rw [if_pos (RS.good_ref v hh), RS.ident_ref v hh]
theorem write_ok (x : HSt h q s) (sh : s.Shd nd) (B : s.IsB id b) (ok : Okb b) {p : Int} (hp : -9223372036854775808 ≤ p ∧ p < 9223372036854775808) {a : Sl} (sr : Src h q a t) (htl : t.length < 140737488355328) (rl : s.roots.length < 100000000)
    (hR : Does h q (s.writeF id b p t).1 (.tuple #[uv (s.writeF id b p t).2.1, .int .i64 (s.writeF id b p t).2.2]) R) :
    CallTo Try.prog 16 #[.pointer (some (ad q.hb)), uv (s.ref id), .int .i64 p, .slice a.a a.n a.c] h R := by
  have hl := ok.len
  have hrl := RS.ref_lt x.v (.inr B.here)
  have an := sr.n
  refine f16F_ok ?_
  unfold f16F
  refine len_ok x B ok ⟨_, _, rfl, Cond_f rfl ?_⟩
  unfold RS.writeF at hR
  have main : ∀ bb, bb = decide (p < 0 ∨ p > 4096) → f16K1 (some (ad q.hb)) ((s.ref id : Nat) : Int) p a ((b.length : Nat) : Int) bb h R := fun bb hbb => by
    unfold f16K1
    subst hbb
    refine Cond_dec (fun hc => ?_) fun hc => ?_
    · rw [if_pos hc] at hR
      exact hR h q x (Ex.refl _ _)
    rw [if_neg hc] at hR
    refine Cond_b (fun h0 => ?_) fun h0 => ?_
    · have h0 : t.length = 0 := by have := beq_iff_eq.1 h0; omega
      rw [if_pos h0] at hR
      exact hR h q x (Ex.refl _ _)
    have h0 : ¬ t.length = 0 := fun e => by rw [beq_eq_false_iff_ne] at h0; omega
    rw [if_neg h0] at hR
    rw [wrap_i64' (x := (4096 : Int) - p) (by omega) (by omega), an]
    refine Cond_dec (fun hb => ?_) fun hb => ?_
    · rw [if_pos (by omega)] at hR
      exact hR h q x (Ex.refl _ _)
    rw [if_neg (by omega)] at hR
    obtain ⟨pn, rfl⟩ : ∃ pn : Nat, p = (pn : Int) := ⟨p.toNat, by omega⟩
    rw [Int.toNat_natCast] at hR
    have hsum : pn + t.length ≤ 4096 := by omega
    have em : (if ((b.length : Nat) : Int) < IntKind.wrap .i64 (((pn : Nat) : Int) + ((t.length : Nat) : Int)) then IntKind.wrap .i64 (((pn : Nat) : Int) + ((t.length : Nat) : Int)) else ((b.length : Nat) : Int)) = ((max b.length (pn + t.length) : Nat) : Int) := by
      rw [wrap_i64' (by omega) (by omega)]
      split <;> omega
    rw [em]
    have sa : Src h q ⟨a.a, t.length, a.c⟩ t := ⟨sr.rd, rfl, sr.b8, sr.out⟩
    generalize hM : max b.length (pn + t.length) = M at hR ⊢
    refine words_ok (by omega) ⟨_, rfl, words_ok (by omega) ⟨_, rfl, Cond_b (fun hw => ?_) fun hw => ?_⟩⟩
    · have hw : wordsN M = wordsN b.length := by have := beq_iff_eq.1 hw; omega
      rw [if_pos hw] at hR
      have ew : IntKind.wrap .u64 ((M : Nat) : Int) = ((M : Nat) : Int) := wrap_u64' (by omega) (by omega)
      have e8 : IntKind.wrap .i64 ((8 : Int) + ((pn : Nat) : Int)) = ((8 + pn : Nat) : Int) := by rw [wrap_i64' (by omega) (by omega)]; omega
      rw [ew, e8]
      obtain ⟨q1, q2⟩ := RS.set_bytes x.v B ok (m := M) (p := pn) (t := t) (by omega) (by unfold wordsN at hw ⊢; omega) sr.b8
      refine c_set x hrl (by omega) fun h1 q1' x1 ex1 => ⟨_, rfl, ?_⟩
      rw [q1] at x1
      rw [← ex1.1]
      refine c_setbytes (a := ⟨a.a, t.length, a.c⟩) x1 hrl (by omega) (by omega) (sa.ex ex1).rd rfl sr.b8 (fun p hp hn => ((sa.ex ex1).out p hp hn).1) (by omega) fun h2 q2' x2 ex2 => ⟨_, rfl, hR h2 q2' ?_ (ex1.trans ex2)⟩
      rw [q2] at x2
      rw [← splice_raws ok sr.b8 hsum (by rw [hM]; exact hw), hM]
      exact x2
    · have hw : ¬ wordsN M = wordsN b.length := fun e => by rw [e, beq_self_eq_true] at hw; cases hw
      rw [if_neg hw] at hR
      refine ⟨⟨by omega, by omega⟩, by omega, by omega, Let_mk fun h1 e1 => ?_⟩
      rw [Int.toNat_natCast] at e1 ⊢
      have k1 : Kept N h h1 := e1 ▸ kept_push _ _ _
      have row1 : Row h1 h.size (List.replicate M (bv 0)) := by
        have e3 := e1
        rw [zrow_one] at e3
        exact e3 ▸ row_new h (List.replicate M (bv 0)).toArray 5
      have enb : nb h = ad h.size := rfl
      rw [enb]
      refine read_ok (x.keepN k1) B ok fun c h2 rowc hc k2 => ⟨⟨_, _, _⟩, _, rfl, ?_⟩
      have row2 := kept_row k2 row1 _root_.id
      refine cpy_row (o := 0) (l := b) row2 (row_reads rowc) rfl (by show b.length ≤ M; omega) (by rw [List.length_replicate]; omega) (fun _ => rfl) fun h3 row3 k3 => ⟨⟨by omega, by omega⟩, ?_⟩
      rw [Int.toNat_natCast]
      have kN3 : Kept N h h3 := ⟨Nat.le_trans (Nat.le_trans k1.1 k2.1) k3.1, fun j hj _ => (k3.2 j (Nat.lt_of_lt_of_le hj (Nat.le_trans k1.1 k2.1)) (by omega)).trans ((k1.trans k2).2 j hj _root_.id)⟩
      refine cpy_row (o := pn) (l := t) row3 (reads_keptN kN3 sr.rd) rfl (by omega) (by rw [ovw_len (by rw [List.length_map, List.length_replicate]; omega), List.length_replicate]; omega) (fun _ => ?_) fun h4 row4 k4 => ?_
      · rw [if_neg (by omega)]
        show some ((ad h.size).add _) = _
        rw [add_ad, Nat.mul_one]
      have kN4 : Kept N h h4 := ⟨Nat.le_trans kN3.1 k4.1, fun j hj _ => (k4.2 j (Nat.lt_of_lt_of_le hj kN3.1) (by omega)).trans (kN3.2 j hj _root_.id)⟩
      rw [← hM, splice_cells] at row4
      have x4 := x.keepN kN4
      have er := rootF_good x.v (id := id) (.inr B.here)
      refine c_root x4 rl hrl fun h5 q5 x5 ex5 => ⟨_, _, rfl, Cond_f (by rw [er]; rfl) ?_⟩
      have e04 := (Ex.of_kept kN4 fun b hb => x.fr hb).trans ex5
      have sh1 : (s.rootF (s.ref id)).1.Shd nd := by rw [er]; exact sh.roots _
      have out4 : q.role h.size = .out := x.fr (Nat.le_refl _)
      have src4 : Src h4 q ⟨some (ad h.size), M, M⟩ (splice b pn t) := ⟨row_reads row4, by rw [splice_len]; exact hM.symm, splice_8 pn ok.b8 sr.b8, fun p hp _ => by obtain rfl := Option.some.inj hp; exact ⟨out4, row_lt row4⟩⟩
      rw [← ex5.1]
      refine lay_ok x5 sh1 (okb_splice ok sr.b8 hsum) (src4.ex ex5) fun h6 q6 x6 ex6 => ⟨_, _, rfl, ?_⟩
      rw [← ex6.1]
      exact c_drop x6 fun h7 q7 x7 ex7 => ⟨_, rfl, hR h7 q7 x7 ((e04.trans ex6).trans ex7)⟩
  refine Cond_dec (fun hc => main _ (decide_eq_true (.inl hc)).symm) fun hc => main _ ?_
  by_cases hd : p > 4096
  · rw [decide_eq_true hd, decide_eq_true (.inr hd)]
  · rw [decide_eq_false hd, decide_eq_false (by omega)]
end
end Go.Ev
set_option linter.all false
set_option maxRecDepth 1000000
namespace Go.Ev
open Go.Proofs
def I64 (n : Int) : Prop := -9223372036854775808 ≤ n ∧ n < 9223372036854775808
section
variable {h h' h2 : Hp} {q q' q2 : HQ} {s s' : RS} {nd : List NodeD} {b t : List Nat} {id : Nat} {R : Value → Hp → Prop}
theorem num_ok {n : Int} (hR : R (.int .i64 n) h) : CallTo Try.prog 7 #[.int .i64 n] h R := by
  refine f7F_ok ?_
  unfold f7F
  exact hR
theorem into_ok {a : Int} {n : Nat} (hn : 0 < n) (hn2 : n < 100000000) (ha : I64 a) (hR : R (.int .i64 (a % (n : Int))) h) : CallTo Try.prog 10 #[.int .i64 a, .int .i64 (n : Int)] h R := by
  refine f10F_ok ?_
  unfold f10F
  have m1 := Int.emod_nonneg a (b := (n : Int)) (by omega)
  have m2 := Int.emod_lt_of_pos a (b := (n : Int)) (by omega)
  refine ⟨by omega, Cond_dec (fun hneg => ?_) fun hpos => ?_⟩
  · have e : Int.tmod a (n : Int) + (n : Int) = a % (n : Int) := by
      have h1 := Int.tmod_eq_emod (a := a) (b := (n : Int))
      split at h1
      · omega
      · omega
    rw [wrap_i64' (by omega) (by omega), e]
    exact hR
  · have e : Int.tmod a (n : Int) = a % (n : Int) := by
      have h1 := Int.tmod_eq_emod (a := a) (b := (n : Int))
      split at h1
      · omega
      · omega
    rw [e]
    exact hR
theorem at_ok (x : HSt h q s) {n : Int} (hR : R (uv (s.atF n).1) h) : CallTo Try.prog 12 #[.pointer (some (ad q.hb)), .int .i64 n] h R := by
  refine f12F_ok ?_
  unfold f12F
  exact c_at x ⟨_, _, rfl, hR⟩
theorem cmp_ok {a c : Sl} {l : List Nat} (ha : ReadsO h a.a (l.map bv)) (hb : ReadsO h c.a (l.map bv)) (na : a.n = l.length) (nb : c.n = l.length) (hn : l.length < 9223372036854775807) (hR : R (.int .i64 0) h) :
    CallTo Try.prog 32 #[.slice a.a a.n a.c, .slice c.a c.n c.c] h R := by
  refine f32F_ok ?_
  unfold f32F
  refine f32L1_rule (s0 := a) (s1 := c) (fun q s0 s1 s5 h' => ∃ i : Nat, i ≤ l.length ∧ q = l.length - i ∧ a = s0 ∧ c = s1 ∧ s5 = (i : Int) ∧ h = h') l.length ⟨0, Nat.zero_le _, rfl, rfl, rfl, rfl, rfl⟩ ?_
  rintro q s0 s1 s5 g0 h2 ⟨i, hi, rfl, rfl, rfl, rfl, rfl⟩
  have hend : ∀ J, ¬ i < l.length → f32K1 J (l.length - i) a c (i : Int) false h R := fun J _ => by
    unfold f32K1
    refine Cond_f rfl (Cond_f (by rw [na, nb]; simp) (Cond_f (by rw [na, nb]; simp) hR))
  unfold f32L1
  refine Cond_dec (fun hlt => ?_) (fun hlt => hend _ (by rw [na] at hlt; omega))
  have hil : i < l.length := by rw [na] at hlt; omega
  have e0 : (l.map bv)[i]? = some (bv l[i]) := by rw [List.getElem?_map, List.getElem?_eq_getElem hil]; rfl
  obtain ⟨p, hp, cp⟩ := readsO_get ha e0
  obtain ⟨p', hp', cp'⟩ := readsO_get hb e0
  unfold f32K1
  refine Cond_t (by rw [nb]; exact decide_eq_true (by omega)) ?_
  refine ⟨⟨by omega, hlt⟩, PtrOk_mk' hp ⟨_, by rw [Int.toNat_natCast, Nat.mul_one]; exact cp, ⟨by omega, by rw [nb]; omega⟩, PtrOk_mk' hp' ⟨_, by rw [Int.toNat_natCast, Nat.mul_one]; exact cp', Cond_f (by simp) ?_⟩⟩⟩
  refine ⟨⟨by omega, hlt⟩, PtrOk_mk' hp ⟨_, by rw [Int.toNat_natCast, Nat.mul_one]; exact cp, ⟨by omega, by rw [nb]; omega⟩, PtrOk_mk' hp' ⟨_, by rw [Int.toNat_natCast, Nat.mul_one]; exact cp', Cond_f (by simp) ?_⟩⟩⟩
  refine ⟨l.length - (i + 1), by omega, i + 1, hil, rfl, rfl, rfl, ?_, rfl⟩
  rw [wrap_i64' (by omega) (by omega)]; rfl
theorem eq_ok {a c : Sl} {l : List Nat} (ha : ReadsO h a.a (l.map bv)) (hb : ReadsO h c.a (l.map bv)) (na : a.n = l.length) (nb : c.n = l.length) (hn : l.length < 9223372036854775807) (hR : R (.bool true) h) :
    CallTo Try.prog 14 #[.slice a.a a.n a.c, .slice c.a c.n c.c] h R := by
  refine f14F_ok ?_
  unfold f14F
  exact cmp_ok ha hb na nb hn ⟨_, rfl, hR⟩
/-- The graph only grows. -/
def Gr (nd nd' : List NodeD) : Prop := ∀ (i : Nat) (n : NodeD), nd[i]? = some n → nd'[i]? = some n
theorem Gr.refl (nd : List NodeD) : Gr nd nd := fun _ _ h => h
theorem Gr.trans {a b c : List NodeD} (x : Gr a b) (y : Gr b c) : Gr a c := fun i n h => y i n (x i n h)
theorem Gr.app (nd l : List NodeD) : Gr nd (nd ++ l) := fun i n h => by rw [List.getElem?_append_left (List.getElem?_eq_some_iff.1 h).1]; exact h
/-- Something comes or goes that no handle holds. -/
structure Idle (s : RS) (nd : List NodeD) (s' : RS) (nd' : List NodeD) : Prop where
  sh : s'.Shd nd'
  gr : Gr nd nd'
  rt : s'.roots = s.roots
  lm : s'.limit = s.limit
theorem Idle.refl (sh : s.Shd nd) : Idle s nd s nd := ⟨sh, Gr.refl _, rfl, rfl⟩
theorem Idle.trans {s2 : RS} {nd' nd2 : List NodeD} (a : Idle s nd s' nd') (b : Idle s' nd' s2 nd2) : Idle s nd s2 nd2 := ⟨b.sh, a.gr.trans b.gr, b.rt.trans a.rt, b.lm.trans a.lm⟩
theorem Idle.collect (v : s.Inv) (sh : s.Shd nd) : Idle s nd s.collect nd := ⟨sh.sub (RS.Sub.collect v), Gr.refl _, (RS.Sub.collect v).roots, RS.collect_lim⟩
theorem Idle.alloc (v : s.Inv) (sh : s.Shd nd) (k r w : Int) : ∃ nd', Idle s nd (s.alloc k r w).1 nd' := by
  have lm := RS.alloc_lim (s := s) k r w
  rcases RS.alloc_cases v k r w with ⟨_, e⟩ | ⟨_, t, st, vt, e | ⟨t', ref, e, n⟩⟩
  · rw [e]; exact ⟨nd, Idle.refl sh⟩
  · rw [e] at lm ⊢; exact ⟨nd, sh.sub st, Gr.refl _, st.roots, lm⟩
  · rw [e] at lm ⊢; exact ⟨_, n.shd vt (sh.sub st), Gr.app _ _, n.roots.trans st.roots, lm⟩
theorem waste_ok (x : HSt h q s) (sh : s.Shd nd) {a : Sl} {l : List Int} (rd : ReadsO h a.a (l.map iv)) (na : a.n = l.length) (hl : l.length < 9223372036854775807) (hi : ∀ n ∈ l, I64 n) (old : ∀ p, a.a = some p → l ≠ [] → q.role p.block = .out ∧ p.block < h.size)
    (hR : ∀ h' q' s' nd', HSt h' q' s' → Ex h q h' q' → Idle s nd s' nd' → R (.tuple #[]) h') : CallTo Try.prog 9 #[.pointer (some (ad q.hb)), .slice a.a a.n a.c] h R := by
  refine f9F_ok ?_
  unfold f9F
  refine f9L1_rule (fun m s0 s1 s4 h' => ∃ (i : Nat) (q' : HQ) (s' : RS) (nd' : List NodeD), i ≤ l.length ∧ m = l.length - i ∧ s0 = some (ad q.hb) ∧ a = s1 ∧ s4 = (i : Int) ∧ HSt h' q' s' ∧ Ex h q h' q' ∧ Idle s nd s' nd') l.length
    ⟨0, q, s, nd, Nat.zero_le _, rfl, rfl, rfl, rfl, x, Ex.refl _ _, Idle.refl sh⟩ ?_
  rintro m s0 s1 s4 g h1 ⟨i, q1, s1', nd1, hle, rfl, rfl, rfl, rfl, x1, ex1, id1⟩
  unfold f9L1
  have fin : ∀ J, f9K1 J (l.length - i) (some (ad q.hb)) a (i : Int) false h1 R := fun J => by
    unfold f9K1
    exact Cond_f rfl (hR h1 q1 s1' nd1 x1 ex1 id1)
  refine Cond_dec (fun hlt => ?_) fun _ => fin _
  have hil : i < l.length := by omega
  by_cases h20 : (i : Int) < 20
  · rw [decide_eq_true h20]
    unfold f9K1
    have rdk : ∀ {h' q'}, Ex h q h' q' → ReadsO h' a.a (l.map iv) := fun {h' q'} e => reads_kept2 e.kept rd fun p hp hn => (have hn' : l ≠ [] := fun z => hn (by rw [z]; rfl); ⟨(old p hp hn').2, fun hx => hx (old p hp hn').1⟩)
    have e0 : (l.map iv)[i]? = some (iv l[i]) := by rw [List.getElem?_map, List.getElem?_eq_getElem hil]; rfl
    have hin := hi _ (List.getElem_mem hil)
    generalize l[i] = n at e0 hin
    obtain ⟨p, hp, cp⟩ := readsO_get (rdk ex1) e0
    refine Cond_t rfl ⟨⟨by omega, hlt⟩, PtrOk_of hp ⟨n, by rw [Int.toNat_natCast, Nat.mul_one]; exact cp, into_ok (n := 400) (by omega) (by omega) hin ⟨_, rfl, ?_⟩⟩⟩
    rw [← ex1.1]
    refine c_alloc x1 fun h2 q2 x2 ex2 => ⟨_, _, rfl, ⟨by omega, hlt⟩, ?_⟩
    obtain ⟨nd2, id2⟩ := Idle.alloc x1.v id1.sh 5 0 (n % ((400 : Nat) : Int))
    have ex12 := ex1.trans ex2
    have id12 := id1.trans id2
    obtain ⟨p2, hp2, cp2⟩ := readsO_get (rdk ex12) e0
    refine PtrOk_of hp2 ⟨n, by rw [Int.toNat_natCast, Nat.mul_one]; exact cp2, by omega, Cond_b (fun _ => ?_) fun _ => ?_⟩
    · rw [← ex2.1]
      refine c_collect x2 fun h3 q3 x3 ex3 => ⟨rfl, ?_⟩
      unfold f9K2
      refine ⟨l.length - (i + 1), by omega, i + 1, q3, _, nd2, hil, rfl, by rw [ex2.1, ex1.1], rfl, by rw [wrap_i64' (by omega) (by omega)]; rfl, x3, ex12.trans ex3, id12.trans (Idle.collect x2.v id2.sh)⟩
    · unfold f9K2
      exact ⟨l.length - (i + 1), by omega, i + 1, q2, _, nd2, hil, rfl, by rw [ex1.1], rfl, by rw [wrap_i64' (by omega) (by omega)]; rfl, x2, ex12, id12⟩
  · rw [decide_eq_false h20]
    exact fin _
/-- A blob is made and held. -/
theorem made_ok (x : HSt h q s) (sh : s.Shd nd) (ok : Okb b) {a : Sl} (rd : ReadsO h a.a (b.map bv)) (na : a.n = b.length) (old : ∀ p, a.a = some p → b ≠ [] → p.block < h.size) (rl : s.roots.length < 100000000)
    (hr : ∀ id, some id ∈ s.roots → (s.obj id).refs = []) (hS : s.sizes s.heldL ≤ 20000) (hL : s.limit = 262144)
    (hR : ∀ h' q' s', HSt h' q' s' → Ex h q h' q' → s'.Shd (nd ++ [blobN b]) → s'.roots = (if RS.freeAt s.roots < s.roots.length then s.roots.set (RS.freeAt s.roots) (some nd.length) else s.roots ++ [some nd.length]) → s'.limit = 262144 → R (.int .i64 ((RS.freeAt s.roots + 1 : Nat) : Int)) h') :
    CallTo Try.prog 8 #[.pointer (some (ad q.hb)), .slice a.a a.n a.c] h R := by
  refine f8F_ok ?_
  unfold f8F
  refine Let_mk fun h1 e1 => ?_
  have k1 : Kept N h h1 := e1 ▸ kept_push _ _ _
  have row1 : Row h1 h.size [slV a] := e1 ▸ row_new h _ 22
  have enb : nb h = ad h.size := rfl
  rw [enb]
  have hl := ok.len
  have srcs : Srcs h1 q ⟨some (ad h.size), 1, 1⟩ [a] [b] := ⟨row_reads row1, rfl, rfl, fun i c p hc hp => by
    cases i with
    | zero =>
      obtain rfl := Option.some.inj hc
      obtain rfl := Option.some.inj hp
      exact ⟨reads_keptN k1 rd, na, ok.b8, by omega, fun z hz hn => Nat.lt_of_lt_of_le (old z hz hn) k1.1⟩
    | succ i => cases hc⟩
  obtain ⟨s', el, v', sh', er, hh, lm⟩ := RS.lay_fits x.v sh ok hr hS hL
  have en : s.newF [b] = (s', s'.ref nd.length, 0) := by
    unfold RS.newF
    have e : ([b] : List (List Nat)).flatten = b := by simp
    rw [e, if_neg (by omega)]
    exact el
  refine new_ok (x.keepN k1) sh srcs (by simp) fun h2 q2 x2 ex2 => ⟨_, _, rfl, num_ok ⟨_, rfl, ?_⟩⟩
  rw [en] at x2 ⊢
  refine Cond_f rfl ?_
  have hrl := RS.ref_lt v' (.inr hh)
  have eg := rootF_good v' (.inr hh)
  rw [← ex2.1]
  refine c_root x2 (by rw [er]; exact rl) hrl fun h3 q3 x3 ex3 => ⟨_, _, rfl, num_ok ⟨_, rfl, ?_⟩⟩
  rw [eg] at x3 ⊢
  refine Cond_f rfl ?_
  have := hR h3 q3 _ x3 (((Ex.of_kept k1 fun b hb => x.fr hb).trans ex2).trans ex3) (sh'.roots _) (by rw [er]; rfl) (by show s'.limit = _; rw [lm, hL])
  rw [er]
  exact this
end
end Go.Ev
set_option linter.all false
set_option maxRecDepth 100000
namespace Go.Proofs.Ytdkopnbjommjdaa
open Go.ChangeShapes Go.WideShapes Go.ChangeAt Go.RowKit
open Go.Ev (Reads ReadsO uv bv iv slV I64 Sl)
theorem own : ownKnob Try.prog.godebug = none := by kernel_rfl
theorem c3 : Try.prog.cellsOf 3 = 1 := by kernel_rfl
theorem c5 : Try.prog.cellsOf 5 = 1 := by kernel_rfl
theorem c22 : Try.prog.cellsOf 22 = 1 := by kernel_rfl
theorem c23 : Try.prog.cellsOf 23 = 1 := by kernel_rfl
theorem c25 : Try.prog.cellsOf 25 = 5 := by kernel_rfl
theorem b3 : Try.prog.bytesOf 3 = 8 := by kernel_rfl
theorem b5 : Try.prog.bytesOf 5 = 1 := by kernel_rfl
theorem kids : Kids Try.prog (· < Try.prog.types.size) := kids_rows (by kernel_rfl) (by kernel_rfl)
theorem slices_some : ∀ t e, t < Try.prog.types.size → Try.prog.underlying t = some (.slice e) → 0 < Try.prog.cellsOf e := by
  have h : (List.range Try.prog.types.size).all (fun t => match Try.prog.underlying t with | some (.slice e) => decide (0 < Try.prog.cellsOf e) | _ => true) = true := by kernel_rfl
  intro t e ht hu
  have := List.all_eq_true.1 h t (List.mem_range.2 ht)
  rw [hu] at this
  exact of_decide_eq_true this
section
variable {H : Type} {enc : TypeId × Value → H} {W : World}
theorem weightsAll_mem {P : Program} {e : TypeId} : ∀ {ds : List (DataW H)} {d : DataW H}, d ∈ ds → ∀ n ∈ d.weights P e, n ∈ DataW.weightsAll P e ds
  | d0 :: ds, d, hd, n, hn => by
    rw [DataW.weightsAll, List.mem_append]
    rcases List.mem_cons.1 hd with rfl | hd
    · exact .inl hn
    · exact .inr (weightsAll_mem hd n hn)
theorem i64_of {n : Int} (h : (Lit.int .i64 n).wf = true) : I64 n := by
  have := bounds_i64 h
  exact ⟨this.1, by omega⟩
theorem bytes_of {n : Nat} {v : Value} {x : DataW H × List MemPlace} (h : DataW.trod enc Try.prog W 0 (fun _ => true) true n 22 [v] = some x) (hw : ∀ m ∈ x.1.weights Try.prog 22, m ≤ reachBytes) :
    ∃ (d : Sl) (l : List Nat), v = slV d ∧ ReadsO W.heap d.a (l.map bv) ∧ d.n = l.length ∧ (∀ c ∈ l, c < 256) ∧ l.length < 140737488355328 ∧ (∀ p, d.a = some p → l ≠ [] → p.block < W.heap.size) ∧ d.n ≤ d.c := by
  rcases open_ints Try.underlying22 Try.underlying5 c5 h with ⟨hcs, _⟩ | ⟨a, len, cap, zs, hcs, _, hl, _, hz, hx, hcell, hwz⟩
  · refine ⟨⟨none, 0, 0⟩, [], ?_, rfl, rfl, by simp, by decide, nofun, Nat.le_refl _⟩
    exact (List.cons.inj hcs).1
  · simp only [if_true] at hz
    have hw1 := hw ((len + (cap - len)) * Try.prog.bytesOf 5) (by
      rw [hx]
      have e1 : ((lits (H := H) .u8 (zs.take len)).length) = len := by simp [lits]; omega
      have e2 : ((lits (H := H) .u8 (zs.drop len)).length) = cap - len := by simp [lits]; omega
      simp only [DataW.weights, Try.underlying22, List.mem_cons]
      exact .inl (by rw [e1, e2]))
    rw [b5] at hw1
    have hr := reachBytes_lt
    have wz : ∀ i, i < zs.length → 0 ≤ zs.getD i 0 ∧ zs.getD i 0 ≤ 255 := fun i hi => by
      rw [List.getD_eq_getElem?_getD, List.getElem?_eq_getElem hi]
      exact bounds_u8 (hwz _ (List.getElem_mem hi))
    have ll : ((zs.take len).map Int.toNat).length = len := by rw [List.length_map, List.length_take]; omega
    have rd : ∀ i, i < len → Go.Ev.cell W.heap (a.add i) = some (bv ((zs.take len).map Int.toNat)[i]!) := fun i hi => by
      have h1 : Go.Ev.cell W.heap (a.add i) = some (.int .u8 (zs.getD i 0)) := hcell i (by omega)
      have h2 := wz i (by omega)
      have e : ((zs.take len).map Int.toNat)[i]! = (zs.getD i 0).toNat := by
        rw [List.getElem!_eq_getElem?_getD, List.getElem?_map, List.getElem?_take, if_pos hi, List.getElem?_eq_getElem (by omega), List.getD_eq_getElem?_getD, List.getElem?_eq_getElem (by omega)]
        rfl
      rw [h1, e]
      unfold bv
      rw [Int.toNat_of_nonneg h2.1]
    refine ⟨⟨some a, len, cap⟩, (zs.take len).map Int.toNat, ?_, ?_, ll.symm, ?_, by omega, ?_, by show len ≤ cap; omega⟩
    · simpa [slV] using hcs
    · intro j u hj
      rw [List.getElem?_map] at hj
      obtain ⟨z, hz1, rfl⟩ := Option.map_eq_some_iff.1 hj
      have hjl : j < len := by have := (List.getElem?_eq_some_iff.1 hz1).1; rw [ll] at this; exact this
      rw [rd j hjl, List.getElem!_eq_getElem?_getD, hz1]
      rfl
    · intro c hc
      obtain ⟨z, hz1, rfl⟩ := List.mem_map.1 hc
      have := bounds_u8 (hwz z (List.mem_of_mem_take hz1))
      omega
    · intro p hp hne
      obtain rfl := Option.some.inj hp
      have h0 : 0 < len := Nat.pos_of_ne_zero fun e => hne (List.length_eq_zero_iff.1 (ll.trans e))
      have h1 := rd 0 h0
      unfold Go.Ev.cell at h1
      have eb : (a.add 0).block = a.block := rfl
      rw [eb] at h1
      exact Nat.lt_of_not_le fun hl => by
        rw [Array.getElem?_eq_none hl] at h1
        cases h1
theorem ints_of {n : Nat} {v : Value} {x : DataW H × List MemPlace} (h : DataW.trod enc Try.prog W 0 (fun _ => true) true n 23 [v] = some x) (hw : ∀ m ∈ x.1.weights Try.prog 23, m ≤ reachBytes) :
    ∃ (d : Sl) (l : List Int), v = slV d ∧ ReadsO W.heap d.a (l.map iv) ∧ d.n = l.length ∧ (∀ c ∈ l, I64 c) ∧ l.length < 140737488355328 ∧ ∀ p, d.a = some p → l ≠ [] → p.block < W.heap.size := by
  rcases open_ints Try.underlying23 Try.underlying3 c3 h with ⟨hcs, _⟩ | ⟨a, len, cap, zs, hcs, _, hl, _, hz, hx, hcell, hwz⟩
  · refine ⟨⟨none, 0, 0⟩, [], ?_, rfl, rfl, nofun, by decide, nofun⟩
    exact (List.cons.inj hcs).1
  · simp only [if_true] at hz
    have hw1 := hw ((len + (cap - len)) * Try.prog.bytesOf 3) (by
      rw [hx]
      have e1 : ((lits (H := H) .i64 (zs.take len)).length) = len := by simp [lits]; omega
      have e2 : ((lits (H := H) .i64 (zs.drop len)).length) = cap - len := by simp [lits]; omega
      simp only [DataW.weights, Try.underlying23, List.mem_cons]
      exact .inl (by rw [e1, e2]))
    rw [b3] at hw1
    have hr := reachBytes_lt
    have ll : (zs.take len).length = len := by rw [List.length_take]; omega
    have rd : ∀ i, i < len → Go.Ev.cell W.heap (a.add i) = some (iv (zs.getD i 0)) := fun i hi => hcell i (by omega)
    refine ⟨⟨some a, len, cap⟩, zs.take len, ?_, ?_, ll.symm, ?_, by omega, ?_⟩
    · simpa [slV] using hcs
    · intro j u hj
      rw [List.getElem?_map] at hj
      obtain ⟨z, hz1, rfl⟩ := Option.map_eq_some_iff.1 hj
      have hjl : j < len := by have := (List.getElem?_eq_some_iff.1 hz1).1; rw [ll] at this; exact this
      rw [rd j hjl]
      rw [List.getElem?_take, if_pos hjl] at hz1
      rw [List.getD_eq_getElem?_getD, hz1]
      rfl
    · intro c hc
      exact i64_of (hwz c (List.mem_of_mem_take hc))
    · intro p hp hne
      obtain rfl := Option.some.inj hp
      have h0 : 0 < len := Nat.pos_of_ne_zero fun e => hne (List.length_eq_zero_iff.1 (ll.trans e))
      have h1 := rd 0 h0
      unfold Go.Ev.cell at h1
      have eb : (a.add 0).block = a.block := rfl
      rw [eb] at h1
      exact Nat.lt_of_not_le fun hl => by
        rw [Array.getElem?_eq_none hl] at h1
        cases h1
/-- A list of bytes that is handed in. -/
def BytesP (h : Go.Ev.Hp) (d : Sl) (l : List Nat) : Prop := ReadsO h d.a (l.map bv) ∧ d.n = l.length ∧ (∀ c ∈ l, c < 256) ∧ l.length < 140737488355328 ∧ (∀ p, d.a = some p → l ≠ [] → p.block < h.size) ∧ d.n ≤ d.c
def IntsP (h : Go.Ev.Hp) (d : Sl) (l : List Int) : Prop := ReadsO h d.a (l.map iv) ∧ d.n = l.length ∧ (∀ c ∈ l, I64 c) ∧ l.length < 140737488355328 ∧ ∀ p, d.a = some p → l ≠ [] → p.block < h.size
theorem pair_of {n : Nat} {cs : List Value} {x : DataW H × List MemPlace} (h : DataW.trod enc Try.prog W 0 (fun _ => true) true n 25 cs = some x) (hw : ∀ m ∈ x.1.weights Try.prog 25, m ≤ reachBytes) :
    ∃ (sA sB sW : Sl) (A B : List Nat) (p k : Int) (l : List Int), cs = [.slice sA.a sA.n sA.c, .slice sB.a sB.n sB.c, .int .i64 p, .int .i64 k, .slice sW.a sW.n sW.c] ∧ BytesP W.heap sA A ∧ BytesP W.heap sB B ∧ I64 p ∧ I64 k ∧ IntsP W.heap sW l := by
  obtain ⟨xs, n, _, rfl, hl, hn, hel⟩ := DataW.trod_struct Try.underlying25 h
  rw [c25] at hl
  have e0 : DataW.trod enc Try.prog W 0 (fun _ => true) true n 22 ((cs.drop 0).take (Try.prog.cellsOf 22)) = xs[0]? := hel 0 _ rfl
  have e1 : DataW.trod enc Try.prog W 0 (fun _ => true) true n 22 ((cs.drop 1).take (Try.prog.cellsOf 22)) = xs[1]? := hel 1 _ rfl
  have e2 : DataW.trod enc Try.prog W 0 (fun _ => true) true n 3 ((cs.drop 2).take (Try.prog.cellsOf 3)) = xs[2]? := hel 2 _ rfl
  have e3 : DataW.trod enc Try.prog W 0 (fun _ => true) true n 3 ((cs.drop 3).take (Try.prog.cellsOf 3)) = xs[3]? := hel 3 _ rfl
  have e4 : DataW.trod enc Try.prog W 0 (fun _ => true) true n 23 ((cs.drop 4).take (Try.prog.cellsOf 23)) = xs[4]? := hel 4 _ rfl
  rw [c22] at e0 e1
  rw [c3] at e2 e3
  rw [c23] at e4
  match xs, hn with
  | [x0, x1, x2, x3, x4], _ =>
    match cs, hl with
    | [v0, v1, v2, v3, v4], _ =>
      obtain ⟨n2, a2, _, w2⟩ := DataW.trod_int Try.underlying3 (show DataW.trod enc Try.prog W 0 (fun _ => true) true n 3 [v2] = some x2 from e2)
      obtain ⟨n3, a3, _, w3⟩ := DataW.trod_int Try.underlying3 (show DataW.trod enc Try.prog W 0 (fun _ => true) true n 3 [v3] = some x3 from e3)
      obtain ⟨d0, l0, q0, r0⟩ := bytes_of (show DataW.trod enc Try.prog W 0 (fun _ => true) true n 22 [v0] = some x0 from e0) (fun m hm => hw m (by
        simp only [DataW.weights, Try.underlying25]
        exact DataW.weights_mem_each (j := 0) (t := 22) rfl rfl m hm))
      obtain ⟨d1, l1, q1, r1⟩ := bytes_of (show DataW.trod enc Try.prog W 0 (fun _ => true) true n 22 [v1] = some x1 from e1) (fun m hm => hw m (by
        simp only [DataW.weights, Try.underlying25]
        exact DataW.weights_mem_each (j := 1) (t := 22) rfl rfl m hm))
      obtain ⟨d4, l4, q4, r4⟩ := ints_of (show DataW.trod enc Try.prog W 0 (fun _ => true) true n 23 [v4] = some x4 from e4) (fun m hm => hw m (by
        simp only [DataW.weights, Try.underlying25]
        exact DataW.weights_mem_each (j := 4) (t := 23) rfl rfl m hm))
      simp only [List.cons.injEq, and_true] at a2 a3
      refine ⟨d0, d1, d4, l0, l1, n2, n3, l4, ?_, r0, r1, i64_of w2, i64_of w3, r4⟩
      rw [q0, q1, a2, a3, q4]
      rfl
theorem kept_all {W W' : World} (hs : Go.Ev.Same W W') (hk : Go.Ev.Kept Go.Ev.N W.heap W'.heap) (may : MemPlace → Prop) : W.keptBut W' may := by
  refine ⟨hs.1, hs.2.2, fun i hi => ?_⟩
  rw [hk.2 i hi id]
  cases h : W.heap[i]? with
  | none => rfl
  | some o =>
    cases o <;> first | exact rfl | exact ⟨rfl, rfl, rfl, fun _ _ => rfl⟩ | exact .inr ⟨rfl, rfl⟩
theorem same_all {W W' : World} (hk : Go.Ev.Kept Go.Ev.N W.heap W'.heap) {p : MemPlace} (hp : p.block < W.heap.size) : W.sameAt W' p := by
  cases p with
  | cell b off =>
    show Go.Ev.cell W'.heap ⟨b, off, none⟩ = Go.Ev.cell W.heap ⟨b, off, none⟩
    unfold Go.Ev.cell
    rw [hk.2 b hp id]
  | map b => exact hk.2 b hp id
end
end Go.Proofs.Ytdkopnbjommjdaa
