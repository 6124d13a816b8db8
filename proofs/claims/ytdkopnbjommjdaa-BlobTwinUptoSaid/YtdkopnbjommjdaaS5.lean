/- The law of the statement, and what it leans on. No condition but that it is one. -/
import Derived.Test.YtdkopnbjommjdaaCB
import Derived.Test.YtdkopnbjommjdaaGB
import Derived.Laws.Externs
import Derived.Test.YtdkopnbjommjdaaS4
import Derived.Test.YtdkopnbjommjdaaRows
import Derived.JoinedCond
import Derived.Deep.CondSized
set_option linter.all false
set_option maxRecDepth 1000000
namespace Go.Ev
open Go.Proofs
/-- How two lists of bytes stand to one another. -/
def cmpL : List Nat → List Nat → Int
  | [], [] => 0
  | [], _ :: _ => -1
  | _ :: _, [] => 1
  | x :: a, y :: b => if x < y then -1 else if y < x then 1 else cmpL a b
theorem cmpL_neg : ∀ a b : List Nat, cmpL a b = - cmpL b a
  | [], [] => rfl
  | [], _ :: _ => rfl
  | _ :: _, [] => rfl
  | x :: a, y :: b => by
    unfold cmpL
    rw [cmpL_neg a b]
    by_cases h1 : x < y
    · rw [if_pos h1, if_neg (by omega), if_pos h1]
    · by_cases h2 : y < x
      · rw [if_neg h1, if_pos h2, if_pos h2]; rfl
      · rw [if_neg h1, if_neg h2, if_neg h2, if_neg h1]
theorem cmpL_range : ∀ a b : List Nat, -1 ≤ cmpL a b ∧ cmpL a b ≤ 1
  | [], [] => by unfold cmpL; omega
  | [], _ :: _ => by unfold cmpL; omega
  | _ :: _, [] => by unfold cmpL; omega
  | x :: a, y :: b => by
    unfold cmpL
    have := cmpL_range a b
    split
    · omega
    · split <;> omega
theorem cmpL_self : ∀ a : List Nat, cmpL a a = 0
  | [] => rfl
  | x :: a => by unfold cmpL; rw [if_neg (by omega), if_neg (by omega)]; exact cmpL_self a
def toBA (l : List Nat) : ByteArray := ⟨(l.map Nat.toUInt8).toArray⟩
theorem toBA_size (l : List Nat) : (toBA l).size = l.length := by unfold toBA ByteArray.size; simp
theorem toBA_get {l : List Nat} {i : Nat} (h : i < l.length) : (toBA l)[i]! = (l.getD i 0).toUInt8 := by
  have hs : i < (toBA l).size := by rw [toBA_size]; exact h
  rw [getElem!_pos (toBA l) i hs, List.getD_eq_getElem?_getD, List.getElem?_eq_getElem h]
  show (l.map Nat.toUInt8).toArray[i]'(by simpa using h) = _
  rw [List.getElem_toArray, List.getElem_map]
  rfl
theorem u8_lt {x y : Nat} (hx : x < 256) (hy : y < 256) : (x.toUInt8 < y.toUInt8) ↔ x < y := by
  rw [UInt8.lt_iff_toNat_lt]
  have e1 : x.toUInt8.toNat = x := by rw [Nat.toUInt8, UInt8.toNat_ofNat']; exact Nat.mod_eq_of_lt hx
  have e2 : y.toUInt8.toNat = y := by rw [Nat.toUInt8, UInt8.toNat_ofNat']; exact Nat.mod_eq_of_lt hy
  rw [e1, e2]
theorem u8_eq {x y : Nat} (hx : x < 256) (hy : y < 256) : (x.toUInt8 = y.toUInt8) ↔ x = y := by
  refine ⟨fun e => ?_, fun e => by rw [e]⟩
  have := congrArg UInt8.toNat e
  have e1 : x.toUInt8.toNat = x := by rw [Nat.toUInt8, UInt8.toNat_ofNat']; exact Nat.mod_eq_of_lt hx
  have e2 : y.toUInt8.toNat = y := by rw [Nat.toUInt8, UInt8.toNat_ofNat']; exact Nat.mod_eq_of_lt hy
  rw [e1, e2] at this
  exact this
/-- The same by the first place at which they part. -/
theorem cmpL_drop : ∀ (i : Nat) (a b : List Nat), i ≤ a.length → i ≤ b.length → (∀ k, k < i → a.getD k 0 = b.getD k 0) → cmpL a b = cmpL (a.drop i) (b.drop i)
  | 0, a, b, _, _, _ => rfl
  | i + 1, [], b, h, _, _ => by simp at h
  | i + 1, x :: a, [], _, h, _ => by simp at h
  | i + 1, x :: a, y :: b, h1, h2, h => by
    have e : x = y := h 0 (by omega)
    subst e
    rw [List.drop_succ_cons, List.drop_succ_cons, ← cmpL_drop i a b (by simpa using h1) (by simpa using h2) fun k hk => by have := h (k + 1) (by omega); simpa using this]
    show (if x < x then (-1 : Int) else if x < x then 1 else cmpL a b) = _
    rw [if_neg (by omega), if_neg (by omega)]
theorem cmpL_at {i : Nat} {a b : List Nat} (ha : i < a.length) (hb : i < b.length) (h : ∀ k, k < i → a.getD k 0 = b.getD k 0) (hne : a.getD i 0 ≠ b.getD i 0) : cmpL a b = if a.getD i 0 < b.getD i 0 then -1 else 1 := by
  rw [cmpL_drop i a b (by omega) (by omega) h, List.drop_eq_getElem_cons ha, List.drop_eq_getElem_cons hb]
  have e1 : a.getD i 0 = a[i] := by rw [List.getD_eq_getElem?_getD, List.getElem?_eq_getElem ha]; rfl
  have e2 : b.getD i 0 = b[i] := by rw [List.getD_eq_getElem?_getD, List.getElem?_eq_getElem hb]; rfl
  rw [e1, e2] at hne ⊢
  unfold cmpL
  split
  · rfl
  · rw [if_pos (by omega)]
theorem cmpL_end {a b : List Nat} (h : ∀ k, k < min a.length b.length → a.getD k 0 = b.getD k 0) : cmpL a b = if a.length < b.length then -1 else if a.length > b.length then 1 else 0 := by
  rw [cmpL_drop (min a.length b.length) a b (Nat.min_le_left _ _) (Nat.min_le_right _ _) h]
  by_cases h1 : a.length < b.length
  · rw [if_pos h1, Nat.min_eq_left (by omega), List.drop_length, List.drop_eq_getElem_cons h1]; rfl
  · by_cases h2 : a.length > b.length
    · rw [if_neg h1, if_pos h2, Nat.min_eq_right (by omega), List.drop_length, List.drop_eq_getElem_cons h2]; rfl
    · rw [if_neg h1, if_neg h2, Nat.min_eq_left (by omega), List.drop_length, List.drop_of_length_le (by omega)]; rfl
theorem ext_cmp {a b : List Nat} (ha : Bytes8 a) (hb : Bytes8 b) : Extern.BytealgCompare.cmp (toBA a) (toBA b) = cmpL a b := by
  have ga : ∀ i, a.getD i 0 < 256 := getD_byte ha
  have gb : ∀ i, b.getD i 0 < 256 := getD_byte hb
  unfold Extern.BytealgCompare.cmp
  rw [toBA_size, toBA_size]
  cases hf : (List.range (min a.length b.length)).find? fun i => (toBA a)[i]! != (toBA b)[i]! with
  | some i =>
    simp only
    have hm := List.find?_some hf
    have hr := List.mem_of_find?_eq_some hf
    have hi := List.mem_range.1 hr
    have before : ∀ k, k < i → a.getD k 0 = b.getD k 0 := fun k hk => by
      obtain ⟨_, j, hj, hji, hb4⟩ := List.find?_eq_some_iff_getElem.1 hf
      have hji : j = i := by simpa using hji
      subst hji
      have := hb4 k hk
      simp only [List.getElem_range, bne_iff_ne, ne_eq, Bool.not_eq_true', Bool.not_eq_eq_eq_not, Bool.not_true] at this
      rw [toBA_get (by omega), toBA_get (by omega)] at this
      have this : ((a.getD k 0).toUInt8 != (b.getD k 0).toUInt8) = false := this
      have this : (a.getD k 0).toUInt8 = (b.getD k 0).toUInt8 := by simpa using this
      exact (u8_eq (ga k) (gb k)).1 this
    rw [toBA_get (by omega), toBA_get (by omega)] at hm ⊢
    have hm : (a.getD i 0).toUInt8 ≠ (b.getD i 0).toUInt8 := by simpa using hm
    rw [cmpL_at (by omega) (by omega) before fun e => hm (by rw [e])]
    by_cases hlt : a.getD i 0 < b.getD i 0
    · rw [if_pos ((u8_lt (ga i) (gb i)).2 hlt), if_pos hlt]
    · rw [if_neg (fun h => hlt ((u8_lt (ga i) (gb i)).1 h)), if_neg hlt]
  | none =>
    simp only
    rw [cmpL_end fun k hk => ?_]
    have := List.find?_eq_none.1 hf k (List.mem_range.2 hk)
    rw [toBA_get (by omega), toBA_get (by omega)] at this
    have this : (a.getD k 0).toUInt8 = (b.getD k 0).toUInt8 := by simpa using this
    exact (u8_eq (ga k) (gb k)).1 this
theorem run_loadBytes {P : Program} {w : World} : ∀ (l : List Nat) (a : Addr) (acc : ByteArray), Reads w.heap a (l.map bv) → (Extern.Bytes.loadBytes a l.length acc).run P w = .ok ⟨acc.data ++ (l.map Nat.toUInt8).toArray⟩ w
  | [], a, acc, _ => by
    show (Pure.pure acc : Sem ByteArray).run P w = _
    rw [run_pure]
    simp
  | c :: l, a, acc, h => by
    have h0 : cell w.heap a = some (bv c) := by have := h 0 (bv c) rfl; rwa [show a.add 0 = a from by cases a with | mk b o s => cases s <;> rfl] at this
    have ht : Reads w.heap (a.add 1) (l.map bv) := fun j v hj => by rw [add_add, Nat.add_comm]; exact h (j + 1) v hj
    show (Bind.bind (Go.load a) _ : Sem ByteArray).run P w = _
    rw [run_bind, run_load h0]
    show (Extern.Bytes.loadBytes (a.add 1) l.length (acc.push (c : Int).toNat.toUInt8)).run P w = _
    have := run_loadBytes (P := P) l (a.add 1) (acc.push (c : Int).toNat.toUInt8) ht
    rw [Int.toNat_natCast] at this ⊢
    refine this.trans ?_
    congr 1
    show (⟨(acc.data.push _) ++ _⟩ : ByteArray) = _
    congr 1
    apply Array.ext'
    simp
section
variable {h h' h2 : Hp} {q q' q2 : HQ} {s s' : RS} {nd : List NodeD} {b t : List Nat} {id : Nat} {R : Value → Hp → Prop}
theorem run_bytesOf {P : Program} {w : World} {a : Sl} {l : List Nat} (rd : ReadsO w.heap a.a (l.map bv)) (n : a.n = l.length) : (Extern.Bytes.bytesOf (.slice a.a a.n a.c)).run P w = .ok (toBA l) w := by
  cases ha : a.a with
  | none =>
    rw [ha] at rd
    have e : l = [] := List.map_eq_nil_iff.1 rd
    subst e
    rfl
  | some p =>
    rw [ha] at rd
    rw [n]
    have := run_loadBytes (P := P) (w := w) l p .empty rd
    refine Eq.trans ?_ (this.trans ?_)
    · rfl
    · congr 1
      show (⟨#[] ++ _⟩ : ByteArray) = ⟨_⟩
      simp
theorem ext_ok {a c : Sl} {l m : List Nat} (ra : ReadsO h a.a (l.map bv)) (na : a.n = l.length) (b8 : Bytes8 l) (rc : ReadsO h c.a (m.map bv)) (nc : c.n = m.length) (c8 : Bytes8 m) :
    ExtTo Try.prog 58 #[.slice a.a a.n a.c, .slice c.a c.n c.c] h (.int .i64 (cmpL l m)) := by
  intro w hw
  subst hw
  rw [run_callFunc_extern (e := Extern.BytealgCompare.compare) Try.func58 (by kernel_rfl) (by kernel_rfl) (by kernel_rfl) (by kernel_rfl)]
  have : (Extern.BytealgCompare.compare #[.slice a.a a.n a.c, .slice c.a c.n c.c]).run Try.prog w = .ok (.int .i64 (cmpL l m)) w := by
    have e : Extern.BytealgCompare.compare #[.slice a.a a.n a.c, .slice c.a c.n c.c] = (do
        let x ← Extern.Bytes.bytesOf (.slice a.a a.n a.c)
        let y ← Extern.Bytes.bytesOf (.slice c.a c.n c.c)
        Pure.pure (goInt (Extern.BytealgCompare.cmp x y)) : Sem Value) := rfl
    rw [e]
    simp only [run_bind, run_bytesOf ra na, run_bytesOf rc nc, run_pure, ext_cmp b8 c8]
    rfl
  rw [this]
  rfl
theorem bcmp_ok {a c : Sl} {l m : List Nat} (ra : ReadsO h a.a (l.map bv)) (na : a.n = l.length) (b8 : Bytes8 l) (rc : ReadsO h c.a (m.map bv)) (nc : c.n = m.length) (c8 : Bytes8 m) (hR : R (.int .i64 (cmpL l m)) h) :
    CallTo Try.prog 31 #[.slice a.a a.n a.c, .slice c.a c.n c.c] h R := by
  refine f31F_ok ?_
  unfold f31F
  exact ⟨_, ext_ok ra na b8 rc nc c8, hR⟩
theorem compare_ok (x : HSt h q s) (B : s.IsB id b) (ok : Okb b) {c : Sl} {m : List Nat} (rc : ReadsO h c.a (m.map bv)) (nc : c.n = m.length) (c8 : Bytes8 m) (hR : ∀ h', Kept N h h' → R (.tuple #[.int .i64 (cmpL b m), .int .i64 0]) h') :
    CallTo Try.prog 13 #[.pointer (some (ad q.hb)), uv (s.ref id), .slice c.a c.n c.c] h R := by
  refine f13F_ok ?_
  unfold f13F
  refine read_ok x B ok fun d h1 row hd k1 => ⟨⟨some (ad d), b.length, b.length⟩, _, rfl, Cond_f rfl ?_⟩
  exact bcmp_ok (a := ⟨some (ad d), b.length, b.length⟩) (row_reads row) rfl ok.b8 (reads_keptN k1 rc) nc c8 ⟨_, rfl, hR h1 k1⟩
/-! ### Count -/
def ones (c : Nat) : Nat := (strC0[c]?.getD 0).toNat
def onesL (l : List Nat) : Nat := (l.map ones).sum
theorem ones_tab : (List.range 256).all (fun c => decide (ones c + ones (255 - c) = 8)) = true := by kernel_rfl
theorem ones_opp {c : Nat} (h : c < 256) : ones c + ones (255 - c) = 8 := by
  have := List.all_eq_true.1 ones_tab c (List.mem_range.2 h)
  exact of_decide_eq_true this
theorem strC0_size : strC0.size = 256 := by kernel_rfl
theorem ones_le {c : Nat} (h : c < 256) : ones c ≤ 8 := by have := ones_opp h; omega
theorem onesL_le {l : List Nat} (h : Bytes8 l) : onesL l ≤ 8 * l.length := by
  induction l with
  | nil => simp [onesL]
  | cons c l ih =>
    have h1 := ones_le (h c (List.mem_cons_self ..))
    have h2 := ih fun x hx => h x (List.mem_cons_of_mem _ hx)
    unfold onesL at h2 ⊢
    simp only [List.map_cons, List.sum_cons, List.length_cons]
    omega
theorem ones_ok {c : Nat} (hc : c < 256) (hR : R (.int .i64 (ones c : Nat)) h) : CallTo Try.prog 29 #[.int .u8 (c : Nat)] h R := by
  refine f29F_ok ?_
  unfold f29F
  have e : IntKind.wrap .i64 ((((strC0[(((c : Nat) : Int)).toNat]?.getD 0).toNat : Nat) : Int)) = ((ones c : Nat) : Int) := by
    rw [Int.toNat_natCast]
    have := ones_le hc
    unfold ones at this ⊢
    rw [wrap_i64' (by omega) (by omega)]
  rw [e]
  exact ⟨⟨by omega, by rw [strC0_size]; omega⟩, hR⟩
theorem count_ok (x : HSt h q s) (B : s.IsB id b) (ok : Okb b) {f n : Int} (hf : -9223372036854775808 ≤ f ∧ f < 9223372036854775808) (hn : -9223372036854775808 ≤ n ∧ n < 9223372036854775808)
    (hbad : ¬ InSp b f n → R (.tuple #[.int .i64 0, .int .i64 42]) h)
    (hgood : ∀ h', InSp b f n → Kept N h h' → R (.tuple #[.int .i64 (onesL ((b.drop f.toNat).take n.toNat) : Nat), .int .i64 0]) h') :
    CallTo Try.prog 11 #[.pointer (some (ad q.hb)), uv (s.ref id), .int .i64 f, .int .i64 n] h R := by
  refine f11F_ok ?_
  unfold f11F
  refine slice_ok x B ok hf hn (fun hb => ⟨⟨none, 0, 0⟩, _, rfl, Cond_t rfl (hbad hb)⟩) fun c h1 hin row hc k1 => ⟨⟨some (ad c), n.toNat, n.toNat⟩, _, rfl, Cond_f rfl ?_⟩
  obtain ⟨i1, i2, i3, i4⟩ := hin
  have hl := ok.len
  generalize hL : (b.drop f.toNat).take n.toNat = L at row hgood
  have hLl : L.length = n.toNat := by rw [← hL]; simp; omega
  have h8 : Bytes8 L := fun y hy => ok.b8 y (by rw [← hL] at hy; exact List.mem_of_mem_drop (List.mem_of_mem_take hy))
  refine f11L1_rule (fun m s12 s26 s27 s28 h' => ∃ i : Nat, i ≤ L.length ∧ m = L.length - i ∧ s12 = ((onesL (L.take i) : Nat) : Int) ∧ s26 = ⟨some (ad c), n.toNat, n.toNat⟩ ∧ s27 = ((L.length : Nat) : Int) ∧ s28 = (i : Int) ∧ h1 = h') L.length
    ⟨0, Nat.zero_le _, rfl, rfl, rfl, by rw [hLl], rfl, rfl⟩ ?_
  rintro m s12 s26 s27 s28 g h2 ⟨i, hi, rfl, rfl, rfl, rfl, rfl, rfl⟩
  unfold f11L1
  refine Cond_dec (fun hlt => ?_) fun hge => ?_
  · have hil : i < L.length := by omega
    have hLi : L[i]? = some (L[i]) := List.getElem?_eq_getElem hil
    have hb8 := h8 _ (List.getElem_mem hil)
    generalize L[i] = y at hLi hb8
    obtain ⟨p, hp, hcell⟩ := readsO_get (row_reads row) (i := i) (v := bv y) (by rw [List.getElem?_map, hLi]; rfl)
    obtain rfl := Option.some.inj hp
    refine ⟨⟨by omega, by show ((i : Nat) : Int) < ((n.toNat : Nat) : Int); omega⟩, PtrOk_mk ⟨((y : Nat) : Int), by rw [Int.toNat_natCast, Nat.mul_one]; exact hcell, ones_ok hb8 ⟨_, rfl, L.length - (i + 1), by omega, i + 1, hil, rfl, ?_, rfl, rfl, by rw [wrap_i64' (by omega) (by omega)]; rfl, rfl⟩⟩⟩
    have e : onesL (L.take (i + 1)) = onesL (L.take i) + ones y := by rw [RS.take_snoc hLi]; unfold onesL; simp
    have h3 : onesL (L.take i) ≤ 8 * (L.take i).length := onesL_le fun z hz => h8 z (List.mem_of_mem_take hz)
    have h4 := ones_le hb8
    have h5 : (L.take i).length ≤ L.length := by rw [List.length_take]; omega
    rw [e, wrap_i64' (by omega) (by omega)]
    omega
  · have hie : i = L.length := by omega
    subst hie
    rw [List.take_length]
    exact hgood h1 ⟨i1, i2, i3, i4⟩ k1
end
end Go.Ev
set_option linter.all false
set_option maxRecDepth 1000000
namespace Go.Ev
open Go.Proofs
theorem cmpL_eq : ∀ {a b : List Nat}, cmpL a b = 0 → a = b
  | [], [], _ => rfl
  | [], _ :: _, h => by unfold cmpL at h; omega
  | _ :: _, [], h => by unfold cmpL at h; omega
  | x :: a, y :: b, h => by
    unfold cmpL at h
    split at h
    · omega
    · split at h
      · omega
      · rw [cmpL_eq h, show x = y by omega]
def opp (l : List Nat) : List Nat := l.map fun c => 255 - c
theorem ones_opps {l : List Nat} (h : Bytes8 l) : onesL l + onesL (opp l) = 8 * l.length := by
  induction l with
  | nil => rfl
  | cons c l ih =>
    have h1 := ones_opp (h c (List.mem_cons_self ..))
    have h2 := ih fun x hx => h x (List.mem_cons_of_mem _ hx)
    unfold onesL opp at h2 ⊢
    simp only [List.map_cons, List.sum_cons, List.length_cons]
    omega
theorem onesL_split (l : List Nat) (m : Nat) : onesL (l.take m) + onesL (l.drop m) = onesL l := by
  conv => rhs; rw [← List.take_append_drop m l]
  unfold onesL
  rw [List.map_append, List.sum_append]
section
variable {h h' h2 : Hp} {q q' q2 : HQ} {s s' : RS} {nd : List NodeD} {b t : List Nat} {id : Nat} {R : Value → Hp → Prop}
theorem cmp2_ok {a c : Sl} {l m : List Nat} (ha : ReadsO h a.a (l.map bv)) (hb : ReadsO h c.a (m.map bv)) (na : a.n = l.length) (nb : c.n = m.length) (hn : l.length < 9223372036854775807) (hR : R (.int .i64 (cmpL l m)) h) :
    CallTo Try.prog 32 #[.slice a.a a.n a.c, .slice c.a c.n c.c] h R := by
  refine f32F_ok ?_
  unfold f32F
  refine f32L1_rule (s0 := a) (s1 := c) (fun q s0 s1 s5 h' => ∃ i : Nat, i ≤ l.length ∧ i ≤ m.length ∧ (∀ k, k < i → l.getD k 0 = m.getD k 0) ∧ q = l.length - i ∧ a = s0 ∧ c = s1 ∧ s5 = (i : Int) ∧ h = h') l.length ⟨0, Nat.zero_le _, Nat.zero_le _, nofun, rfl, rfl, rfl, rfl, rfl⟩ ?_
  rintro q s0 s1 s5 g0 h2 ⟨i, hi, hi2, hpre, rfl, rfl, rfl, rfl, rfl⟩
  have hend : ∀ J, (l.length ≤ i ∨ m.length ≤ i) → f32K1 J (l.length - i) a c (i : Int) false h R := fun J he => by
    have e := cmpL_end (a := l) (b := m) fun k hk => hpre k (by omega)
    rw [e] at hR
    unfold f32K1
    refine Cond_f rfl (Cond_dec (fun h1 => ?_) fun h1 => Cond_dec (fun h2 => ?_) fun h2 => ?_)
    · rw [if_pos (by omega)] at hR; exact hR
    · rw [if_neg (by omega), if_pos (by omega)] at hR; exact hR
    · rw [if_neg (by omega), if_neg (by omega)] at hR; exact hR
  unfold f32L1
  refine Cond_dec (fun hlt => ?_) (fun hlt => hend _ (by omega))
  have hil : i < l.length := by omega
  by_cases him : i < m.length
  · rw [decide_eq_true (show (i : Int) < ((c.n : Nat) : Int) by omega)]
    have e0 : (l.map bv)[i]? = some (bv (l.getD i 0)) := by rw [List.getElem?_map, List.getD_eq_getElem?_getD, List.getElem?_eq_getElem hil]; rfl
    have e1 : (m.map bv)[i]? = some (bv (m.getD i 0)) := by rw [List.getElem?_map, List.getD_eq_getElem?_getD, List.getElem?_eq_getElem him]; rfl
    obtain ⟨p, hp, cp⟩ := readsO_get ha e0
    obtain ⟨p', hp', cp'⟩ := readsO_get hb e1
    unfold f32K1
    have rp : cell h (p.add ((i : Int).toNat * 1)) = some (.int .u8 ((l.getD i 0 : Nat) : Int)) := by rw [Int.toNat_natCast, Nat.mul_one]; exact cp
    have rp' : cell h (p'.add ((i : Int).toNat * 1)) = some (.int .u8 ((m.getD i 0 : Nat) : Int)) := by rw [Int.toNat_natCast, Nat.mul_one]; exact cp'
    refine Cond_t rfl ⟨⟨by omega, hlt⟩, PtrOk_mk' hp ⟨_, rp, ⟨by omega, by omega⟩, PtrOk_mk' hp' ⟨_, rp', Cond_dec (fun hl => ?_) fun hl => ⟨⟨by omega, hlt⟩, PtrOk_mk' hp ⟨_, rp, ⟨by omega, by omega⟩, PtrOk_mk' hp' ⟨_, rp', Cond_dec (fun hg => ?_) fun hg => ?_⟩⟩⟩⟩⟩⟩
    · rw [cmpL_at hil him hpre (by omega), if_pos (by omega)] at hR; exact hR
    · rw [cmpL_at hil him hpre (by omega), if_neg (by omega)] at hR; exact hR
    · refine ⟨l.length - (i + 1), by omega, i + 1, hil, him, fun k hk => ?_, rfl, rfl, rfl, ?_, rfl⟩
      · by_cases hki : k = i
        · subst hki; omega
        · exact hpre k (by omega)
      · rw [wrap_i64' (by omega) (by omega)]; rfl
  · rw [decide_eq_false (show ¬ (i : Int) < ((c.n : Nat) : Int) by omega)]
    exact hend _ (.inr (by omega))
theorem eq2_ok {a c : Sl} {l m : List Nat} (ha : ReadsO h a.a (l.map bv)) (hb : ReadsO h c.a (m.map bv)) (na : a.n = l.length) (nb : c.n = m.length) (hn : l.length < 9223372036854775807) (hR : R (.bool (cmpL l m == 0)) h) :
    CallTo Try.prog 14 #[.slice a.a a.n a.c, .slice c.a c.n c.c] h R := by
  refine f14F_ok ?_
  unfold f14F
  exact cmp2_ok ha hb na nb hn ⟨_, rfl, hR⟩
theorem reads_nil (h : Hp) (a : Option Addr) : ReadsO h a [] := by
  cases a with
  | none => rfl
  | some p => intro j v hj; cases hj
theorem reads_drop {a : Option Addr} {l : List Value} (r : ReadsO h a l) (m c : Nat) (hc : l.length ≤ c) : ReadsO h (if c = m then a else Option.map (fun x => x.add (m * 1)) a) (l.drop m) := by
  by_cases hcm : c = m
  · rw [List.drop_of_length_le (by omega)]
    exact reads_nil h _
  · rw [if_neg hcm]
    cases a with
    | none =>
      have e : l = [] := r
      subst e
      rw [List.drop_nil]
      rfl
    | some p =>
      intro j v hj
      rw [List.getElem?_drop] at hj
      have := r (m + j) v hj
      show cell h ((p.add (m * 1)).add j) = some v
      rw [add_add, Nat.mul_one]
      exact this
theorem reads_take {a : Option Addr} {l : List Value} (r : ReadsO h a l) (m c : Nat) : ReadsO h (if c = (0 : Int).toNat then a else Option.map (fun x => x.add ((0 : Int).toNat * 1)) a) (l.take m) := by
  have h0 : ReadsO h a (l.take m) := by
    cases a with
    | none =>
      have e : l = [] := r
      subst e
      rw [List.take_nil]
      rfl
    | some p =>
      intro j v hj
      rw [List.getElem?_take] at hj
      split at hj
      · exact r j v hj
      · cases hj
  split
  · exact h0
  · cases a with
    | none => exact h0
    | some p =>
      intro j v hj
      have := h0 j v hj
      have e : p.add ((0 : Int).toNat * 1) = p := by cases p with | mk b o s => cases s <;> rfl
      show cell h ((p.add ((0 : Int).toNat * 1)).add j) = some v
      rw [e]
      exact this
theorem counts_ok {sA sB sW : Sl} {A Bt : List Nat} {at_ num : Int} {wl : List Int} (rA : ReadsO h sA.a (A.map bv)) (nA : sA.n = A.length) (bA : Bytes8 A) (lA : A.length < 140737488355328) (oA : ∀ p, sA.a = some p → A ≠ [] → p.block < h.size) (cA : sA.n ≤ sA.c)
    (rB : ReadsO h sB.a (Bt.map bv)) (nB : sB.n = Bt.length) (bB : Bytes8 Bt) (lB : Bt.length < 140737488355328) (oB : ∀ p, sB.a = some p → Bt ≠ [] → p.block < h.size) (hat : I64 at_)
    (rW : ReadsO h sW.a (wl.map iv)) (nW : sW.n = wl.length) (lW : wl.length < 9223372036854775807) (iW : ∀ n ∈ wl, I64 n) (oW : ∀ p, sW.a = some p → wl ≠ [] → p.block < h.size) (hR : ∀ h', Kept N h h' → R (.bool true) h') :
    CallTo Try.prog 3 #[.agg #[.slice sA.a sA.n sA.c, .slice sB.a sB.n sB.c, .int .i64 at_, .int .i64 num, .slice sW.a sW.n sW.c]] h R := by
  refine f3F_ok ?_
  unfold f3F
  refine Let_mk fun h1 e1 => ?_
  have k1 : Kept N h h1 := e1 ▸ kept_push _ _ _
  have row1 : Row h1 h.size [slV sA, slV sB, .int .i64 at_, .int .i64 num, slV sW] := e1 ▸ row_new h _ 25
  have enb : nb h = ad h.size := rfl
  rw [enb]
  have hz : h.size < h1.size := row_lt row1
  have cR : ∀ {h'}, Row h' h.size [slV sA, slV sB, .int .i64 at_, .int .i64 num, slV sW] → ∀ j, cell h' ((ad h.size).add j) = ([slV sA, slV sB, .int .i64 at_, .int .i64 num, slV sW] : List Value)[j]? := fun r j => by rw [add_ad]; exact cell_row r j
  have cR0 : ∀ {h'}, Row h' h.size [slV sA, slV sB, .int .i64 at_, .int .i64 num, slV sW] → cell h' (ad h.size) = some (slV sA) := fun r => (cell_row r 0).trans rfl
  have skip : ∀ b, b = true → f3K1 (ad h.size) b h1 R := fun b hb => by unfold f3K1; exact Cond_t hb (hR h1 k1)
  have main : A.length ≤ 4096 → Bt.length ≤ 4096 → f3K1 (ad h.size) false h1 R := fun gA gB => by
    have okA : Okb A := ⟨bA, gA⟩
    have okB : Okb Bt := ⟨bB, gB⟩
    have okO : Okb (opp A) := ⟨fun c hc => by unfold opp at hc; obtain ⟨x, _, rfl⟩ := List.mem_map.1 hc; omega, by unfold opp; rw [List.length_map]; exact gA⟩
    have mapne : ∀ {α : Type} {f : α → Value} {l : List α}, l.map f ≠ [] → l ≠ [] := fun hn e => hn (by rw [e]; rfl)
    unfold f3K1
    refine Cond_f rfl (hnew_ok (fun hn => absurd ⟨by omega, by omega⟩ hn) fun h2 hb role G hn rp fr k2 => ⟨_, _, rfl, num_ok ⟨_, rfl, Cond_f rfl (Cond_f rfl ?_)⟩⟩)
    have row2 := kept_row k2 row1 _root_.id
    have e262 : (262144 : Int).toNat = 262144 := rfl
    rw [e262] at rp
    have v0 := RS.new_inv (n := 262144) (by omega) (by omega)
    obtain ⟨q0, hq0⟩ : ∃ q0 : HQ, q0 = ⟨hb, role, G, []⟩ := ⟨_, rfl⟩
    have x2 : HSt h2 q0 (RS.new 262144) := by rw [hq0]; exact ⟨rp, v0⟩
    have eqb : q0.hb = hb := by rw [hq0]
    have outL : ∀ c, c < h1.size → q0.role c = .out := fun c hc => by rw [hq0]; exact Classical.byContradiction fun hn => by have := fr c hn; omega
    rw [← eqb]
    clear rp fr eqb hq0
    have sh0 : (RS.new 262144).Shd [⟨0, [], []⟩] := ⟨rfl, fun id hid => by unfold RS.here RS.new at hid; simp at hid⟩
    have k02 := k1.trans k2
    have hz2 : h1.size ≤ h2.size := k2.1
    let M0 : Mem := ⟨fun _ => none, fun _ => []⟩
    have sp0 : Sep h2 M0 := ⟨(fun y b hy => by cases hy), fun y z b hy _ => by cases hy⟩
    refine f3L1_rule (s5 := ⟨none, 0, 0⟩) (fun m s1 s3 s5 s6 h' => ∃ (i : Nat) (M : Mem), i ≤ A.length ∧ m = A.length - i ∧ s1 = ad h.size ∧ s3 = some (ad q0.hb) ∧ s6 = (i : Int) ∧ IsSl 1 M 0 s5 ((opp (A.take i)).map bv) ∧ Sep h' M ∧ Kept N h2 h' ∧ (∀ b, M.own b → h2.size ≤ b)) A.length
      ⟨0, M0, Nat.zero_le _, rfl, rfl, rfl, rfl, ⟨rfl, fun _ => ⟨rfl, rfl, rfl⟩, fun b hb => by cases hb⟩, sp0, Kept.refl _ _, fun b ⟨y, hy⟩ => by cases hy⟩ ?_
    rintro m s1 s3 s5 s6 g h3 ⟨i, M, hi, rfl, rfl, rfl, rfl, sl5, sep3, k3, own3⟩
    have k03 := k02.trans k3
    have row3 := kept_row k3 row2 _root_.id
    have x3 := x2.keepN k3
    unfold f3L1
    refine ⟨sA, cR0 row3, Cond_dec (fun hlt => ?_) fun hge => ?_⟩
    · have hil : i < A.length := by omega
      have hAi : A[i]? = some (A[i]) := List.getElem?_eq_getElem hil
      have hc8 := bA _ (List.getElem_mem hil)
      generalize A[i] = y at hAi hc8
      obtain ⟨pa, hpa, hca⟩ := readsO_get (reads_keptN k03 rA) (i := i) (v := bv y) (by rw [List.getElem?_map, hAi]; rfl)
      refine ⟨sA, cR0 row3, ⟨by omega, hlt⟩, PtrOk_of hpa ⟨((y : Nat) : Int), by rw [Int.toNat_natCast, Nat.mul_one]; exact hca, ?_⟩⟩
      have ew : IntKind.wrap .u8 ((255 : Int) - ((y : Nat) : Int)) = ((255 - y : Nat) : Int) := by rw [wrap_u8']; omega
      rw [ew]
      have ln : s5.n = i := by have := sl5.len; unfold opp at this; simp at this; omega
      refine sl5.app1 sep3 rfl rfl (fun v hv => by simp at hv; rw [hv]; rfl) (by omega) (by omega) fun a' c' h4 ob cs sep4 sl4 ch4 => ?_
      refine ⟨A.length - (i + 1), by omega, i + 1, _, hil, rfl, rfl, rfl, by rw [wrap_i64' (by omega) (by omega)]; rfl, ?_, sep4, ⟨Nat.le_trans k3.1 ch4.1.1, fun c hc _ => (ch4.1.2 c (Nat.lt_of_lt_of_le hc k3.1) (fun ho => by have := own3 c ho; omega)).trans (k3.2 c hc _root_.id)⟩, fun c hc => ?_⟩
      · have e : (opp (A.take i)).map bv ++ #[Value.int .u8 ((255 - y : Nat) : Int)].toList = (opp (A.take (i + 1))).map bv := by
          rw [RS.take_snoc hAi]; unfold opp; simp; rfl
        rw [e] at sl4
        exact sl4
      · rcases ch4.2 c hc with hc | hc
        · exact own3 c hc
        · exact Nat.le_trans k3.1 hc
    · have hie : i = A.length := by omega
      subst hie
      rw [List.take_length] at sl5
      have r5 : ReadsO h3 s5.a ((opp A).map bv) := slAt_reads (sl5.slAt sep3)
      have n5 : s5.n = (opp A).length := by have := sl5.len; rw [List.length_map] at this; omega
      have o5 : ∀ p, s5.a = some p → opp A ≠ [] → h2.size ≤ p.block ∧ p.block < h3.size := fun p hp hne => by
        obtain ⟨b, hb1, hb2⟩ := sl5.some_of (fun e => hne (List.map_eq_nil_iff.1 e))
        rw [hb2] at hp
        obtain rfl := Option.some.inj hp
        exact ⟨own3 b ⟨0, hb1⟩, sep3.lt hb1⟩
      have src0 : ∀ {a : Sl} {l : List Nat}, ReadsO h a.a (l.map bv) → a.n = l.length → Bytes8 l → (∀ p, a.a = some p → l ≠ [] → p.block < h.size) → Src h3 q0 a l := fun {a l} r n b8 o =>
        ⟨reads_keptN k03 r, n, b8, fun p hp hne => ⟨outL _ (by have := o p hp hne; omega), by have := o p hp hne; have := k3.1; omega⟩⟩
      have srcA := src0 rA nA bA oA
      have srcB := src0 rB nB bB oB
      have srcO : Src h3 q0 s5 (opp A) := ⟨r5, n5, okO.b8, fun p hp hne => ⟨x2.fr (o5 p hp hne).1, (o5 p hp hne).2⟩⟩
      have rW3 := reads_keptN k03 rW
      refine ⟨sA, cR0 row3, made_ok x3 sh0 okA srcA.rd srcA.n (fun p hp hne => (srcA.out p hp hne).2) (by show (0 : Nat) < _; omega) (fun _ hx => by cases hx) (by show (0 : Nat) ≤ _; omega) rfl fun h4 q4 s4 x4 ex4 sh4 rt4 lm4 => ⟨_, rfl, ?_⟩⟩
      have rt4 : s4.roots = [some 1] := rt4
      have row4 := ex4.row row3 (outL _ hz)
      have hh4 : s4.here 1 := (x4.v.rt 1 (by rw [rt4]; exact List.mem_cons_self ..)).resolve_left (by omega)
      have B4 := blob_node (b := A) x4.v sh4 hh4 rfl
      have rl4 : s4.roots.length < 100000000 := by rw [rt4]; simp
      have srcB4 := srcB.ex ex4
      rw [← ex4.1]
      refine ⟨sB, (cR row4 1).trans rfl, made_ok x4 sh4 okB srcB4.rd srcB4.n (fun p hp hne => (srcB4.out p hp hne).2) rl4 (fun x hx => by rw [rt4] at hx; simp at hx; rw [hx]; exact B4.refs) (by
        have e : s4.heldL = [1] := by unfold RS.heldL; rw [rt4]; rfl
        rw [e]; unfold RS.sizes; have := blob_size B4 okA; simp; omega) lm4 fun h5 q5 s5' x5 ex5 sh5 rt5 lm5 => ⟨_, rfl, ?_⟩⟩
      rw [rt4] at rt5 ⊢
      have rt5 : s5'.roots = [some 1, some 2] := rt5
      have out4 : ∀ c, c < h1.size → q4.role c = .out := fun c hc => ex4.out (by have := k3.1; omega) (outL c hc)
      have row5 := ex5.row row4 (out4 _ hz)
      have h1_5 : s5'.here 1 := (x5.v.rt 1 (by rw [rt5]; simp)).resolve_left (by omega)
      have h2_5 : s5'.here 2 := (x5.v.rt 2 (by rw [rt5]; simp)).resolve_left (by omega)
      have B51 := blob_node (b := A) x5.v sh5 h1_5 rfl
      have B52 := blob_node (b := Bt) x5.v sh5 h2_5 rfl
      have srcO5 := srcO.ex (ex4.trans ex5)
      rw [← ex5.1]
      refine made_ok x5 sh5 okO srcO5.rd srcO5.n (fun p hp hne => (srcO5.out p hp hne).2) (by rw [rt5]; simp) (fun x hx => by
        rw [rt5] at hx; simp at hx
        rcases hx with e | e
        · rw [e]; exact B51.refs
        · rw [e]; exact B52.refs) (by
        have e : s5'.heldL = [1, 2] := by unfold RS.heldL; rw [rt5]; rfl
        rw [e]; unfold RS.sizes; have := blob_size B51 okA; have := blob_size B52 okB; simp; omega) lm5 fun h6 q6 s6' x6 ex6 sh6 rt6 lm6 => ⟨_, rfl, ?_⟩
      rw [rt5] at rt6 ⊢
      have rt6 : s6'.roots = [some 1, some 2, some 3] := rt6
      have ex36 := (ex4.trans ex5).trans ex6
      have out6 : ∀ c, c < h1.size → q6.role c = .out := fun c hc => ex36.out (by have := k3.1; omega) (outL c hc)
      have row6 := ex36.row row3 (outL _ hz)
      have rW6 : ReadsO h6 sW.a (wl.map iv) := reads_kept2 ex36.kept rW3 fun p hp hne => ⟨by have := oW p hp (mapne hne); have := k3.1; omega, fun hx => hx (outL _ (by have := oW p hp (mapne hne); omega))⟩
      have z36 := ex36.2.1
      rw [← ex6.1]
      refine ⟨sW, (cR row6 4).trans rfl, waste_ok x6 sh6 rW6 nW lW iW (fun p hp hne => ⟨out6 _ (by have := oW p hp hne; omega), by have := oW p hp hne; have := k3.1; omega⟩) fun h7 q7 s7 nd7 x7 ex7 id7 => ⟨rfl, Cond_f rfl (Cond_f rfl (Cond_f rfl ?_))⟩⟩
      have rt7 : s7.roots = [some 1, some 2, some 3] := id7.rt.trans rt6
      have ex37 := ex36.trans ex7
      have row7 := ex7.row row6 (out6 _ hz)
      have h71 : s7.here 1 := (x7.v.rt 1 (by rw [rt7]; simp)).resolve_left (by omega)
      have h72 : s7.here 2 := (x7.v.rt 2 (by rw [rt7]; simp)).resolve_left (by omega)
      have h73 : s7.here 3 := (x7.v.rt 3 (by rw [rt7]; simp)).resolve_left (by omega)
      have B1 := blob_node (b := A) x7.v id7.sh h71 (id7.gr 1 _ rfl)
      have B2 := blob_node (b := Bt) x7.v id7.sh h72 (id7.gr 2 _ rfl)
      have B3 := blob_node (b := opp A) x7.v id7.sh h73 (id7.gr 3 _ rfl)
      have a1 : s7.atF ((1 : Nat) : Int) = (s7.ref 1, 0) := hand_at2 x7.v (n := 0) (i := 1) (by rw [rt7]; rfl)
      have a2 : s7.atF ((2 : Nat) : Int) = (s7.ref 2, 0) := hand_at2 x7.v (n := 1) (i := 2) (by rw [rt7]; rfl)
      have a3 : s7.atF ((3 : Nat) : Int) = (s7.ref 3, 0) := hand_at2 x7.v (n := 2) (i := 3) (by rw [rt7]; rfl)
      have srcA7 := srcA.ex ex37
      have srcB7 := srcB.ex ex37
      have kEnd : Kept N h h7 := k1.trans ⟨by have := ex37.2.1; have := k3.1; omega, fun c hc _ => by
        have hA : h7[c]? = h3[c]? := (ex37.2.2 c (by have := k3.1; omega) (outL c hc)).2
        have hB : h3[c]? = h2[c]? := k3.2 c (by omega) _root_.id
        have hC : h2[c]? = h1[c]? := k2.2 c hc _root_.id
        rw [hA, hB, hC]⟩
      clear x6 sh6 rt6 lm6 x5 sh5 rt5 lm5 x4 sh4 rt4 lm4 B51 B52 B4 srcO5 srcB4 rW6 rW3
      have f1 : RS.freeAt (RS.new 262144).roots + 1 = 1 := rfl
      have f2 : RS.freeAt [some 1] + 1 = 2 := rfl
      have f3 : RS.freeAt [some 1, some 2] + 1 = 3 := rfl
      rw [f1, f2, f3, ← ex7.1]
      refine ⟨sA, cR0 row7, _, (cR row7 2).trans rfl, ?_⟩
      have en1 : IntKind.wrap .i64 (((sA.n : Nat) : Int) + 1) = ((A.length + 1 : Nat) : Int) := by rw [wrap_i64' (by omega) (by omega)]; omega
      rw [en1]
      refine into_ok (by omega) (by omega) hat ⟨_, rfl, ?_⟩
      have m1 := Int.emod_nonneg at_ (b := ((A.length + 1 : Nat) : Int)) (by omega)
      have m2 := Int.emod_lt_of_pos at_ (b := ((A.length + 1 : Nat) : Int)) (by omega)
      obtain ⟨m, hm⟩ : ∃ m : Nat, at_ % ((A.length + 1 : Nat) : Int) = (m : Int) := ⟨(at_ % ((A.length + 1 : Nat) : Int)).toNat, by omega⟩
      rw [hm] at m1 m2 ⊢
      have hmA : m ≤ A.length := by omega
      have esub : IntKind.wrap .i64 (((sA.n : Nat) : Int) - ((m : Nat) : Int)) = ((A.length - m : Nat) : Int) := by rw [wrap_i64' (by omega) (by omega)]; omega
      rw [esub]
      have lO : (opp A).length = A.length := by unfold opp; rw [List.length_map]
      have e1 : (A.drop (0 : Int).toNat).take ((m : Nat) : Int).toNat = A.take m := by rw [Int.toNat_natCast]; rfl
      have e2 : (A.drop ((m : Nat) : Int).toNat).take ((A.length - m : Nat) : Int).toNat = A.drop m := by rw [Int.toNat_natCast, Int.toNat_natCast, List.take_of_length_le (by rw [List.length_drop]; omega)]
      have e3 : (A.drop (0 : Int).toNat).take ((sA.n : Nat) : Int).toNat = A := by rw [Int.toNat_natCast]; show (A.drop 0).take _ = A; rw [List.drop_zero, List.take_of_length_le (by omega)]
      have e4 : ((opp A).drop (0 : Int).toNat).take ((sA.n : Nat) : Int).toNat = opp A := by rw [Int.toNat_natCast]; show ((opp A).drop 0).take _ = opp A; rw [List.drop_zero, List.take_of_length_le (by omega)]
      have b1 : onesL (A.take m) ≤ 8 * A.length := by have := onesL_le (l := A.take m) (fun z hz' => bA z (List.mem_of_mem_take hz')); have : (A.take m).length ≤ A.length := (by rw [List.length_take]; omega); omega
      have b2 : onesL (A.drop m) ≤ 8 * A.length := by have := onesL_le (l := A.drop m) (fun z hz' => bA z (List.mem_of_mem_drop hz')); have : (A.drop m).length ≤ A.length := (by rw [List.length_drop]; omega); omega
      have b3 := onesL_le bA
      have sp := onesL_split A m
      have op := ones_opps bA
      refine at_ok x7 ⟨_, rfl, ?_⟩
      rw [a1]
      refine count_ok (f := 0) (n := (m : Int)) x7 B1 okA ⟨by omega, by omega⟩ ⟨by omega, by omega⟩ (fun hn => absurd ⟨by omega, by omega, by omega, by omega⟩ hn) fun h8 _ k8 => ⟨_, _, rfl, ?_⟩
      have x8 := x7.keepN k8
      refine at_ok x8 ⟨_, rfl, ?_⟩
      rw [a1, e1]
      refine count_ok (f := (m : Int)) (n := ((A.length - m : Nat) : Int)) x8 B1 okA ⟨by omega, by omega⟩ ⟨by omega, by omega⟩ (fun hn => absurd ⟨by omega, by omega, by omega, by omega⟩ hn) fun h9 _ k9 => ⟨_, _, rfl, ?_⟩
      have x9 := x8.keepN k9
      refine at_ok x9 ⟨_, rfl, ?_⟩
      rw [a1, e2]
      refine count_ok (f := 0) (n := ((sA.n : Nat) : Int)) x9 B1 okA ⟨by omega, by omega⟩ ⟨by omega, by omega⟩ (fun hn => absurd ⟨by omega, by omega, by omega, by omega⟩ hn) fun h10 _ k10 => ⟨_, _, rfl, ?_⟩
      have x10 := x9.keepN k10
      refine at_ok x10 ⟨_, rfl, ?_⟩
      rw [a3, e3]
      refine count_ok (f := 0) (n := ((sA.n : Nat) : Int)) x10 B3 okO ⟨by omega, by omega⟩ ⟨by omega, by omega⟩ (fun hn => absurd ⟨by omega, by omega, by omega, by omega⟩ hn) fun h11 _ k11 => ⟨_, _, rfl, ?_⟩
      have x11 := x10.keepN k11
      rw [e4]
      have k711 := ((k8.trans k9).trans k10).trans k11
      have row11 := kept_row k711 row7 _root_.id
      refine num_ok ⟨_, rfl, Cond_f rfl (num_ok ⟨_, rfl, Cond_f rfl (num_ok ⟨_, rfl, Cond_f rfl (num_ok ⟨_, rfl, Cond_f rfl ?_⟩)⟩)⟩)⟩
      have q1 : IntKind.wrap .i64 (((onesL (A.take m) : Nat) : Int) + ((onesL (A.drop m) : Nat) : Int)) = ((onesL A : Nat) : Int) := by rw [wrap_i64' (by omega) (by omega)]; omega
      have q2 : IntKind.wrap .i64 (((onesL A : Nat) : Int) + ((onesL (opp A) : Nat) : Int)) = ((8 * A.length : Nat) : Int) := by rw [wrap_i64' (by omega) (by omega)]; omega
      have q3 : IntKind.wrap .i64 ((8 : Int) * ((sA.n : Nat) : Int)) = ((8 * A.length : Nat) : Int) := by rw [wrap_i64' (by omega) (by omega)]; omega
      rw [q1, q2, q3]
      refine Cond_f (bne_self_eq_false _) (Cond_f (bne_self_eq_false _) (Cond_f (decide_eq_false (by omega)) (Cond_f (decide_eq_false (by omega)) ?_)))
      refine ⟨((s7.ref 1 : Nat) : Int), at_ok x11 ⟨by rw [a1]; rfl, rfl⟩, sB, (cR row11 1).trans rfl, ?_⟩
      refine compare_ok x11 B1 okA (reads_keptN k711 srcB7.rd) nB bB fun h12 k12 => ⟨_, _, rfl, ?_⟩
      have x12 := x11.keepN k12
      have row12 := kept_row k12 row11 _root_.id
      refine ⟨((s7.ref 2 : Nat) : Int), at_ok x12 ⟨by rw [a2]; rfl, rfl⟩, sA, cR0 row12, ?_⟩
      refine compare_ok x12 B2 okB (reads_keptN (k711.trans k12) srcA7.rd) nA bA fun h13 k13 => ⟨_, _, rfl, ?_⟩
      have x13 := x12.keepN k13
      have k713 := (k711.trans k12).trans k13
      have row13 := kept_row k13 row12 _root_.id
      have rng := cmpL_range A Bt
      have neg := cmpL_neg A Bt
      have q4 : IntKind.wrap .i64 (0 - cmpL Bt A) = cmpL A Bt := by rw [wrap_i64' (by omega) (by omega)]; omega
      refine num_ok ⟨_, rfl, Cond_f rfl (num_ok ⟨_, rfl, Cond_f rfl ?_⟩)⟩
      rw [q4]
      refine Cond_f (bne_self_eq_false _) (Cond_f (decide_eq_false (by omega)) (Cond_f (decide_eq_false (by omega)) ?_))
      refine ⟨sA, cR0 row13, sB, (cR row13 1).trans rfl, eq2_ok (reads_keptN k713 srcA7.rd) (reads_keptN k713 srcB7.rd) nA nB (by omega) ⟨_, rfl, Cond_f (by simp) ?_⟩⟩
      refine at_ok x13 ⟨_, rfl, ?_⟩
      rw [a1]
      refine slice_ok (f := 0) (n := (m : Int)) x13 B1 okA ⟨by omega, by omega⟩ ⟨by omega, by omega⟩ (fun hn => absurd ⟨by omega, by omega, by omega, by omega⟩ hn) fun c1 h14 _ rc1 hc1 k14 => ⟨⟨some (ad c1), m, m⟩, _, by rw [Int.toNat_natCast], ?_⟩
      have x14 := x13.keepN k14
      rw [e1] at rc1
      refine at_ok x14 ⟨_, rfl, ?_⟩
      rw [a1]
      refine slice_ok (f := (m : Int)) (n := ((A.length - m : Nat) : Int)) x14 B1 okA ⟨by omega, by omega⟩ ⟨by omega, by omega⟩ (fun hn => absurd ⟨by omega, by omega, by omega, by omega⟩ hn) fun c2 h15 _ rc2 hc2 k15 => ⟨⟨some (ad c2), A.length - m, A.length - m⟩, _, by rw [Int.toNat_natCast], ?_⟩
      rw [e2] at rc2
      have k715 := (k713.trans k14).trans k15
      have row15 := kept_row (k14.trans k15) row13 _root_.id
      have rA15 := reads_keptN k715 srcA7.rd
      refine num_ok ⟨_, rfl, Cond_f rfl (num_ok ⟨_, rfl, Cond_f rfl (Cond_f (bne_self_eq_false _) (Cond_f (bne_self_eq_false _) ⟨sA, cR0 row15, ⟨by omega, by omega⟩, ⟨by omega, by omega⟩, ?_⟩))⟩)⟩
      have tk : (A.map bv).take m = (A.take m).map bv := by rw [List.map_take]
      have dp : (A.map bv).drop m = (A.drop m).map bv := by rw [List.map_drop]
      rw [Int.toNat_natCast]
      refine eq_ok (a := ⟨some (ad c1), m, m⟩) (c := ⟨if sA.c = (0 : Int).toNat then sA.a else Option.map (fun x => x.add ((0 : Int).toNat * 1)) sA.a, m - (0 : Int).toNat, sA.c - (0 : Int).toNat⟩) (l := A.take m) (reads_keptN k15 (row_reads rc1)) (by rw [← tk]; exact reads_take rA15 m sA.c)
        (by show m = _; rw [List.length_take]; omega) (by show m - 0 = _; rw [List.length_take]; omega) (by rw [List.length_take]; omega) ⟨_, rfl, Cond_t rfl ⟨sA, cR0 row15, ⟨by omega, by omega⟩, ?_⟩⟩
      refine eq_ok (a := ⟨some (ad c2), A.length - m, A.length - m⟩) (c := ⟨if sA.c = m then sA.a else Option.map (fun x => x.add (m * 1)) sA.a, sA.n - m, sA.c - m⟩) (l := A.drop m) (row_reads rc2) (by rw [← dp]; exact reads_drop rA15 m sA.c (by rw [List.length_map]; omega))
        (by show A.length - m = _; rw [List.length_drop]) (by show sA.n - m = _; rw [List.length_drop]; omega) (by rw [List.length_drop]; omega) ⟨_, rfl, hR _ (kEnd.trans k715)⟩
  refine ⟨sA, cR0 row1, Cond_dec (fun _ => skip _ rfl) fun c1 => ⟨sB, (cR row1 1).trans rfl, ?_⟩⟩
  by_cases hb4 : ((sB.n : Nat) : Int) > 4096
  · exact skip _ (decide_eq_true hb4)
  · rw [decide_eq_false hb4]
    exact main (by omega) (by omega)
end
end Go.Ev
set_option linter.all false
set_option maxRecDepth 1000000
namespace Go.Ev
open Go.Proofs
section
variable {h h' h2 : Hp} {q q' q2 : HQ} {s s' : RS} {nd : List NodeD} {b t : List Nat} {id : Nat} {R : Value → Hp → Prop}
theorem bcopy_ok {a : Sl} {l : List Nat} (ha : ReadsO h a.a (l.map bv)) (na : a.n = l.length) (hn : l.length < 140737488355328)
    (hR : ∀ c h', Row h' c (l.map bv) → h.size ≤ c → Kept N h h' → R (.slice (some (ad c)) l.length l.length) h') : CallTo Try.prog 45 #[.slice a.a a.n a.c] h R := by
  refine f45F_ok ?_
  unfold f45F
  rw [na]
  refine ⟨⟨by omega, by omega⟩, by omega, by omega, Let_mk fun h1 e1 => ?_⟩
  rw [Int.toNat_natCast] at e1 ⊢
  have k1 : Kept N h h1 := e1 ▸ kept_push _ _ _
  have row1 : Row h1 h.size (List.replicate l.length (bv 0)) := by
    have e2 := e1
    rw [zrow_one] at e2
    exact e2 ▸ row_new h (List.replicate l.length (bv 0)).toArray 5
  have enb : nb h = ad h.size := rfl
  rw [enb]
  refine cpy_row (o := 0) (l := l) row1 (reads_keptN k1 ha) rfl (Nat.le_refl _) (by rw [List.length_replicate]; omega) (fun _ => rfl) fun h2 row2 k2 => ?_
  have e : ovw (List.replicate l.length (bv 0)) 0 (l.map bv) = l.map bv := by unfold ovw; simp
  rw [e] at row2
  exact hR _ h2 row2 (Nat.le_refl _) ⟨Nat.le_trans k1.1 k2.1, fun j hj _ => (k2.2 j (Nat.lt_of_lt_of_le hj k1.1) (by omega)).trans (k1.2 j hj _root_.id)⟩
/-- Lists of bytes, wherever they lie. -/
structure Lists (h : Hp) (a : Sl) (sls : List Sl) (parts : List (List Nat)) : Prop where
  rd : ReadsO h a.a (sls.map slV)
  n : a.n = sls.length
  len : sls.length = parts.length
  each : ∀ (i : Nat) (c : Sl) (p : List Nat), sls[i]? = some c → parts[i]? = some p → ReadsO h c.a (p.map bv) ∧ c.n = p.length ∧ Bytes8 p ∧ p.length < 140737488355328 ∧ ∀ a : Addr, c.a = some a → p ≠ [] → a.block < h.size
theorem Lists.srcs {a : Sl} {sls : List Sl} {parts : List (List Nat)} (l : Lists h a sls parts) (q : HQ) : Srcs h q a sls parts := ⟨l.rd, l.n, l.len, l.each⟩
theorem Lists.keepN {a : Sl} {sls : List Sl} {parts : List (List Nat)} (l : Lists h a sls parts) (k : Kept N h h') : Lists h' a sls parts :=
  ⟨reads_keptN k l.rd, l.n, l.len, fun i c p hc hp => (have e := l.each i c p hc hp; ⟨reads_keptN k e.1, e.2.1, e.2.2.1, e.2.2.2.1, fun a ha hn => Nat.lt_of_lt_of_le (e.2.2.2.2 a ha hn) k.1⟩)⟩
theorem copies_ok {a : Sl} {sls : List Sl} {parts : List (List Nat)} (l : Lists h a sls parts) (hlong : sls.length < 10000000)
    (hR : ∀ c cs h', Lists h' ⟨some (ad c), sls.length, sls.length⟩ cs parts → Kept N h h' → R (.slice (some (ad c)) sls.length sls.length) h') : CallTo Try.prog 42 #[.slice a.a a.n a.c] h R := by
  have hsl := l.len
  refine f42F_ok ?_
  unfold f42F
  rw [l.n]
  refine ⟨⟨by omega, by omega⟩, by omega, by omega, Let_mk fun h1 e1 => ?_⟩
  rw [Int.toNat_natCast] at e1 ⊢
  have k1 : Kept N h h1 := e1 ▸ kept_push _ _ _
  have row1 : Row h1 h.size (List.replicate sls.length (Value.slice none 0 0)) := by
    have e2 := e1
    rw [zrow_one] at e2
    exact e2 ▸ row_new h (List.replicate sls.length (Value.slice none 0 0)).toArray 22
  have enb : nb h = ad h.size := rfl
  rw [enb]
  refine f42L1_rule (s0 := ⟨a.a, sls.length, a.c⟩) (s3 := ⟨some (ad h.size), sls.length, sls.length⟩) (fun m s0 s3 s4 h' => ∃ (i : Nat) (cs : List Sl), i ≤ sls.length ∧ m = sls.length - i ∧ s0 = ⟨a.a, sls.length, a.c⟩ ∧ s3 = ⟨some (ad h.size), sls.length, sls.length⟩ ∧ s4 = (i : Int) ∧ cs.length = i ∧
      Row h' h.size (cs.map slV ++ List.replicate (sls.length - i) (Value.slice none 0 0)) ∧ (∀ (k : Nat) (c : Sl) (p : List Nat), cs[k]? = some c → parts[k]? = some p → ReadsO h' c.a (p.map bv) ∧ c.n = p.length ∧ ∀ a : Addr, c.a = some a → h.size < a.block ∧ a.block < h'.size) ∧ Kept N h h') sls.length
    ⟨0, [], Nat.zero_le _, rfl, rfl, rfl, rfl, rfl, by simpa using row1, (fun k c p hc => by cases hc), k1⟩ ?_
  rintro m s0 s3 s4 g h2 ⟨i, cs, hi, rfl, rfl, rfl, rfl, hcs, row2, each2, k2⟩
  unfold f42L1
  refine Cond_dec (fun hlt => ?_) fun hge => ?_
  · have hil : i < sls.length := by have : ((i : Nat) : Int) < ((sls.length : Nat) : Int) := hlt; omega
    obtain ⟨c, hc⟩ : ∃ c, sls[i]? = some c := ⟨_, List.getElem?_eq_getElem hil⟩
    obtain ⟨p, hp⟩ : ∃ p, parts[i]? = some p := ⟨_, List.getElem?_eq_getElem (by omega)⟩
    obtain ⟨rdc, nc, b8, lc, oc⟩ := l.each i c p hc hp
    obtain ⟨pa, hpa, hcell⟩ := readsO_get (reads_keptN k2 l.rd) (i := i) (v := slV c) (by rw [List.getElem?_map, hc]; rfl)
    refine ⟨⟨by omega, hlt⟩, PtrOk_of hpa ⟨c, by rw [Int.toNat_natCast, Nat.mul_one]; exact hcell, bcopy_ok (reads_keptN k2 rdc) nc lc fun d h3 rowd hd k3 => ⟨⟨some (ad d), p.length, p.length⟩, rfl, ⟨by omega, hlt⟩, PtrOk_mk ?_⟩⟩⟩
    rw [Int.toNat_natCast, Nat.mul_one]
    have row3 := kept_row k3 row2 _root_.id
    have hz2 := row_lt row2
    refine row_st row3 (i := i) (add_ad _ _) (by rw [List.length_append, List.length_map, List.length_replicate]; omega) fun h4 row4 k4 => ?_
    have kN4 : Kept N h h4 := ⟨Nat.le_trans (Nat.le_trans k2.1 k3.1) k4.1, fun j hj _ => (k4.2 j (Nat.lt_of_lt_of_le hj (Nat.le_trans k2.1 k3.1)) (by omega)).trans ((k2.trans k3).2 j hj _root_.id)⟩
    refine ⟨sls.length - (i + 1), by omega, i + 1, cs ++ [⟨some (ad d), p.length, p.length⟩], hil, rfl, rfl, rfl, by rw [wrap_i64' (by omega) (by omega)]; rfl, by simp [hcs], ?_, fun k c' p' hc' hp' => ?_, kN4⟩
    · have e : (cs.map slV ++ List.replicate (sls.length - i) (Value.slice none 0 0)).set i (Value.slice (some (ad d)) p.length p.length) = (cs ++ [(⟨some (ad d), p.length, p.length⟩ : Sl)]).map slV ++ List.replicate (sls.length - (i + 1)) (Value.slice none 0 0) := by
        rw [List.set_append_right _ _ (by rw [List.length_map]; omega), List.length_map, hcs, Nat.sub_self, show sls.length - i = (sls.length - (i + 1)) + 1 by omega, List.replicate_succ, List.set_cons_zero]
        simp [slV]
      rw [e] at row4
      exact row4
    · by_cases hk : k < i
      · rw [List.getElem?_append_left (by omega)] at hc'
        obtain ⟨r1, r2, r3⟩ := each2 k c' p' hc' hp'
        have r1' : ReadsO h3 c'.a (p'.map bv) := reads_keptN k3 r1
        exact ⟨reads_kept2 k4 r1' fun z hz hne => (have := r3 z hz; have := k3.1; ⟨by omega, by omega⟩), r2, fun z hz => (have := r3 z hz; have := k3.1; have := k4.1; ⟨by omega, by omega⟩)⟩
      · have hki : k = i := by have := (List.getElem?_eq_some_iff.1 hc').1; simp [hcs] at this; omega
        subst hki
        rw [List.getElem?_append_right (by omega), hcs, Nat.sub_self] at hc'
        obtain rfl := Option.some.inj hc'
        rw [hp] at hp'
        obtain rfl := Option.some.inj hp'
        have hdl := row_lt rowd
        exact ⟨reads_kept2 k4 (row_reads rowd) fun z hz hne => (by obtain rfl := Option.some.inj hz; exact ⟨hdl, by show ¬ d = h.size; omega⟩), rfl, fun z hz => by obtain rfl := Option.some.inj hz; exact ⟨by show h.size < d; omega, by show d < h4.size; have := k4.1; omega⟩⟩
  · have hie : i = sls.length := by have : ¬ ((i : Nat) : Int) < ((sls.length : Nat) : Int) := hge; omega
    subst hie
    rw [Nat.sub_self, List.replicate_zero, List.append_nil] at row2
    refine hR h.size cs h2 ⟨row_reads row2, hcs.symm, hcs.trans hsl, fun k c p hc hp => ?_⟩ k2
    obtain ⟨r1, r2, r3⟩ := each2 k c p hc hp
    obtain ⟨c0, hc0⟩ : ∃ c, sls[k]? = some c := ⟨_, List.getElem?_eq_getElem (by have := (List.getElem?_eq_some_iff.1 hp).1; omega)⟩
    obtain ⟨_, _, b8, lc, _⟩ := l.each k c0 p hc0 hp
    exact ⟨r1, r2, b8, lc, fun z hz _ => (r3 z hz).2⟩
/-- bytes: the parts, one behind the other, in new memory. -/
theorem bytes_ok {a : Sl} {sls : List Sl} {parts : List (List Nat)} (l : Lists h a sls parts) (hlong : sls.length < 10000000) (hF : parts.flatten.length < 10000000)
    (hR : ∀ (d : Sl) (h' : Hp), ReadsO h' d.a (parts.flatten.map bv) → d.n = parts.flatten.length → (∀ p, d.a = some p → h.size ≤ p.block ∧ p.block < h'.size) → Kept N h h' → R (.slice d.a d.n d.c) h') : CallTo Try.prog 43 #[.slice a.a a.n a.c] h R := by
  have hsl := l.len
  have han := l.n
  refine f43F_ok ?_
  unfold f43F
  let M0 : Mem := ⟨fun _ => none, fun _ => []⟩
  have sp0 : Sep h M0 := ⟨(fun y b hy => by cases hy), fun y z b hy _ => by cases hy⟩
  refine f43L1_rule (s0 := a) (s3 := ⟨none, 0, 0⟩) (fun m s0 s3 s4 h' => ∃ (i : Nat) (M : Mem), i ≤ sls.length ∧ m = sls.length - i ∧ a = s0 ∧ s4 = (i : Int) ∧ IsSl 1 M 0 s3 ((parts.take i).flatten.map bv) ∧ Sep h' M ∧ (∀ b, M.own b → h.size ≤ b) ∧ Kept N h h') sls.length
    ⟨0, M0, Nat.zero_le _, rfl, rfl, rfl, ⟨rfl, fun _ => ⟨rfl, rfl, rfl⟩, fun b hb => by cases hb⟩, sp0, (fun b ⟨y, hy⟩ => by cases hy), Kept.refl _ _⟩ ?_
  rintro m s0 s3 s4 g h2 ⟨i, M, hi, rfl, rfl, rfl, sl2, sep2, own2, k2⟩
  unfold f43L1
  have hfi := flat_le parts i
  have ln : s3.n = (parts.take i).flatten.length := by have := sl2.len; rw [List.length_map] at this; omega
  refine Cond_dec (fun hlt => ?_) fun hge => ?_
  · have hil : i < sls.length := by omega
    obtain ⟨c, hc⟩ : ∃ c, sls[i]? = some c := ⟨_, List.getElem?_eq_getElem hil⟩
    obtain ⟨p, hp⟩ : ∃ p, parts[i]? = some p := ⟨_, List.getElem?_eq_getElem (by omega)⟩
    obtain ⟨rdc, nc, b8, lc, oc⟩ := l.each i c p hc hp
    obtain ⟨pa, hpa, hcell⟩ := readsO_get (reads_keptN k2 l.rd) (i := i) (v := slV c) (by rw [List.getElem?_map, hc]; rfl)
    have hfl := flat_le parts (i + 1)
    have e1 : (parts.take (i + 1)).flatten.length = (parts.take i).flatten.length + p.length := by rw [flat_take hp, List.length_append]
    refine ⟨⟨by omega, hlt⟩, PtrOk_of hpa ⟨c, by rw [Int.toNat_natCast, Nat.mul_one]; exact hcell, p.map bv, reads_keptN k2 rdc, by rw [List.length_map]; omega, ?_⟩⟩
    refine sl2.app sep2 rfl (by rw [List.length_map]; omega) (fun v hv => by obtain ⟨x, _, rfl⟩ := List.mem_map.1 hv; rfl) (by omega) (by omega) fun a' c' h3 ob cc sep3 sl3 ch3 => ?_
    refine ⟨sls.length - (i + 1), by omega, i + 1, _, hil, rfl, rfl, by rw [wrap_i64' (by omega) (by omega)]; rfl, ?_, sep3, fun b hb => ?_, ⟨Nat.le_trans k2.1 ch3.1.1, fun j hj _ => (ch3.1.2 j (Nat.lt_of_lt_of_le hj k2.1) fun ho => by have := own2 j ho; omega).trans (k2.2 j hj _root_.id)⟩⟩
    · rw [← List.map_append, ← flat_take hp] at sl3
      exact sl3
    · rcases ch3.2 b hb with hb | hb
      · exact own2 b hb
      · exact Nat.le_trans k2.1 hb
  · have hie : i = parts.length := by omega
    subst hie
    rw [List.take_length] at sl2 ln
    refine hR s3 h2 (slAt_reads (sl2.slAt sep2)) ln (fun p hp => ?_) k2
    cases hl : M.loc 0 with
    | none => have := (sl2.nil hl).1; rw [this] at hp; cases hp
    | some b =>
      have := (sl2.row b hl).1
      rw [this] at hp
      obtain rfl := Option.some.inj hp
      exact ⟨own2 b ⟨0, hl⟩, sep2.lt hl⟩
/-- The statement's own lay, on the second heap. -/
theorem tlay_ok {tb : Nat} {v0 : Value} (x : HSt h q s) (sh : s.Shd nd) (c0 : ∀ h', (∀ i, i = tb → h'[i]? = h[i]?) → cell h' ((ad tb).add 1) = some (.pointer (some (ad q.hb)))) (ot : q.role tb = .out) (htb : tb < h.size) {a : Sl} (sr : Src h q a b) (hb : b.length < 10000000)
    (hR : Does h q (s.newF [b]).1 (.tuple #[uv (s.newF [b]).2.1, .int .i64 (s.newF [b]).2.2]) R) : CallTo Try.prog 24 #[.pointer (some (ad tb)), .slice a.a a.n a.c] h R := by
  have efl : ([b] : List (List Nat)).flatten = b := by simp
  unfold RS.newF at hR
  rw [efl] at hR
  refine f24F_ok ?_
  unfold f24F
  rw [sr.n]
  refine Cond_dec (fun hbig => ?_) fun hsm => ?_
  · rw [if_pos (by omega)] at hR
    exact hR h q x (Ex.refl _ _)
  · rw [if_neg (by omega)] at hR
    have hl : b.length ≤ 4096 := by omega
    have hw : wordsN b.length ≤ 513 := by unfold wordsN; omega
    refine PtrOk_mk ⟨_, c0 h fun _ _ => rfl, _, words2_ok (by omega) ⟨rfl, rfl⟩, ?_⟩
    have e1 : IntKind.wrap .i64 ((1 : Int) + ((wordsN b.length : Nat) : Int)) = ((1 + wordsN b.length : Nat) : Int) := by rw [wrap_i64' (by omega) (by omega)]; omega
    rw [e1]
    have hrl := alloc_lt s x.v sh 1 0 ((1 + wordsN b.length : Nat) : Int)
    have keepT : ∀ {h' q'}, Ex h q h' q' → ∀ i, i = tb → h'[i]? = h[i]? := fun {h' q'} e i hi => by subst hi; exact (e.2.2 _ htb ot).2
    refine c_alloc x fun h1 q1 x1 ex1 => ⟨_, _, rfl, num_ok ⟨_, rfl, ?_⟩⟩
    unfold RS.layF at hR
    by_cases h0 : (s.alloc 1 0 ((1 + wordsN b.length : Nat) : Int)).2.2 = 0
    · rw [if_pos h0] at hR
      refine Cond_f (by rw [h0]; rfl) (PtrOk_mk ⟨_, c0 h1 (keepT ex1), ?_⟩)
      have ew : IntKind.wrap .u64 ((b.length : Nat) : Int) = ((b.length : Nat) : Int) := wrap_u64' (by omega) (by omega)
      rw [ew, ← ex1.1]
      refine c_set x1 hrl (by omega) fun h2 q2 x2 ex2 => ⟨_, rfl, ?_⟩
      have ex12 := ex1.trans ex2
      have sr2 : Src h2 q2 ⟨a.a, b.length, a.c⟩ b := by have := sr.ex ex12; exact ⟨this.rd, rfl, this.b8, this.out⟩
      refine PtrOk_mk ⟨_, c0 h2 (keepT ex12), ?_⟩
      rw [← ex12.1]
      exact c_setbytes (f := 8) (a := ⟨a.a, b.length, a.c⟩) x2 hrl (by omega) (by omega) sr2.rd sr2.n sr2.b8 (fun p hp hn => (sr2.out p hp hn).1) (by omega) fun h3 q3 x3 ex3 => ⟨_, rfl, hR h3 q3 x3 (ex12.trans ex3)⟩
    · rw [if_neg h0] at hR
      exact Cond_t (by simpa using h0) (num_ok ⟨_, rfl, hR h1 q1 x1 ex1⟩)
end
end Go.Ev
set_option linter.all false
set_option maxRecDepth 1000000
namespace Go.Ev
open Go.Proofs
/-- The bytes while they are written. -/
def mid (b : List Nat) (p : Nat) (t : List Nat) (i : Nat) : List Nat := (List.range (max b.length (p + t.length))).map fun j => if p ≤ j ∧ j < p + i then t.getD (j - p) 0 else b.getD j 0
theorem mid_len (b : List Nat) (p : Nat) (t : List Nat) (i : Nat) : (mid b p t i).length = max b.length (p + t.length) := by unfold mid; simp
theorem mid_zero (b : List Nat) (p : Nat) (t : List Nat) : mid b p t 0 = b ++ List.replicate (max b.length (p + t.length) - b.length) 0 := by
  apply List.ext_getElem?
  intro j
  unfold mid
  rw [List.getElem?_map]
  by_cases hj : j < max b.length (p + t.length)
  · rw [List.getElem?_range hj]
    show some (if p ≤ j ∧ j < p + 0 then _ else b.getD j 0) = _
    rw [if_neg (by omega), List.getD_eq_getElem?_getD]
    by_cases hb : j < b.length
    · rw [List.getElem?_append_left hb, List.getElem?_eq_getElem hb]; rfl
    · rw [List.getElem?_append_right (by omega), List.getElem?_replicate, if_pos (by omega), List.getElem?_eq_none (by omega)]; rfl
  · rw [List.getElem?_eq_none (by simp; omega), List.getElem?_eq_none (by simp; omega)]; rfl
theorem mid_succ {b t : List Nat} {p i : Nat} (hi : i < t.length) : mid b p t (i + 1) = (mid b p t i).set (p + i) (t.getD i 0) := by
  apply List.ext_getElem?
  intro j
  by_cases hj : j < max b.length (p + t.length)
  · by_cases he : j = p + i
    · subst he
      rw [List.getElem?_set_self (by rw [mid_len]; exact hj)]
      unfold mid
      rw [List.getElem?_map, List.getElem?_range hj]
      show some (if p ≤ p + i ∧ p + i < p + (i + 1) then t.getD (p + i - p) 0 else _) = _
      rw [if_pos (by omega), Nat.add_sub_cancel_left]
    · rw [List.getElem?_set_ne (Ne.symm he)]
      unfold mid
      rw [List.getElem?_map, List.getElem?_map, List.getElem?_range hj]
      show some (if p ≤ j ∧ j < p + (i + 1) then _ else _) = some (if p ≤ j ∧ j < p + i then _ else _)
      by_cases hc : p ≤ j ∧ j < p + i
      · rw [if_pos hc, if_pos (by omega)]
      · rw [if_neg hc, if_neg (by omega)]
  · rw [List.getElem?_eq_none (by rw [mid_len]; omega), List.getElem?_eq_none (by rw [List.length_set, mid_len]; omega)]
theorem mid_end (b : List Nat) (p : Nat) (t : List Nat) : mid b p t t.length = splice b p t := rfl
section
variable {h h' h2 : Hp} {q q' q2 : HQ} {s s' : RS} {nd : List NodeD} {b t : List Nat} {id : Nat} {R : Value → Hp → Prop}
theorem mem_one {c : Nat} {l : List Nat} (row : Row h c (l.map bv)) : ∃ M : Mem, M.loc 0 = some c ∧ Sep h M ∧ IsSl 1 M 0 ⟨some (ad c), l.length, l.length⟩ (l.map bv) ∧ ∀ d, M.own d → d = c := by
  have key : ∀ y d, (if y = 0 then some c else none : Option Nat) = some d → y = 0 ∧ d = c := fun y d hy => by
    split at hy
    · rename_i e; exact ⟨e, (Option.some.inj hy).symm⟩
    · cases hy
  refine ⟨⟨fun y => if y = 0 then some c else none, fun _ => l.map bv⟩, rfl, ⟨fun y d hy => ?_, fun y z d hy hz => ?_⟩, ⟨by simp, fun e => ?_, fun d e => ?_⟩, fun d ⟨y, hy⟩ => (key y d hy).2⟩
  · rw [(key y d hy).2]; exact row
  · rw [(key y d hy).1, (key z d hz).1]
  · have e : (some c : Option Nat) = none := e
    cases e
  · have e : some c = some d := e
    obtain rfl := Option.some.inj e
    exact ⟨rfl, Nat.le_refl _, [], by rw [List.append_nil], by simp⟩
theorem twrite_ok {tb : Nat} (x : HSt h q s) (sh : s.Shd nd) (B : s.IsB id b) (ok : Okb b) {p : Int} (hp : I64 p) (c0 : ∀ h', (∀ i, i = tb → h'[i]? = h[i]?) → cell h' ((ad tb).add 1) = some (.pointer (some (ad q.hb)))) (ot : q.role tb = .out) (htb : tb < h.size)
    {a : Sl} (sr : Src h q a t) (htl : t.length < 140737488355328) (rl : s.roots.length < 100000000)
    (hR : Does h q (s.writeF id b p t).1 (.tuple #[uv (s.writeF id b p t).2.1, .int .i64 (s.writeF id b p t).2.2]) R) :
    CallTo Try.prog 46 #[.pointer (some (ad tb)), uv (s.ref id), .int .i64 p, .slice a.a a.n a.c] h R := by
  have hl := ok.len
  have hrl := RS.ref_lt x.v (.inr B.here)
  have an := sr.n
  refine f46F_ok ?_
  unfold f46F
  unfold RS.writeF at hR
  have main : ∀ bb, bb = decide (p < 0 ∨ p > 4096) → f46K1 (some (ad tb)) ((s.ref id : Nat) : Int) p a bb h R := fun bb hbb => by
    unfold f46K1
    subst hbb
    refine Cond_dec (fun hc => ?_) fun hc => ?_
    · rw [if_pos hc] at hR
      exact hR h q x (Ex.refl _ _)
    rw [if_neg hc] at hR
    refine Cond_b (fun h0 => ?_) fun h0 => ?_
    · have h0 : t.length = 0 := by have := beq_iff_eq.1 h0; omega
      rw [if_pos h0] at hR
      exact hR h q x (Ex.refl _ _)
    have h0 : ¬ t.length = 0 := fun e => by rw [beq_eq_false_iff_ne] at h0; omega
    rw [if_neg h0] at hR
    rw [wrap_i64' (x := (4096 : Int) - p) (by omega) (by omega), an]
    refine Cond_dec (fun hb => ?_) fun hb => ?_
    · rw [if_pos (by omega)] at hR
      exact hR h q x (Ex.refl _ _)
    rw [if_neg (by omega)] at hR
    obtain ⟨pn, rfl⟩ : ∃ pn : Nat, p = (pn : Int) := ⟨p.toNat, by omega⟩
    rw [Int.toNat_natCast] at hR
    have hsum : pn + t.length ≤ 4096 := by omega
    have okS := okb_splice (p := pn) ok sr.b8 hsum
    have hSl := splice_len b pn t
    refine PtrOk_mk ⟨_, c0 h fun _ _ => rfl, hget_ok x.v x.rp hrl ⟨_, _, rfl, PtrOk_mk ⟨_, c0 h fun _ _ => rfl, ?_⟩⟩⟩
    have eg := IsB.len x.v B ok
    have eg' : s.getF (s.ref id) (0 : Int) = (b.length, 0) := eg
    rw [eg']
    have ew : IntKind.wrap .i64 ((b.length : Nat) : Int) = ((b.length : Nat) : Int) := wrap_i64' (by omega) (by omega)
    show CallTo Try.prog 33 #[.pointer (some (ad q.hb)), uv (s.ref id), .int .i64 8, .int .i64 (IntKind.wrap .i64 ((b.length : Nat) : Int))] h _
    rw [ew]
    refine hbytes_ok x.v x.rp hrl (f := 8) (n := ((b.length : Nat) : Int)) (by omega) (by omega) (by omega) (by omega) (fun hno => absurd ?_ hno) fun c h1 hs row hcs k1 => ⟨⟨some (ad c), b.length, b.length⟩, _, by rw [Int.toNat_natCast], ?_⟩
    · unfold RS.spanOk
      rw [RS.ident_ref x.v (.inr B.here), RS.raws_len B ok]
      refine ⟨B.nz, by omega, by omega, ?_⟩
      unfold wordsN
      omega
    rw [RS.ident_ref x.v (.inr B.here), B.raws, Int.toNat_natCast] at row
    have er : ((List.range b.length).map fun j => bv (byteAt (blobRaws b) ((8 : Int).toNat + j))) = b.map bv := by
      have := ok.is.read
      conv => rhs; rw [← this]
      rw [List.map_map]
      rfl
    rw [er] at row
    obtain ⟨M1, l1, sp1, sl1, own1'⟩ := mem_one row
    have own1 : ∀ d, M1.own d → h.size ≤ d := fun d hd => by rw [own1' d hd]; exact hcs
    have sa : Src h q ⟨a.a, t.length, a.c⟩ t := ⟨sr.rd, rfl, sr.b8, sr.out⟩
    refine f46L1_rule (s3 := ⟨a.a, t.length, a.c⟩) (s12 := ⟨some (ad c), b.length, b.length⟩) (fun m s0 s1 s2 s3 s10 s12 h' => ∃ (k : Nat) (M : Mem), b.length + k ≤ max b.length (pn + t.length) ∧ m = max b.length (pn + t.length) - (b.length + k) ∧ s0 = some (ad tb) ∧ s1 = ((s.ref id : Nat) : Int) ∧ s2 = ((pn : Nat) : Int) ∧ ⟨a.a, t.length, a.c⟩ = s3 ∧ s10 = ((b.length : Nat) : Int) ∧
        IsSl 1 M 0 s12 ((b ++ List.replicate k 0).map bv) ∧ Sep h' M ∧ (∀ d, M.own d → h.size ≤ d) ∧ Kept N h h') (max b.length (pn + t.length) - b.length)
      ⟨0, M1, by omega, by rw [Nat.add_zero], rfl, rfl, rfl, rfl, rfl, by simpa using sl1, sp1, own1, k1⟩ ?_
    clear sl1 sp1 own1
    rintro m s0 s1 s2 s3 s10 s12 g h2 ⟨k, M, hk, rfl, rfl, rfl, rfl, rfl, rfl, sl2, sep2, own2, k2⟩
    unfold f46L1
    have ln : s12.n = b.length + k := by have := sl2.len; simp at this; omega
    have es : IntKind.wrap .i64 (((pn : Nat) : Int) + (((⟨a.a, t.length, a.c⟩ : Sl).n : Nat) : Int)) = ((pn + t.length : Nat) : Int) := by show IntKind.wrap .i64 (((pn : Nat) : Int) + ((t.length : Nat) : Int)) = _; rw [wrap_i64' (by omega) (by omega)]; omega
    rw [es]
    refine Cond_dec (fun hlt => ?_) fun hge => ?_
    · refine sl2.app1 sep2 rfl rfl (fun v hv => by simp at hv; rw [hv]; rfl) (by omega) (by omega) fun a' c' h3 ob cs sep3 sl3 ch3 => ?_
      refine ⟨max b.length (pn + t.length) - (b.length + (k + 1)), by omega, k + 1, _, by omega, rfl, rfl, rfl, rfl, rfl, rfl, ?_, sep3, fun d hd => ?_, ⟨Nat.le_trans k2.1 ch3.1.1, fun j hj _ => (ch3.1.2 j (Nat.lt_of_lt_of_le hj k2.1) fun ho => by have := own2 j ho; omega).trans (k2.2 j hj _root_.id)⟩⟩
      · have e : (b ++ List.replicate k 0).map bv ++ #[Value.int .u8 0].toList = (b ++ List.replicate (k + 1) 0).map bv := by
          rw [List.replicate_succ', ← List.append_assoc, List.map_append (l₁ := b ++ List.replicate k 0)]
          rfl
        rw [e] at sl3
        exact sl3
      · rcases ch3.2 d hd with hd | hd
        · exact own2 d hd
        · exact Nat.le_trans k2.1 hd
    · have hke : k = max b.length (pn + t.length) - b.length := by omega
      subst hke
      rw [← mid_zero] at sl2
      have lnM : s12.n = max b.length (pn + t.length) := by omega
      clear hge hk
      refine f46L2_rule (s3 := ⟨a.a, t.length, a.c⟩) (s12 := s12) (fun m s0 s1 s2 s3 s10 s12' s14 h' => ∃ (i : Nat) (M : Mem), i ≤ t.length ∧ m = t.length - i ∧ s0 = some (ad tb) ∧ s1 = ((s.ref id : Nat) : Int) ∧ s2 = ((pn : Nat) : Int) ∧ ⟨a.a, t.length, a.c⟩ = s3 ∧ s10 = ((b.length : Nat) : Int) ∧ s12 = s12' ∧ s14 = (i : Int) ∧
          IsSl 1 M 0 s12 ((mid b pn t i).map bv) ∧ Sep h' M ∧ (∀ d, M.own d → h.size ≤ d) ∧ Kept N h h') t.length
        ⟨0, M, Nat.zero_le _, rfl, rfl, rfl, rfl, rfl, rfl, rfl, rfl, sl2, sep2, own2, k2⟩ ?_
      clear sl2 sep2 own2 k2 M
      rintro m s0 s1 s2 s3 s10 s12' s14 g2 h3 ⟨i, M, hi, rfl, rfl, rfl, rfl, rfl, rfl, rfl, rfl, sl3, sep3, own3, k3⟩
      unfold f46L2
      refine Cond_dec (fun hlt => ?_) fun hge => ?_
      · have hlt : ((i : Nat) : Int) < ((t.length : Nat) : Int) := hlt
        have hil : i < t.length := by omega
        obtain ⟨pa, hpa, hcell⟩ := readsO_get (reads_keptN k3 sr.rd) (i := i) (v := bv (t.getD i 0)) (by rw [List.getElem?_map, List.getD_eq_getElem?_getD, List.getElem?_eq_getElem hil]; rfl)
        have ei : IntKind.wrap .i64 (((pn : Nat) : Int) + ((i : Nat) : Int)) = ((pn + i : Nat) : Int) := by rw [wrap_i64' (by omega) (by omega)]; omega
        rw [ei]
        have hmx : pn + i < s12.n := by rw [lnM]; omega
        obtain ⟨d, hd1, hd2⟩ := sl3.some_of (fun e => by have := congrArg List.length e; rw [List.length_map, mid_len, List.length_nil] at this; omega)
        refine ⟨⟨by omega, hlt⟩, PtrOk_of hpa ⟨((t.getD i 0 : Nat) : Int), by rw [Int.toNat_natCast, Nat.mul_one]; exact hcell, ⟨by omega, Int.ofNat_lt.2 hmx⟩, PtrOk_of hd2 ?_⟩⟩
        rw [Int.toNat_natCast, Nat.mul_one]
        obtain ⟨z1, z2⟩ := sl3.set hd1 (bv (t.getD i 0)) (o := pn + i) (by rw [List.length_map, mid_len]; omega)
        refine sep3.st hd1 (add_ad _ _) z1 fun h4 sep4 ch4 => ?_
        refine ⟨t.length - (i + 1), by omega, i + 1, _, hil, rfl, rfl, rfl, rfl, rfl, rfl, rfl, by rw [wrap_i64' (by omega) (by omega)]; rfl, ?_, sep4, fun e he => ?_, ⟨Nat.le_trans k3.1 ch4.1.1, fun j hj _ => (ch4.1.2 j (Nat.lt_of_lt_of_le hj k3.1) fun ho => by have := own3 j ho; omega).trans (k3.2 j hj _root_.id)⟩⟩
        · rw [mid_succ hil, List.map_set]
          exact z2
        · rcases ch4.2 e he with he | he
          · exact own3 e he
          · exact Nat.le_trans k3.1 he
      · have hge : ¬ ((i : Nat) : Int) < ((t.length : Nat) : Int) := hge
        have hie : i = t.length := by omega
        subst hie
        rw [mid_end] at sl3
        have lnS : s12.n = (splice b pn t).length := by rw [hSl]; exact lnM
        have kT : ∀ {h' q'}, Ex h3 q h' q' → ∀ i, i = tb → h'[i]? = h[i]? := fun {h' q'} e i hi => by subst hi; exact ((e.2.2 _ (Nat.lt_of_lt_of_le htb k3.1) ot).2).trans (k3.2 _ htb _root_.id)
        have x3 := x.keepN k3
        have e03 : Ex h q h3 q := Ex.of_kept k3 fun b hb => x.fr hb
        have srcS : Src h3 q ⟨s12.a, (splice b pn t).length, s12.c⟩ (splice b pn t) := ⟨slAt_reads (sl3.slAt sep3), rfl, okS.b8, fun z hz hn => by
          obtain ⟨d, hd1, hd2⟩ := sl3.some_of (fun e => hn (List.map_eq_nil_iff.1 e))
          have hz : s12.a = some z := hz
          rw [hd2] at hz
          obtain rfl := Option.some.inj hz
          exact ⟨x.fr (own3 d ⟨0, hd1⟩), sep3.lt hd1⟩⟩
        have ew2 : IntKind.wrap .i64 ((b.length : Nat) : Int) = ((b.length : Nat) : Int) := ew
        rw [lnS, ew2]
        have okl := okS.len
        refine words2_ok (by omega) ⟨_, rfl, words2_ok (by omega) ⟨_, rfl, Cond_b (fun hw => ?_) fun hw => ?_⟩⟩
        · have hw : wordsN (splice b pn t).length = wordsN b.length := by have := beq_iff_eq.1 hw; omega
          rw [if_pos (by rw [← hSl]; exact hw)] at hR
          have ewS : IntKind.wrap .u64 (((splice b pn t).length : Nat) : Int) = (((splice b pn t).length : Nat) : Int) := wrap_u64' (by omega) (by omega)
          rw [ewS]
          obtain ⟨q1, q2⟩ := RS.set_bytes x.v B ok (m := (splice b pn t).length) (p := 0) (t := splice b pn t) (by omega) (by unfold wordsN at hw ⊢; omega) okS.b8
          refine PtrOk_mk ⟨_, c0 h3 (kT (Ex.refl _ _)), c_set x3 hrl (by omega) fun h4 q4 x4 ex4 => ⟨_, rfl, PtrOk_mk ⟨_, c0 h4 (kT ex4), ?_⟩⟩⟩
          rw [q1] at x4
          have src4 := srcS.ex ex4
          rw [← ex4.1]
          refine c_setbytes (f := 8) (a := ⟨s12.a, (splice b pn t).length, s12.c⟩) x4 hrl (by omega) (by omega) src4.rd rfl okS.b8 (fun z hz hn => (src4.out z hz hn).1) (by omega) fun h5 q5 x5 ex5 => ⟨_, rfl, hR h5 q5 ?_ ((e03.trans ex4).trans ex5)⟩
          have e8 : ((8 + 0 : Nat) : Int) = (8 : Int) := rfl
          rw [e8] at q2
          rw [q2] at x5
          have eo : putBytes ((blobRaws b).set 0 (splice b pn t).length) (8 + 0) (splice b pn t) = blobRaws (splice b pn t) := (ok.is.over okS.b8 hw (by omega) (by omega)).uniq okS.is
          rw [eo] at x5
          exact x5
        · have hw : ¬ wordsN (splice b pn t).length = wordsN b.length := fun e => by rw [e, beq_self_eq_true] at hw; cases hw
          rw [if_neg (by rw [← hSl]; exact hw)] at hR
          have er2 := rootF_good x.v (id := id) (.inr B.here)
          refine PtrOk_mk ⟨_, c0 h3 (kT (Ex.refl _ _)), c_root x3 rl hrl fun h5 q5 x5 ex5 => ⟨_, _, rfl, num_ok ⟨_, rfl, Cond_f (by rw [er2]; rfl) ?_⟩⟩⟩
          have sh1 : (s.rootF (s.ref id)).1.Shd nd := by rw [er2]; exact sh.roots _
          have htb5 : tb < h5.size := by have := ex5.2.1; have := k3.1; omega
          have ot5 : q5.role tb = .out := ex5.out (Nat.lt_of_lt_of_le htb k3.1) ot
          have c5 : ∀ h', (∀ i, i = tb → h'[i]? = h5[i]?) → cell h' ((ad tb).add 1) = some (.pointer (some (ad q5.hb))) := fun h' hh => by
            rw [ex5.1]
            exact c0 h' fun i hi => (hh i hi).trans (kT ex5 i hi)
          have enf : ∀ z : RS, z.newF [splice b pn t] = z.layF (splice b pn t) := fun z => by
            unfold RS.newF
            have e : ([splice b pn t] : List (List Nat)).flatten = splice b pn t := by simp
            rw [e, if_neg (by omega)]
          refine tlay_ok (v0 := .bool true) (a := ⟨s12.a, (splice b pn t).length, s12.c⟩) x5 sh1 c5 ot5 htb5 (srcS.ex ex5) (by omega) fun h6 q6 x6 ex6 => ⟨_, _, rfl, PtrOk_mk ⟨some (ad q6.hb), ?_, ?_⟩⟩
          · rw [ex6.1]
            exact c5 h6 fun i hi => by subst hi; exact (ex6.2.2 _ htb5 ot5).2
          · rw [enf] at x6 ⊢
            exact c_drop x6 fun h7 q7 x7 ex7 => ⟨_, rfl, hR h7 q7 x7 (((e03.trans ex5).trans ex6).trans ex7)⟩
  refine Cond_dec (fun hc => main _ (decide_eq_true (.inl hc)).symm) fun hc => main _ ?_
  by_cases hd : p > 4096
  · rw [decide_eq_true hd, decide_eq_true (.inr hd)]
  · rw [decide_eq_false hd, decide_eq_false (by omega)]
end
end Go.Ev
set_option linter.all false
set_option maxRecDepth 1000000
namespace Go.Ev
open Go.Proofs
namespace RS
theorem freeAt_none : ∀ l : List (Option Nat), freeAt l < l.length → l[freeAt l]? = some none
  | [], h => by simp at h
  | none :: l, _ => rfl
  | some x :: l, h => by
    have h : freeAt l + 1 < l.length + 1 := h
    show (some x :: l)[freeAt l + 1]? = _
    rw [List.getElem?_cons_succ]
    exact freeAt_none l (by omega)
theorem hand_nat {s : RS} {n : Nat} {x : Nat} : s.hand (n : Int) = some x ↔ 1 ≤ n ∧ s.roots[n - 1]? = some (some x) := by
  unfold hand
  constructor
  · intro h
    split at h
    · rename_i hc
      have e : ((n : Int) - 1).toNat = n - 1 := by omega
      rw [e, List.getD_eq_getElem?_getD] at h
      cases hr : s.roots[n - 1]? with
      | none => rw [hr] at h; cases h
      | some o => rw [hr] at h; have h : o = some x := h; exact ⟨by omega, by rw [h]⟩
    · cases h
  · rintro ⟨h1, h2⟩
    have hl := (List.getElem?_eq_some_iff.1 h2).1
    have e : ((n : Int) - 1).toNat = n - 1 := by omega
    rw [if_pos ⟨by omega, by omega⟩, e, List.getD_eq_getElem?_getD, h2]
    rfl
end RS
/-- What a call leaves of what is held. -/
structure Out (s : RS) (nd : List NodeD) (s' : RS) (nd' : List NodeD) : Prop where
  v : s'.Inv
  sh : s'.Shd nd'
  hands : ∀ n x : Nat, s.hand (n : Int) = some x → s'.hand (n : Int) = some x
  blobs : ∀ (i : Nat) (b : List Nat), Okb b → nd[i]? = some (blobN b) → ∃ b', Okb b' ∧ nd'[i]? = some (blobN b')
  rl : s'.roots.length ≤ s.roots.length + 1
/-- A ref at which a blob lies. -/
def AtB (s : RS) (nd : List NodeD) (r : Nat) : Prop := ∃ (j : Nat) (b : List Nat), r = s.ref j ∧ s.here j ∧ Okb b ∧ nd[j]? = some (blobN b)
section
variable {s s' t : RS} {nd nd' : List NodeD} {b tt : List Nat} {id : Nat}
theorem Out.refl (v : s.Inv) (sh : s.Shd nd) : Out s nd s nd := ⟨v, sh, fun _ _ h => h, fun i b o h => ⟨b, o, h⟩, Nat.le_succ _⟩
theorem hands_of_roots (e : s'.roots = s.roots) : ∀ n x : Nat, s.hand (n : Int) = some x → s'.hand (n : Int) = some x := fun n x h => by
  rw [RS.hand_nat] at h ⊢; rw [e]; exact h
theorem Out.sub (sh : s.Shd nd) (vt : t.Inv) (st : RS.Sub t s) : Out s nd t nd := ⟨vt, sh.sub st, hands_of_roots st.roots, fun i b o h => ⟨b, o, h⟩, by rw [st.roots]; omega⟩
theorem Out.grow (v' : s'.Inv) (sh' : s'.Shd nd') (er : s'.roots = s.roots) (g : Gr nd nd') : Out s nd s' nd' := ⟨v', sh', hands_of_roots er, fun i b o h => ⟨b, o, g i _ h⟩, by rw [er]; omega⟩
theorem lay_out (v : s.Inv) (sh : s.Shd nd) (ok : Okb b) : ∃ nd', Out s nd (s.layF b).1 nd' ∧ (s.layF b).1.roots = s.roots ∧ Gr nd nd' ∧ ((s.layF b).2.2 = 0 → AtB (s.layF b).1 nd' (s.layF b).2.1) := by
  obtain ⟨t, st, vt, e | ⟨s', e, v', sh', er, hh⟩⟩ := RS.lay_cases v sh ok
  · rw [e]
    exact ⟨nd, Out.sub sh vt st, st.roots, Gr.refl _, fun h => absurd h (by show ¬ ((31 : Int) = 0); omega)⟩
  · rw [e]
    exact ⟨_, Out.grow v' sh' er (Gr.app _ _), er, Gr.app _ _, fun _ => ⟨nd.length, b, rfl, (hh _).2 (.inl rfl), ok, by rw [List.getElem?_append_right (Nat.le_refl _), Nat.sub_self]; rfl⟩⟩
theorem new_out (v : s.Inv) (sh : s.Shd nd) {parts : List (List Nat)} (b8 : Bytes8 parts.flatten) : ∃ nd', Out s nd (s.newF parts).1 nd' ∧ ((s.newF parts).2.2 = 0 → AtB (s.newF parts).1 nd' (s.newF parts).2.1) := by
  unfold RS.newF
  split
  · exact ⟨nd, Out.refl v sh, fun h => absurd h (by show ¬ ((41 : Int) = 0); omega)⟩
  · obtain ⟨nd', o, _, _, a⟩ := lay_out v sh (b := parts.flatten) ⟨b8, by omega⟩
    exact ⟨nd', o, a⟩
theorem write_out (v : s.Inv) (sh : s.Shd nd) (hh : s.here id) (hn : nd[id]? = some (blobN b)) (ok : Okb b) (ht : Bytes8 tt) (p : Int) (hrl : s.roots.length < 100000000) : ∃ nd', Out s nd (s.writeF id b p tt).1 nd' ∧ ((s.writeF id b p tt).2.2 = 0 → AtB (s.writeF id b p tt).1 nd' (s.writeF id b p tt).2.1) := by
  have B := blob_node v sh hh hn
  have hlt : id < nd.length := (List.getElem?_eq_some_iff.1 hn).1
  unfold RS.writeF
  split
  · exact ⟨nd, Out.refl v sh, fun h => absurd h (by show ¬ ((42 : Int) = 0); omega)⟩
  rename_i hc
  split
  · exact ⟨nd, Out.refl v sh, fun _ => ⟨id, b, rfl, hh, ok, hn⟩⟩
  split
  · exact ⟨nd, Out.refl v sh, fun h => absurd h (by show ¬ ((41 : Int) = 0); omega)⟩
  have hsum : p.toNat + tt.length ≤ 4096 := by omega
  have okS := okb_splice (p := p.toNat) ok ht hsum
  split
  · rename_i hw
    have hlr : (blobRaws (splice b p.toNat tt)).length = (s.obj id).raws.length := by rw [okS.is.len, splice_len, hw, RS.raws_len B ok]
    refine ⟨nd.set id (blobN (splice b p.toNat tt)), ⟨v.inPl hh hlr okS.is.lt, sh.inPl v hh B, fun _ _ h => h, fun i b' o h => ?_, Nat.le_succ _⟩, fun _ => ⟨id, _, (RS.inPl_ref v hh hlr id).symm, hh, okS, List.getElem?_set_self hlt⟩⟩
    by_cases hi : i = id
    · subst hi; exact ⟨_, okS, List.getElem?_set_self hlt⟩
    · exact ⟨b', o, by rw [List.getElem?_set_ne (Ne.symm hi)]; exact h⟩
  · have er := rootF_good v (id := id) (.inr hh)
    generalize hk : RS.freeAt s.roots = k at er
    have hkl : k ≤ s.roots.length := by rw [← hk]; exact RS.freeAt_le _
    generalize hR1 : (if k < s.roots.length then s.roots.set k (some id) else s.roots ++ [some id]) = R1 at er
    have r1 : ∀ n x : Nat, s.roots[n]? = some (some x) → n ≠ k ∧ R1[n]? = some (some x) := fun n x h => by
      have hn' : n ≠ k := fun e => by
        rw [e] at h
        by_cases hlt' : k < s.roots.length
        · have := RS.freeAt_none s.roots (by rw [hk]; exact hlt')
          rw [hk, h] at this; cases this
        · rw [List.getElem?_eq_none (by omega)] at h; cases h
      refine ⟨hn', ?_⟩
      rw [← hR1]
      split
      · rw [List.getElem?_set_ne (Ne.symm hn')]; exact h
      · rw [List.getElem?_append_left (List.getElem?_eq_some_iff.1 h).1]; exact h
    have rk : R1[k]? = some (some id) := by
      rw [← hR1]
      split
      · rename_i hl; rw [List.getElem?_set_self hl]
      · rename_i hl; rw [List.getElem?_append_right (by omega), show k - s.roots.length = 0 by omega]; rfl
    have rlen : R1.length ≤ s.roots.length + 1 := by
      rw [← hR1]
      split
      · rw [List.length_set]; omega
      · simp
    have rin : ∀ x, some x ∈ R1 → x = 0 ∨ s.here x := fun x hx => by
      rw [← hR1] at hx
      split at hx
      · rcases List.mem_or_eq_of_mem_set hx with h | h
        · exact v.rt x h
        · rw [Option.some.inj h]; exact .inr hh
      · rcases List.mem_append.1 hx with h | h
        · exact v.rt x h
        · have : some x = some id := by simpa using h
          rw [Option.some.inj this]; exact .inr hh
    rw [er]
    have v1 : (s.withRoots R1).Inv := v.withRoots rin (by omega)
    obtain ⟨nd', o, ort, gr, a⟩ := lay_out v1 (sh.roots R1) okS
    generalize hL : (s.withRoots R1).layF (splice b p.toNat tt) = L at o ort a
    have ort : L.1.roots = R1 := ort
    have hd : L.1.dropF ((k + 1 : Nat) : Int) = (L.1.withRoots (R1.set k none), 0) := by
      unfold RS.dropF
      have : L.1.hand ((k + 1 : Nat) : Int) = some id := RS.hand_nat.2 ⟨by omega, by rw [ort]; exact rk⟩
      rw [this]
      have e : (((k + 1 : Nat) : Int) - 1).toNat = k := by omega
      rw [e, ort]
    show ∃ nd', Out s nd (L.1.dropF ((k + 1 : Nat) : Int)).1 nd' ∧ (L.2.2 = 0 → AtB (L.1.dropF ((k + 1 : Nat) : Int)).1 nd' L.2.1)
    rw [hd]
    have vd : (L.1.withRoots (R1.set k none)).Inv := by have := o.v.drop ((k + 1 : Nat) : Int); rw [hd] at this; exact this
    refine ⟨nd', ⟨vd, o.sh.roots _, fun n x h => ?_, o.blobs, by show (R1.set k none).length ≤ _; rw [List.length_set]; exact rlen⟩, a⟩
    rw [RS.hand_nat] at h ⊢
    obtain ⟨q1, q2⟩ := r1 _ _ h.2
    exact ⟨h.1, by show (R1.set k none)[n - 1]? = _; rw [List.getElem?_set_ne (Ne.symm q1)]; exact q2⟩
/-! ### What the slots hold -/
structure SlotsOk (s : RS) (nd : List NodeD) (hd : List Nat) : Prop where
  len : hd.length = 8
  at_ : ∀ n ∈ hd, n ≠ 0 → ∃ (i : Nat) (b : List Nat), s.hand (n : Int) = some i ∧ i ≠ 0 ∧ Okb b ∧ nd[i]? = some (blobN b)
  dis : ∀ (i j n : Nat), hd[i]? = some n → hd[j]? = some n → n ≠ 0 → i = j
theorem SlotsOk.out {hd : List Nat} (k : SlotsOk s nd hd) (o : Out s nd s' nd') : SlotsOk s' nd' hd := ⟨k.len, fun n hn h0 => by
  obtain ⟨i, b, h1, hi, h2, h3⟩ := k.at_ n hn h0
  obtain ⟨b', ok', h4⟩ := o.blobs i b h2 h3
  exact ⟨i, b', o.hands n i h1, hi, ok', h4⟩, k.dis⟩
theorem slot_here {hd : List Nat} (v : s.Inv) (sh : s.Shd nd) (k : SlotsOk s nd hd) {n : Nat} (hn : n ∈ hd) (h0 : n ≠ 0) : ∃ (i : Nat) (b : List Nat), s.hand (n : Int) = some i ∧ s.here i ∧ Okb b ∧ nd[i]? = some (blobN b) ∧ s.atF (n : Int) = (s.ref i, 0) ∧ s.IsB i b := by
  obtain ⟨i, b, h1, hi, h2, h3⟩ := k.at_ n hn h0
  have hh : s.here i := (RS.hand_here v h1).resolve_left hi
  exact ⟨i, b, h1, hh, h2, h3, by unfold RS.atF; rw [h1], blob_node v sh hh h3⟩
/-- A slot's handle leads elsewhere. -/
theorem put_slots {hd : List Nat} (v : s.Inv) (sh : s.Shd nd) (k : SlotsOk s nd hd) {n r : Nat} (hn : n ∈ hd) (h0 : n ≠ 0) (a : AtB s nd r) : ∃ R1, s.putF (n : Int) r = (s.withRoots R1, 0) ∧ (s.withRoots R1).Inv ∧ SlotsOk (s.withRoots R1) nd hd ∧ R1.length = s.roots.length := by
  obtain ⟨j, b, rfl, hj, ok, hnj⟩ := a
  obtain ⟨i, b0, h1, hi, _⟩ := k.at_ n hn h0
  have B := blob_node v sh hj hnj
  have e : s.putF (n : Int) (s.ref j) = (s.withRoots (s.roots.set (n - 1) (some j)), 0) := by
    unfold RS.putF
    rw [h1]
    have e1 : ((n : Int) - 1).toNat = n - 1 := by omega
    simp only [RS.good_ref v (.inr hj), if_true, RS.ident_ref v (.inr hj), e1]
  have h2 := RS.hand_nat.1 h1
  have hl := (List.getElem?_eq_some_iff.1 h2.2).1
  refine ⟨_, e, by have := v.put (n : Int) (s.ref j); rw [e] at this; exact this, ⟨k.len, fun m hm hm0 => ?_, k.dis⟩, by rw [List.length_set]⟩
  by_cases hmn : m = n
  · subst hmn
    exact ⟨j, b, RS.hand_nat.2 ⟨h2.1, by show (s.roots.set (m - 1) (some j))[m - 1]? = _; rw [List.getElem?_set_self hl]⟩, B.nz, ok, hnj⟩
  · obtain ⟨i', b', g1, g2, g3, g4⟩ := k.at_ m hm hm0
    have g5 := RS.hand_nat.1 g1
    exact ⟨i', b', RS.hand_nat.2 ⟨g5.1, by show (s.roots.set (n - 1) (some j))[m - 1]? = _; rw [List.getElem?_set_ne (by omega)]; exact g5.2⟩, g2, g3, g4⟩
/-- A slot takes a new handle. -/
theorem root_slots {hd : List Nat} (v : s.Inv) (sh : s.Shd nd) (k : SlotsOk s nd hd) {r i : Nat} (hi : i < 8) (a : AtB s nd r) (hrl : s.roots.length < 100000000) : ∃ R1 m, s.rootF r = (s.withRoots R1, m, 0) ∧ (s.withRoots R1).Inv ∧ SlotsOk (s.withRoots R1) nd (hd.set i m) ∧ R1.length ≤ s.roots.length + 1 := by
  obtain ⟨j, b, rfl, hj, ok, hnj⟩ := a
  have B := blob_node v sh hj hnj
  have er := rootF_good v (id := j) (.inr hj)
  generalize hk : RS.freeAt s.roots = q at er
  have hkl : q ≤ s.roots.length := by rw [← hk]; exact RS.freeAt_le _
  generalize hR1 : (if q < s.roots.length then s.roots.set q (some j) else s.roots ++ [some j]) = R1 at er
  have r1 : ∀ n x : Nat, s.roots[n]? = some (some x) → n ≠ q ∧ R1[n]? = some (some x) := fun n x h => by
    have hn' : n ≠ q := fun e => by
      rw [e] at h
      by_cases hlt' : q < s.roots.length
      · have := RS.freeAt_none s.roots (by rw [hk]; exact hlt')
        rw [hk, h] at this; cases this
      · rw [List.getElem?_eq_none (by omega)] at h; cases h
    refine ⟨hn', ?_⟩
    rw [← hR1]
    split
    · rw [List.getElem?_set_ne (Ne.symm hn')]; exact h
    · rw [List.getElem?_append_left (List.getElem?_eq_some_iff.1 h).1]; exact h
  have rk : R1[q]? = some (some j) := by
    rw [← hR1]
    split
    · rename_i hl; rw [List.getElem?_set_self hl]
    · rename_i hl; rw [List.getElem?_append_right (by omega), show q - s.roots.length = 0 by omega]; rfl
  have rlen : R1.length ≤ s.roots.length + 1 := by
    rw [← hR1]
    split
    · rw [List.length_set]; omega
    · simp
  have v1 : (s.withRoots R1).Inv := by have := v.root (r := s.ref j) hrl; rw [er] at this; exact this
  have hq : (s.withRoots R1).hand ((q + 1 : Nat) : Int) = some j := RS.hand_nat.2 ⟨by omega, rk⟩
  have other : ∀ n ∈ hd, n ≠ 0 → n ≠ q + 1 ∧ ∃ (i : Nat) (b : List Nat), (s.withRoots R1).hand (n : Int) = some i ∧ i ≠ 0 ∧ Okb b ∧ nd[i]? = some (blobN b) := fun n hn h0 => by
    obtain ⟨i', b', g1, g2, g3, g4⟩ := k.at_ n hn h0
    have g5 := RS.hand_nat.1 g1
    obtain ⟨z1, z2⟩ := r1 _ _ g5.2
    exact ⟨by omega, i', b', RS.hand_nat.2 ⟨g5.1, z2⟩, g2, g3, g4⟩
  refine ⟨R1, q + 1, er, v1, ⟨by rw [List.length_set]; exact k.len, fun n hn h0 => ?_, fun x y n hx hy h0 => ?_⟩, rlen⟩
  · rcases List.mem_or_eq_of_mem_set hn with h | h
    · exact (other n h h0).2
    · rw [h]; exact ⟨j, b, hq, B.nz, ok, hnj⟩
  · have il : i < hd.length := by rw [k.len]; exact hi
    by_cases hxi : x = i <;> by_cases hyi : y = i
    · rw [hxi, hyi]
    · subst hxi
      rw [List.getElem?_set_self il] at hx
      rw [List.getElem?_set_ne (Ne.symm hyi)] at hy
      have := (other n (List.mem_of_getElem? hy) h0).1
      exact absurd (Option.some.inj hx).symm this
    · subst hyi
      rw [List.getElem?_set_self il] at hy
      rw [List.getElem?_set_ne (Ne.symm hxi)] at hx
      have := (other n (List.mem_of_getElem? hx) h0).1
      exact absurd (Option.some.inj hy).symm this
    · rw [List.getElem?_set_ne (Ne.symm hxi)] at hx
      rw [List.getElem?_set_ne (Ne.symm hyi)] at hy
      exact k.dis x y n hx hy h0
/-- A slot lets go. -/
theorem drop_slots {hd : List Nat} (v : s.Inv) (k : SlotsOk s nd hd) {n i : Nat} (hi : hd[i]? = some n) (h0 : n ≠ 0) : ∃ R1, s.dropF (n : Int) = (s.withRoots R1, 0) ∧ (s.withRoots R1).Inv ∧ SlotsOk (s.withRoots R1) nd (hd.set i 0) ∧ R1.length = s.roots.length := by
  have hn := List.mem_of_getElem? hi
  have il := (List.getElem?_eq_some_iff.1 hi).1
  obtain ⟨j, b0, h1, _⟩ := k.at_ n hn h0
  have e : s.dropF (n : Int) = (s.withRoots (s.roots.set (n - 1) none), 0) := by
    unfold RS.dropF
    rw [h1]
    have e1 : ((n : Int) - 1).toNat = n - 1 := by omega
    simp only [e1]
  have v1 : (s.withRoots (s.roots.set (n - 1) none)).Inv := by have := v.drop (n : Int); rw [e] at this; exact this
  refine ⟨_, e, v1, ⟨by rw [List.length_set]; exact k.len, fun m hm hm0 => ?_, fun x y m hx hy hm0 => ?_⟩, by rw [List.length_set]⟩
  · obtain ⟨x, hx⟩ := List.mem_iff_getElem?.1 hm
    by_cases hxi : x = i
    · subst hxi
      rw [List.getElem?_set_self il] at hx
      exact absurd (Option.some.inj hx).symm hm0
    · rw [List.getElem?_set_ne (Ne.symm hxi)] at hx
      obtain ⟨i', b', g1, g2, g3, g4⟩ := k.at_ m (List.mem_of_getElem? hx) hm0
      have g5 := RS.hand_nat.1 g1
      have hmn : m ≠ n := fun e2 => hxi (k.dis x i n (e2 ▸ hx) hi h0)
      have h2 := RS.hand_nat.1 h1
      exact ⟨i', b', RS.hand_nat.2 ⟨g5.1, by show (s.roots.set (n - 1) none)[m - 1]? = _; rw [List.getElem?_set_ne (by omega)]; exact g5.2⟩, g2, g3, g4⟩
  · by_cases hxi : x = i
    · subst hxi
      rw [List.getElem?_set_self il] at hx
      exact absurd (Option.some.inj hx).symm hm0
    · by_cases hyi : y = i
      · subst hyi
        rw [List.getElem?_set_self il] at hy
        exact absurd (Option.some.inj hy).symm hm0
      · rw [List.getElem?_set_ne (Ne.symm hxi)] at hx
        rw [List.getElem?_set_ne (Ne.symm hyi)] at hy
        exact k.dis x y m hx hy hm0
theorem zero_slots {hd : List Nat} (k : SlotsOk s nd hd) {i : Nat} (hi : hd[i]? = some 0) : hd.set i 0 = hd := by
  apply List.ext_getElem?
  intro j
  by_cases h : j = i
  · subst h; rw [List.getElem?_set_self (List.getElem?_eq_some_iff.1 hi).1, hi]
  · rw [List.getElem?_set_ne (Ne.symm h)]
end
/-! ### The two heaps in memory -/
def Foot (tb : Nat) (q1 q2 : HQ) (b : Nat) : Prop := b = tb ∨ q1.role b ≠ .out ∨ q2.role b ≠ .out
def Tc (h : Hp) (F : Nat → Prop) (h' : Hp) (F' : Nat → Prop) : Prop := Kept F h h' ∧ ∀ b, F' b → F b ∨ h.size ≤ b
theorem Tc.refl (h : Hp) (F : Nat → Prop) : Tc h F h F := ⟨Kept.refl _ _, fun _ => .inl⟩
theorem Tc.trans {h h' h2 : Hp} {F F' F2 : Nat → Prop} (a : Tc h F h' F') (b : Tc h' F' h2 F2) : Tc h F h2 F2 :=
  ⟨⟨Nat.le_trans a.1.1 b.1.1, fun i hi hn => (b.1.2 i (Nat.lt_of_lt_of_le hi a.1.1) fun o => (a.2 i o).elim hn fun h => by omega).trans (a.1.2 i hi hn)⟩,
    fun i o => (b.2 i o).elim (a.2 i) fun h => .inr (Nat.le_trans a.1.1 h)⟩
theorem Tc.keepN {h h' : Hp} {F : Nat → Prop} (k : Kept N h h') : Tc h F h' F := ⟨k.mono fun _ _ e => e.elim, fun _ => .inl⟩
theorem Tc.row {h h' : Hp} {F F' : Nat → Prop} (t : Tc h F h' F') {c : Nat} {cs : List Value} (r : Row h c cs) (nf : ¬ F c) : Row h' c cs ∧ ¬ F' c := ⟨kept_row t.1 r nf, fun hf => (t.2 c hf).elim nf fun e => by have := row_lt r; omega⟩
def twC (q1 q2 : HQ) (hd : List Nat) : List Value := [.pointer (some (ad q1.hb)), .pointer (some (ad q2.hb))] ++ hd.map nv
structure TwM (h : Hp) (tb : Nat) (q1 q2 : HQ) (s1 s2 : RS) (hd : List Nat) : Prop where
  x1 : HSt h q1 s1
  x2 : HSt h q2 s2
  row : Row h tb (twC q1 q2 hd)
  sep : ∀ b, q1.role b ≠ .out → q2.role b = .out
  o1 : q1.role tb = .out
  o2 : q2.role tb = .out
section
variable {h h' : Hp} {tb : Nat} {q1 q2 q1' q2' : HQ} {s1 s2 s1' s2' : RS} {hd : List Nat}
theorem TwM.keepN (m : TwM h tb q1 q2 s1 s2 hd) (k : Kept N h h') : TwM h' tb q1 q2 s1 s2 hd := ⟨m.x1.keepN k, m.x2.keepN k, kept_row k m.row id, m.sep, m.o1, m.o2⟩
theorem TwM.c1 (m : TwM h tb q1 q2 s1 s2 hd) : cell h (ad tb) = some (.pointer (some (ad q1.hb))) := (cell_row m.row 0).trans rfl
theorem TwM.c2 (m : TwM h tb q1 q2 s1 s2 hd) : cell h ((ad tb).add 1) = some (.pointer (some (ad q2.hb))) := by rw [add_ad]; exact (cell_row m.row 1).trans rfl
theorem TwM.cH (m : TwM h tb q1 q2 s1 s2 hd) {i n : Nat} (hi : hd[i]? = some n) : cell h (((ad tb).add 2).add (i * 1)) = some (.int .i64 (n : Nat)) := by
  rw [add_add, Nat.mul_one, add_ad]
  refine (cell_row m.row (2 + i)).trans ?_
  unfold twC
  rw [List.getElem?_append_right (by simp), List.getElem?_map]
  show (hd[2 + i - 2]?).map nv = _
  rw [Nat.add_sub_cancel_left, hi]
  rfl
theorem TwM.left (m : TwM h tb q1 q2 s1 s2 hd) (x : HSt h' q1' s1') (e : Ex h q1 h' q1') : TwM h' tb q1' q2 s1' s2 hd ∧ Tc h (Foot tb q1 q2) h' (Foot tb q1' q2) := by
  have htb := row_lt m.row
  have er : twC q1' q2 hd = twC q1 q2 hd := by unfold twC; rw [e.1]
  refine ⟨⟨x, ⟨m.x2.rp.keep e.kept fun b hb => m.sep b hb, m.x2.v⟩, by rw [er]; exact kept_row e.kept m.row fun hn => hn m.o1, fun b hb => ?_, e.out htb m.o1, m.o2⟩, e.kept.mono fun b _ hb => .inr (.inl hb), fun b hb => ?_⟩
  · by_cases hl : h.size ≤ b
    · exact m.x2.fr hl
    · exact m.sep b fun ho => hb (e.out (by omega) ho)
  · rcases hb with hb | hb | hb
    · exact .inl (.inl hb)
    · by_cases hl : h.size ≤ b
      · exact .inr hl
      · exact .inl (.inr (.inl fun ho => hb (e.out (by omega) ho)))
    · exact .inl (.inr (.inr hb))
theorem TwM.right (m : TwM h tb q1 q2 s1 s2 hd) (x : HSt h' q2' s2') (e : Ex h q2 h' q2') : TwM h' tb q1 q2' s1 s2' hd ∧ Tc h (Foot tb q1 q2) h' (Foot tb q1 q2') := by
  have htb := row_lt m.row
  have er : twC q1 q2' hd = twC q1 q2 hd := by unfold twC; rw [e.1]
  refine ⟨⟨⟨m.x1.rp.keep e.kept fun b hb => Classical.byContradiction fun hn => hb (m.sep b hn), m.x1.v⟩, x, by rw [er]; exact kept_row e.kept m.row fun hn => hn m.o2, fun b hb => ?_, m.o1, e.out htb m.o2⟩, e.kept.mono fun b _ hb => .inr (.inr hb), fun b hb => ?_⟩
  · have hl : b < h.size := Nat.lt_of_not_le fun hl => hb (m.x1.fr hl)
    exact e.out hl (m.sep b hb)
  · rcases hb with hb | hb | hb
    · exact .inl (.inl hb)
    · exact .inl (.inr (.inl hb))
    · by_cases hl : h.size ≤ b
      · exact .inr hl
      · exact .inl (.inr (.inr fun ho => hb (e.out (by omega) ho)))
theorem TwM.setH (m : TwM h tb q1 q2 s1 s2 hd) {i : Nat} (hi : i < hd.length) (n : Nat) {K : Hp → Prop} (hK : ∀ h', TwM h' tb q1 q2 s1 s2 (hd.set i n) → Tc h (Foot tb q1 q2) h' (Foot tb q1 q2) → K h') :
    stOk h (((ad tb).add 2).add (i * 1)) ∧ Let (setc h (((ad tb).add 2).add (i * 1)) (.int .i64 (n : Nat))) fun h' => K h' := by
  rw [add_add, Nat.mul_one]
  refine row_st m.row (i := 2 + i) (add_ad _ _) (by unfold twC; simp; omega) fun h' row k => hK h' ⟨⟨m.x1.rp.keep k fun b (e : b = tb) => by rw [e]; exact m.o1, m.x1.v⟩, ⟨m.x2.rp.keep k fun b (e : b = tb) => by rw [e]; exact m.o2, m.x2.v⟩, ?_, m.sep, m.o1, m.o2⟩ ⟨k.mono fun b _ e => .inl e, fun b hb => .inl hb⟩
  have e : (twC q1 q2 hd).set (2 + i) (.int .i64 (n : Nat)) = twC q1 q2 (hd.set i n) := by
    unfold twC
    rw [List.set_append_right _ _ (by simp)]
    show _ ++ (hd.map nv).set (2 + i - 2) (nv n) = _
    rw [Nat.add_sub_cancel_left, ← List.map_set]
  rw [e] at row
  exact row
end
end Go.Ev
set_option linter.all false
set_option maxRecDepth 1000000
namespace Go.Ev
open Go.Proofs
/-- What is known between the calls. -/
structure TwS (h : Hp) (tb : Nat) (q1 q2 : HQ) (s : RS) (nd : List NodeD) (hd : List Nat) : Prop where
  m : TwM h tb q1 q2 s s hd
  sh : s.Shd nd
  k : SlotsOk s nd hd
def Goes (h : Hp) (tb : Nat) (q1 q2 : HQ) (s : RS) (n : Nat) (v : Value) (R : Value → Hp → Prop) : Prop :=
  ∀ h' q1' q2' s' nd' hd', TwS h' tb q1' q2' s' nd' hd' → s'.roots.length ≤ s.roots.length + n → Tc h (Foot tb q1 q2) h' (Foot tb q1' q2') → R v h'
section
variable {h h' h2 : Hp} {tb : Nat} {q1 q2 q1' q2' : HQ} {s s' s1 s2 : RS} {nd nd' : List NodeD} {hd : List Nat} {R : Value → Hp → Prop}
theorem AtB.lt (v : s.Inv) {r : Nat} (a : AtB s nd r) : r < 18446744073709551616 := by
  obtain ⟨j, b, rfl, hj, _⟩ := a
  exact RS.ref_lt v (.inr hj)
theorem hold_ok (x : TwS h tb q1 q2 s nd hd) {i : Nat} (hi : i < 8) {r : Nat} (a : AtB s nd r) (rl : s.roots.length < 99999999) (hR : Goes h tb q1 q2 s 1 (.bool true) R) :
    CallTo Try.prog 44 #[.pointer (some (ad tb)), .int .i64 (i : Nat), uv r] h R := by
  obtain ⟨m, sh, k⟩ := x
  have v := m.x1.v
  have hrl := a.lt v
  have il : i < hd.length := by rw [k.len]; exact hi
  obtain ⟨n, hn⟩ : ∃ n, hd[i]? = some n := ⟨_, List.getElem?_eq_getElem il⟩
  have bnd : (0 : Int) ≤ ((i : Nat) : Int) ∧ ((i : Nat) : Int) < ((8 : Nat) : Int) := ⟨by omega, by omega⟩
  refine f44F_ok ?_
  unfold f44F
  rw [Int.toNat_natCast]
  refine PtrOk_mk ⟨bnd, _, m.cH hn, Cond_b (fun h0 => ?_) fun h0 => ?_⟩
  · have hn0 : n ≠ 0 := fun e => by rw [e] at h0; simp at h0
    obtain ⟨R1, eP, vP, kP, lP⟩ := put_slots v sh k (List.mem_of_getElem? hn) hn0 a
    refine PtrOk_mk ⟨_, m.c1, PtrOk_mk ⟨bnd, _, m.cH hn, c_put m.x1 hrl fun h1 q1' x1 ex1 => ⟨_, rfl, ?_⟩⟩⟩
    rw [eP] at x1
    obtain ⟨m1, t1⟩ := m.left x1 ex1
    refine PtrOk_mk ⟨_, m1.c2, PtrOk_mk ⟨bnd, _, m1.cH hn, c_put m1.x2 hrl fun h2 q2' x2 ex2 => ⟨_, rfl, ?_⟩⟩⟩
    rw [eP] at x2
    obtain ⟨m2, t2⟩ := m1.right x2 ex2
    refine num_ok ⟨_, rfl, num_ok ⟨_, rfl, ?_⟩⟩
    rw [beq_self_eq_true]
    exact hR h2 q1' q2' _ nd hd ⟨m2, sh.roots _, kP⟩ (by show R1.length ≤ _; omega) (t1.trans t2)
  · have hn0 : n = 0 := by simpa using h0
    obtain ⟨R1, mm, eP, vP, kP, lP⟩ := root_slots v sh k hi a (by omega)
    refine PtrOk_mk ⟨_, m.c1, c_root m.x1 (by omega) hrl fun h1 q1' x1 ex1 => ⟨_, _, rfl, ?_⟩⟩
    rw [eP] at x1
    obtain ⟨m1, t1⟩ := m.left x1 ex1
    refine PtrOk_mk ⟨_, m1.c2, c_root m1.x2 (by omega) hrl fun h2 q2' x2 ex2 => ⟨_, _, rfl, ?_⟩⟩
    rw [eP] at x2
    obtain ⟨m2, t2⟩ := m1.right x2 ex2
    refine PtrOk_mk ⟨bnd, ?_⟩
    rw [eP]
    refine m2.setH il mm fun h3 m3 t3 => Cond_t (beq_self_eq_true _) (num_ok ⟨_, rfl, num_ok ⟨_, rfl, ?_⟩⟩)
    rw [beq_self_eq_true]
    exact hR h3 q1' q2' _ nd _ ⟨m3, sh.roots _, kP⟩ (by show R1.length ≤ _; omega) ((t1.trans t2).trans t3)
theorem same_ok (m : TwM h tb q1 q2 s s hd) (hR : ∀ h', Kept N h h' → R (.bool true) h') : CallTo Try.prog 21 #[.pointer (some (ad tb))] h R := by
  refine f21F_ok ?_
  unfold f21F
  refine PtrOk_mk ⟨_, m.c1, PtrOk_mk ⟨_, m.c2, hstats_ok m.x1.v m.x1.rp fun h1 k1 => ⟨_, _, _, _, _, _, _, _, _, rfl, ⟨_, (m.keepN k1).c2, rfl⟩, hstats_ok m.x2.v (m.keepN k1).x2.rp fun h2 k2 => ⟨_, _, _, _, _, _, _, _, _, rfl, ?_⟩⟩⟩⟩
  simp only [beq_self_eq_true, Bool.and_self]
  exact hR h2 (k1.trans k2)
end
end Go.Ev
set_option linter.all false
set_option maxRecDepth 1000000
namespace Go.Ev
open Go.Proofs
/-- One of the script's steps. -/
structure Opn where
  k : Int
  w : Int
  slot : Int
  to_ : Int
  at_ : Int
  n : Int
  pa : Sl
  ta : Sl
  sls : List Sl
  parts : List (List Nat)
  t : List Nat
def Opn.cells (o : Opn) : List Value := [.int .i64 o.k, .int .i64 o.w, .int .i64 o.slot, .int .i64 o.to_, .int .i64 o.at_, .int .i64 o.n, slV o.pa, slV o.ta]
structure OpnOk (hB : Hp) (o : Opn) : Prop where
  islot : I64 o.slot
  ito : I64 o.to_
  iat : I64 o.at_
  inn : I64 o.n
  ls : Lists hB o.pa o.sls o.parts
  few : o.sls.length < 10000000
  sum : o.parts.flatten.length < 10000000
  rd : ReadsO hB o.ta.a (o.t.map bv)
  tn : o.ta.n = o.t.length
  t8 : Bytes8 o.t
  tl : o.t.length < 140737488355328
  old : ∀ p, o.ta.a = some p → o.t ≠ [] → p.block < hB.size
/-- What was there before is as it was, and no part of the two heaps. -/
structure Base (hB h : Hp) (F : Nat → Prop) : Prop where
  k : Kept N hB h
  f : ∀ b, F b → hB.size ≤ b
section
variable {hB h h' h2 : Hp} {tb : Nat} {q q1 q2 q1' q2' : HQ} {s s' s1 s2 : RS} {nd nd' : List NodeD} {hd : List Nat} {R : Value → Hp → Prop} {F F' : Nat → Prop} {o : Opn}
theorem Base.step (b : Base hB h F) (t : Tc h F h' F') : Base hB h' F' := ⟨⟨Nat.le_trans b.k.1 t.1.1, fun i hi _ => (t.1.2 i (Nat.lt_of_lt_of_le hi b.k.1) fun hf => by have := b.f i hf; omega).trans (b.k.2 i hi _root_.id)⟩,
  fun i hi => (t.2 i hi).elim (b.f i) fun e => Nat.le_trans b.k.1 e⟩
theorem Base.keepN (b : Base hB h F) (k : Kept N h h') : Base hB h' F := b.step (Tc.keepN k)
theorem TwM.src1 (m : TwM h tb q1 q2 s1 s2 hd) {c : Nat} {l : List Nat} (row : Row h c (l.map bv)) (ho : ¬ Foot tb q1 q2 c) (b8 : Bytes8 l) : Src h q1 ⟨some (ad c), l.length, l.length⟩ l := ⟨row_reads row, rfl, b8, fun p hp _ => by
  obtain rfl := Option.some.inj hp
  exact ⟨Classical.byContradiction fun hn => ho (.inr (.inl hn)), row_lt row⟩⟩
theorem fresh_foot (m : TwM h tb q1 q2 s1 s2 hd) {c : Nat} (hc : h.size ≤ c) : ¬ Foot tb q1 q2 c := fun hf => by
  rcases hf with e | e | e
  · have := row_lt m.row; omega
  · exact e (m.x1.fr hc)
  · exact e (m.x2.fr hc)
theorem Base.src2 (b : Base hB h (Foot tb q1 q2)) (ok : OpnOk hB o) : Src h q2 o.ta o.t := ⟨reads_keptN b.k ok.rd, ok.tn, ok.t8, fun p hp hn => by
  have hl := ok.old p hp hn
  exact ⟨Classical.byContradiction fun hx => by have := b.f _ (.inr (.inr hx)); omega, Nat.lt_of_lt_of_le hl b.k.1⟩⟩
def Askable (s : RS) (r : Nat) : Prop := r = 0 ∨ ∃ (id : Nat) (b : List Nat), r = s.ref id ∧ s.IsB id b ∧ Okb b
theorem len_nil (x : HSt h q s) (hR : R (.tuple #[.int .i64 0, .int .i64 40]) h) : CallTo Try.prog 19 #[.pointer (some (ad q.hb)), uv 0] h R :=
  len_bad x (by omega) (.inl (by unfold RS.objF; rw [RS.ident_zero, if_pos rfl]; decide)) hR
theorem len_any (x : HSt h q s) {r : Nat} (a : Askable s r) (hR : ∀ n e, R (.tuple #[.int .i64 n, .int .i64 e]) h) : CallTo Try.prog 19 #[.pointer (some (ad q.hb)), uv r] h R := by
  rcases a with rfl | ⟨id, b, rfl, B, ok⟩
  · exact len_nil x (hR _ _)
  · exact len_ok x B ok (hR _ _)
theorem slice_nil (x : HSt h q s) {f n : Int} (hR : R (.tuple #[.slice none 0 0, .int .i64 40]) h) : CallTo Try.prog 15 #[.pointer (some (ad q.hb)), uv 0, .int .i64 f, .int .i64 n] h R := by
  refine f15F_ok ?_
  unfold f15F
  exact len_nil x ⟨_, _, rfl, Cond_t rfl hR⟩
theorem read_nil (x : HSt h q s) (hR : R (.tuple #[.slice none 0 0, .int .i64 40]) h) : CallTo Try.prog 18 #[.pointer (some (ad q.hb)), uv 0] h R := by
  refine f18F_ok ?_
  unfold f18F
  exact len_nil x ⟨_, _, rfl, Cond_t rfl hR⟩
theorem slice_any (x : HSt h q s) {r : Nat} (a : Askable s r) {f n : Int} (hf : I64 f) (hn : I64 n) (hR : ∀ (a : Sl) e h', Kept N h h' → R (.tuple #[.slice a.a a.n a.c, .int .i64 e]) h') : CallTo Try.prog 15 #[.pointer (some (ad q.hb)), uv r, .int .i64 f, .int .i64 n] h R := by
  rcases a with rfl | ⟨id, b, rfl, B, ok⟩
  · exact slice_nil x (hR ⟨none, 0, 0⟩ _ h (Kept.refl _ _))
  · exact slice_ok x B ok hf hn (fun _ => hR ⟨none, 0, 0⟩ _ h (Kept.refl _ _)) fun c h' _ _ _ k => hR ⟨some (ad c), n.toNat, n.toNat⟩ _ h' k
theorem read_any (x : HSt h q s) {r : Nat} (a : Askable s r) (hR : ∀ (a : Sl) e h', Kept N h h' → R (.tuple #[.slice a.a a.n a.c, .int .i64 e]) h') : CallTo Try.prog 18 #[.pointer (some (ad q.hb)), uv r] h R := by
  rcases a with rfl | ⟨id, b, rfl, B, ok⟩
  · exact read_nil x (hR ⟨none, 0, 0⟩ _ h (Kept.refl _ _))
  · exact read_ok x B ok fun c h' _ _ k => hR ⟨some (ad c), b.length, b.length⟩ _ h' k
theorem compare_any (x : HSt h q s) {r : Nat} (a : Askable s r) {c : Sl} {m : List Nat} (rc : ReadsO h c.a (m.map bv)) (nc : c.n = m.length) (c8 : Bytes8 m) (hR : ∀ n e h', Kept N h h' → R (.tuple #[.int .i64 n, .int .i64 e]) h') :
    CallTo Try.prog 13 #[.pointer (some (ad q.hb)), uv r, .slice c.a c.n c.c] h R := by
  rcases a with rfl | ⟨id, b, rfl, B, ok⟩
  · refine f13F_ok ?_
    unfold f13F
    exact read_nil x ⟨⟨none, 0, 0⟩, _, rfl, Cond_t rfl (hR _ _ h (Kept.refl _ _))⟩
  · exact compare_ok x B ok rc nc c8 fun h' k => hR _ _ h' k
theorem count_any (x : HSt h q s) {r : Nat} (a : Askable s r) {f n : Int} (hf : I64 f) (hn : I64 n) (hR : ∀ n e h', Kept N h h' → R (.tuple #[.int .i64 n, .int .i64 e]) h') :
    CallTo Try.prog 11 #[.pointer (some (ad q.hb)), uv r, .int .i64 f, .int .i64 n] h R := by
  rcases a with rfl | ⟨id, b, rfl, B, ok⟩
  · refine f11F_ok ?_
    unfold f11F
    exact slice_nil x ⟨⟨none, 0, 0⟩, _, rfl, Cond_t rfl (hR _ _ h (Kept.refl _ _))⟩
  · exact count_ok x B ok hf hn (fun _ => hR _ _ h (Kept.refl _ _)) fun h' _ k => hR _ _ h' k
theorem op_w {c : Nat} (row : Row h c o.cells) : cell h ((ad c).add 1) = some (.int .i64 o.w) := by rw [add_ad]; exact (cell_row row 1).trans rfl
theorem op_row {c : Nat} (row : Row h c o.cells) : (cell h (ad c) = some (.int .i64 o.k) ∧ cell h ((ad c).add 2) = some (.int .i64 o.slot) ∧ cell h ((ad c).add 3) = some (.int .i64 o.to_)) ∧ cell h ((ad c).add 4) = some (.int .i64 o.at_) ∧ cell h ((ad c).add 5) = some (.int .i64 o.n) ∧ cell h ((ad c).add 6) = some (.slice o.pa.a o.pa.n o.pa.c) ∧ cell h ((ad c).add 7) = some (.slice o.ta.a o.ta.n o.ta.c) :=
  ⟨⟨(cell_row row 0).trans rfl, by rw [add_ad]; exact (cell_row row 2).trans rfl, by rw [add_ad]; exact (cell_row row 3).trans rfl⟩, by rw [add_ad]; exact (cell_row row 4).trans rfl, by rw [add_ad]; exact (cell_row row 5).trans rfl, by rw [add_ad]; exact (cell_row row 6).trans rfl, by rw [add_ad]; exact (cell_row row 7).trans rfl⟩
theorem asks_ok (x : TwS h tb q1 q2 s nd hd) (B : Base hB h (Foot tb q1 q2)) (ok : OpnOk hB o) {i : Nat} (hi : i < 8) (hR : ∀ h', Kept N h h' → R (.bool true) h') :
    CallTo Try.prog 48 #[.pointer (some (ad tb)), .agg #[.int .i64 o.k, .int .i64 o.w, .int .i64 o.slot, .int .i64 o.to_, .int .i64 o.at_, .int .i64 o.n, .slice o.pa.a o.pa.n o.pa.c, .slice o.ta.a o.ta.n o.ta.c], .int .i64 (i : Nat)] h R := by
  obtain ⟨m, sh, k⟩ := x
  have v := m.x1.v
  have il : i < hd.length := by rw [k.len]; exact hi
  obtain ⟨n, hn⟩ : ∃ n, hd[i]? = some n := ⟨_, List.getElem?_eq_getElem il⟩
  have bnd : (0 : Int) ≤ ((i : Nat) : Int) ∧ ((i : Nat) : Int) < ((8 : Nat) : Int) := ⟨by omega, by omega⟩
  refine f48F_ok ?_
  unfold f48F
  rw [Int.toNat_natCast]
  refine Let_mk fun h1 e1 => ?_
  have row : Row h1 h.size o.cells := e1 ▸ row_new h o.cells.toArray 59
  have k1 : Kept N h h1 := e1 ▸ kept_push _ _ _
  have m1 := m.keepN k1
  have enb : nb h = ad h.size := rfl
  have main : ∀ r : Nat, Askable s r → f48K1 (some (ad tb)) (nb h) ((r : Nat) : Int) h1 R := fun r a => by
    unfold f48K1
    rw [enb]
    refine PtrOk_mk ⟨_, m1.c1, read_any m1.x1 a fun s2 e2 h2 k2 => ⟨s2, e2, rfl, ?_⟩⟩
    have m2 := m1.keepN k2
    refine PtrOk_mk ⟨_, m2.c1, len_any m2.x1 a fun n3 e3 => ⟨_, _, rfl, PtrOk_mk ⟨_, m2.c1, ?_⟩⟩⟩
    obtain ⟨_, r4, r5, r6, r7⟩ := op_row (kept_row k2 row _root_.id)
    refine ⟨_, r4, _, r5, slice_any m2.x1 a ok.iat ok.inn fun s3 e3 h3 k3 => ⟨s3, e3, rfl, ?_⟩⟩
    have m3 := m2.keepN k3
    have k13 := k2.trans k3
    obtain ⟨_, r4, r5, r6, r7⟩ := op_row (kept_row k13 row _root_.id)
    refine PtrOk_mk ⟨_, m3.c1, o.ta, r7, bcopy_ok (reads_keptN (B.k.trans (k1.trans k13)) ok.rd) ok.tn ok.tl fun c h4 rowc hc k4 => ⟨⟨some (ad c), o.t.length, o.t.length⟩, rfl, ?_⟩⟩
    have m4 := m3.keepN k4
    refine ⟨⟨_, m4.c1, rfl⟩, compare_any m4.x1 a (c := ⟨some (ad c), o.t.length, o.t.length⟩) (row_reads rowc) rfl ok.t8 fun n5 e5 h5 k5 => ⟨_, _, rfl, ?_⟩⟩
    have m5 := m4.keepN k5
    have k15 := (k13.trans k4).trans k5
    obtain ⟨_, r4, r5, r6, r7⟩ := op_row (kept_row k15 row _root_.id)
    exact PtrOk_mk ⟨_, m5.c1, _, r4, _, r5, count_any m5.x1 a ok.iat ok.inn fun n6 e6 h6 k6 => ⟨_, _, rfl, hR _ (k1.trans (k15.trans k6))⟩⟩
  refine PtrOk_mk ⟨bnd, _, m1.cH hn, Cond_b (fun h0 => ?_) fun _ => main 0 (.inl rfl)⟩
  have hn0 : n ≠ 0 := fun e => by rw [e] at h0; simp at h0
  obtain ⟨id, b, _, _, okb, _, ea, Bb⟩ := slot_here v sh k (List.mem_of_getElem? hn) hn0
  refine PtrOk_mk ⟨_, m1.c1, PtrOk_mk ⟨bnd, _, m1.cH hn, _, _, c_at m1.x1 ⟨rfl, rfl⟩, ?_⟩⟩
  rw [ea]
  exact main _ (.inr ⟨id, b, rfl, Bb, okb⟩)
end
end Go.Ev
set_option linter.all false
set_option maxRecDepth 1000000
namespace Go.Ev
open Go.Proofs
section
variable {hB h h' h2 : Hp} {tb : Nat} {q q1 q2 q1' q2' : HQ} {s s' s1 s2 : RS} {nd nd' : List NodeD} {hd : List Nat} {R : Value → Hp → Prop} {F F' : Nat → Prop} {o : Opn}
theorem TwM.c0 (m : TwM h tb q1 q2 s1 s2 hd) : ∀ h', (∀ i, i = tb → h'[i]? = h[i]?) → cell h' ((ad tb).add 1) = some (.pointer (some (ad q2.hb))) := fun h' hh => by
  rw [add_ad]
  exact (cell_row (row_keep m.row (hh tb rfl)) 1).trans rfl
theorem Goes.of {n k : Nat} {v : Value} (hR : Goes h tb q1 q2 s n v R) (t : Tc h (Foot tb q1 q2) h' (Foot tb q1' q2')) (hr : s'.roots.length ≤ s.roots.length + k) {j : Nat} (hk : k + j ≤ n) : Goes h' tb q1' q2' s' j v R :=
  fun h2 p1 p2 s2 nd2 hd2 x2 r2 t2 => hR h2 p1 p2 s2 nd2 hd2 x2 (by omega) (t.trans t2)
theorem out_collect (v : s.Inv) (sh : s.Shd nd) : Out s nd s.collect nd := (Out.sub sh v.collect (RS.Sub.collect v))
theorem out_resize (v : s.Inv) (sh : s.Shd nd) (n : Int) : Out s nd (s.resize n).1 nd := Out.sub sh (v.resize n) (RS.Sub.resize v n)
theorem out_alloc (v : s.Inv) (sh : s.Shd nd) (k r w : Int) : ∃ nd', Out s nd (s.alloc k r w).1 nd' := by
  obtain ⟨nd', i⟩ := Idle.alloc v sh k r w
  exact ⟨nd', Out.grow (v.alloc _ _ _) i.sh i.rt i.gr⟩
/-- Write on both heaps: the code's own and the statement's. -/
theorem both_write (x : TwS h tb q1 q2 s nd hd) (B : Base hB h (Foot tb q1 q2)) (ok : OpnOk hB o) {c : Nat} (row : Row h c o.cells) (nf : ¬ Foot tb q1 q2 c) (rl : s.roots.length < 99999999) {j : Nat} {b : List Nat} (hj : s.here j) (okb : Okb b) (hnj : nd[j]? = some (blobN b))
    {K : Int → Int → Int → Int → Hp → Prop}
    (hK : ∀ h' q1' q2' s' nd' (r : Nat) (e : Int), TwS h' tb q1' q2' s' nd' hd → s'.roots.length ≤ s.roots.length + 1 → Tc h (Foot tb q1 q2) h' (Foot tb q1' q2') → (e = 0 → AtB s' nd' r) → K (r : Nat) e (r : Nat) e h') :
    PtrOk (some (ad tb)) fun p74 => ∃ t76 : Option Addr, cell h p74 = some (.pointer t76) ∧ ∃ t79 : Int, cell h ((ad c).add 4) = some (.int .i64 t79) ∧ ∃ t81 : Sl, cell h ((ad c).add 7) = some (.slice t81.a t81.n t81.c) ∧ CallTo Try.prog 45 #[.slice t81.a t81.n t81.c] h fun r h8 => ∃ t82 : Sl, r = .slice t82.a t82.n t82.c ∧ (∃ y0 : Int, cell h8 ((ad c).add 4) = some (.int .i64 y0) ∧ Next.value (.int .i64 y0) = Next.value (.int .i64 t79)) ∧ (∃ y0 : Option Addr, cell h8 p74 = some (.pointer y0) ∧ Next.value (.pointer y0) = Next.value (.pointer t76)) ∧ CallTo Try.prog 16 #[.pointer t76, .int .u64 ((s.ref j : Nat) : Int), .int .i64 t79, .slice t82.a t82.n t82.c] h8 fun r h9 => ∃ t83_0 : Int, ∃ t83_1 : Int, r = .tuple #[.int .u64 t83_0, .int .i64 t83_1] ∧ ∃ t90 : Int, cell h9 ((ad c).add 4) = some (.int .i64 t90) ∧ ∃ t92 : Sl, cell h9 ((ad c).add 7) = some (.slice t92.a t92.n t92.c) ∧ CallTo Try.prog 46 #[.pointer (some (ad tb)), .int .u64 ((s.ref j : Nat) : Int), .int .i64 t90, .slice t92.a t92.n t92.c] h9 fun r h10 => ∃ t93_0 : Int, ∃ t93_1 : Int, r = .tuple #[.int .u64 t93_0, .int .i64 t93_1] ∧ K t83_0 t83_1 t93_0 t93_1 h10 := by
  obtain ⟨m, sh, k⟩ := x
  have v := m.x1.v
  have Bj := blob_node v sh hj hnj
  obtain ⟨_, r4, r5, r6, r7⟩ := op_row row
  refine PtrOk_mk ⟨_, m.c1, _, r4, o.ta, r7, bcopy_ok (reads_keptN B.k ok.rd) ok.tn ok.tl fun d h1 rowd hd1 k1 => ⟨⟨some (ad d), o.t.length, o.t.length⟩, rfl, ?_⟩⟩
  have m1 := m.keepN k1
  obtain ⟨row1, nf1⟩ := (Tc.keepN (F := Foot tb q1 q2) k1).row row nf
  obtain ⟨_, r4, r5, r6, r7⟩ := op_row row1
  refine ⟨⟨_, r4, rfl⟩, ⟨_, m1.c1, rfl⟩, ?_⟩
  obtain ⟨nd', out, at_⟩ := write_out v sh hj hnj okb ok.t8 o.at_ (by omega)
  refine write_ok m1.x1 sh Bj okb ok.iat (m1.src1 rowd (fresh_foot m hd1) ok.t8) ok.tl (by omega) fun h2 q1' x2 ex2 => ⟨_, _, rfl, ?_⟩
  obtain ⟨m2, t2⟩ := m1.left x2 ex2
  obtain ⟨row2, nf2⟩ := t2.row row1 nf1
  obtain ⟨_, r4, r5, r6, r7⟩ := op_row row2
  have B2 := (B.keepN k1).step t2
  refine ⟨_, r4, o.ta, r7, twrite_ok m2.x2 sh Bj okb ok.iat m2.c0 m2.o2 (row_lt m2.row) (B2.src2 ok) ok.tl (by omega) fun h3 q2' x3 ex3 => ⟨_, _, rfl, ?_⟩⟩
  obtain ⟨m3, t3⟩ := m2.right x3 ex3
  exact hK h3 q1' q2' _ nd' _ _ ⟨m3, out.sh, k.out out⟩ out.rl (((Tc.keepN k1).trans t2).trans t3) at_
end
end Go.Ev
set_option linter.all false
set_option maxRecDepth 1000000
namespace Go.Ev
open Go.Proofs
section
variable {hB h h' h2 : Hp} {tb : Nat} {q q1 q2 q1' q2' : HQ} {s s' s1 s2 : RS} {nd nd' : List NodeD} {hd : List Nat} {R : Value → Hp → Prop} {F F' : Nat → Prop} {o : Opn}
/-- The step New(Parts ..), held, or written at once. -/
theorem p_new (x : TwS h tb q1 q2 s nd hd) (B : Base hB h (Foot tb q1 q2)) (ok : OpnOk hB o) {c : Nat} (row : Row h c o.cells) (nf : ¬ Foot tb q1 q2 c) (rl : s.roots.length < 99999900) {i : Nat} (hi : i < 8) (k0 : Int) (hR : Goes h tb q1 q2 s 3 (.bool true) R) :
    f20K1 (some (ad tb)) (ad c) (i : Nat) k0 true h R := by
  obtain ⟨m, sh, k⟩ := x
  have v := m.x1.v
  have hsl := ok.ls.len
  unfold f20K1
  refine Cond_t rfl ?_
  obtain ⟨_, r4, r5, r6, r7⟩ := op_row row
  have few := ok.few
  refine PtrOk_mk ⟨_, m.c1, o.pa, r6, copies_ok (ok.ls.keepN B.k) ok.few fun d cs h1 ls1 k1 => ⟨⟨some (ad d), o.sls.length, o.sls.length⟩, rfl, ?_⟩⟩
  have m1 := m.keepN k1
  have eqn : cs.length = o.sls.length := ls1.n.symm
  refine ⟨⟨_, m1.c1, rfl⟩, new_ok m1.x1 sh (ls1.srcs q1) (by omega) fun h2 q1' x2 ex2 => ⟨_, _, rfl, ?_⟩⟩
  obtain ⟨m2, t2⟩ := m1.left x2 ex2
  have T2 := (Tc.keepN (F := Foot tb q1 q2) k1).trans t2
  obtain ⟨row2, nf2⟩ := T2.row row nf
  obtain ⟨_, r4, r5, r6, r7⟩ := op_row row2
  have B2 := B.step T2
  refine ⟨o.pa, r6, bytes_ok (ok.ls.keepN B2.k) ok.few ok.sum fun e h3 rd3 n3 hd3 k3 => ⟨e, rfl, ?_⟩⟩
  have m3 := m2.keepN k3
  have b8 : Bytes8 o.parts.flatten := fun y hy => by
    obtain ⟨p, hp, hyp⟩ := List.mem_flatten.1 hy
    obtain ⟨ii, hii⟩ := List.mem_iff_getElem?.1 hp
    have hl := (List.getElem?_eq_some_iff.1 hii).1
    obtain ⟨_, _, b8, _⟩ := ok.ls.each ii _ p (List.getElem?_eq_getElem (by omega)) hii
    exact b8 y hyp
  have src3 : Src h3 q2 e o.parts.flatten := ⟨rd3, n3, b8, fun p hp _ => ⟨Classical.byContradiction fun hx => fresh_foot m2 (hd3 p hp).1 (.inr (.inr hx)), (hd3 p hp).2⟩⟩
  have enf : s.newF [o.parts.flatten] = s.newF o.parts := by unfold RS.newF; simp
  refine tlay_ok (v0 := .bool true) m3.x2 sh m3.c0 m3.o2 (row_lt m3.row) src3 ok.sum fun h4 q2' x4 ex4 => ⟨_, _, rfl, ?_⟩
  rw [enf] at x4
  rw [enf]
  obtain ⟨m4, t4⟩ := m3.right x4 ex4
  have T4 := (T2.trans (Tc.keepN k3)).trans t4
  obtain ⟨nd', out, at_⟩ := new_out v sh b8
  have orl := out.rl
  generalize (s.newF o.parts) = W at m4 out at_ orl
  obtain ⟨s', r, er⟩ := W
  have lt5 : s'.roots.length ≤ s.roots.length + 1 := orl
  refine Cond_f (bne_self_eq_false _) (num_ok ⟨_, rfl, Cond_f (bne_self_eq_false _) (same_ok m4 fun h5 k5 => ⟨_, rfl, ?_⟩)⟩)
  have S5 : TwS h5 tb q1' q2' s' nd' hd := ⟨m4.keepN k5, out.sh, k.out out⟩
  have T5 := T4.trans (Tc.keepN (F := Foot tb q1' q2') k5)
  obtain ⟨row5, nf5⟩ := T5.row row nf
  obtain ⟨⟨r0, _, _⟩, r4, r5, r6, r7⟩ := op_row row5
  unfold f20K2
  refine Cond_f rfl (Cond_b (fun _ => hR h5 _ _ _ _ _ S5 (by omega) T5) fun h0 => ?_)
  have h0 : er = 0 := by simpa using h0
  have aB := at_ h0
  refine ⟨_, r0, Cond_b (fun _ => ?_) fun _ => ?_⟩
  · exact hold_ok S5 hi aB (by omega) fun h6 q1a q2a s6 nd6 hd6 S6 l6 t6 => ⟨_, rfl, hR h6 _ _ _ _ _ S6 (by omega) (T5.trans t6)⟩
  · obtain ⟨j, b, ej, hj, okb, hnj⟩ := aB
    have ej : r = s'.ref j := ej
    rw [ej]
    refine both_write S5 (B.step T5) ok row5 nf5 (by omega) hj okb hnj fun h6 q1a q2a s6 nd6 r6 e6 S6 l6 t6 _ => Cond_t (beq_self_eq_true _) (num_ok ⟨_, rfl, ?_⟩)
    rw [beq_self_eq_true]
    exact hR h6 _ _ _ _ _ S6 (by omega) (T5.trans t6)
/-- The other steps. -/
theorem p_other (x : TwS h tb q1 q2 s nd hd) (B : Base hB h (Foot tb q1 q2)) (ok : OpnOk hB o) {c : Nat} (row : Row h c o.cells) (nf : ¬ Foot tb q1 q2 c) (rl : s.roots.length < 99999900) {i : Nat} (hi : i < 8) (k0 : Int) (hR : Goes h tb q1 q2 s 3 (.bool true) R) :
    f20K1 (some (ad tb)) (ad c) (i : Nat) k0 false h R := by
  have x0 := x
  obtain ⟨m, sh, k⟩ := x
  have v := m.x1.v
  have il : i < hd.length := by rw [k.len]; exact hi
  obtain ⟨n, hn⟩ : ∃ n, hd[i]? = some n := ⟨_, List.getElem?_eq_getElem il⟩
  have bnd : (0 : Int) ≤ ((i : Nat) : Int) ∧ ((i : Nat) : Int) < ((8 : Nat) : Int) := ⟨by omega, by omega⟩
  have stay : ∀ h', Kept N h h' → R (.bool true) h' := fun h' kk => hR h' _ _ _ _ _ ⟨m.keepN kk, sh, k⟩ (by omega) (Tc.keepN kk)
  obtain ⟨⟨r0, r2, r3⟩, r4, r5, r6, r7⟩ := op_row row
  have rw_ := op_w row
  unfold f20K1
  rw [Int.toNat_natCast]
  refine Cond_f rfl (Cond_b (fun _ => ?_) fun _ => Cond_b (fun _ => ?_) fun _ => Cond_b (fun _ => ?_) fun _ => Cond_b (fun _ => ?_) fun _ => Cond_b (fun _ => ?_) fun _ => ?_)
  · -- Write
    refine PtrOk_mk ⟨bnd, _, m.cH hn, Cond_b (fun _ => stay h (Kept.refl _ _)) fun h0 => ?_⟩
    have hn0 : n ≠ 0 := fun e => by rw [e] at h0; simp at h0
    obtain ⟨j, b, _, hj, okb, hnj, ea, Bb⟩ := slot_here v sh k (List.mem_of_getElem? hn) hn0
    refine PtrOk_mk ⟨_, m.c1, PtrOk_mk ⟨bnd, _, m.cH hn, _, _, c_at m.x1 ⟨rfl, rfl⟩, PtrOk_mk ⟨_, m.c2, PtrOk_mk ⟨bnd, _, m.cH hn, _, _, c_at m.x2 ⟨rfl, rfl⟩, ?_⟩⟩⟩⟩
    rw [ea]
    refine both_write x0 B ok row nf (by omega) hj okb hnj fun h6 q1a q2a s6 nd6 r6 e6 S6 l6 t6 at6 => Cond_f (bne_self_eq_false _) (Cond_f (bne_self_eq_false _) (num_ok ⟨_, rfl, Cond_f (bne_self_eq_false _) (same_ok S6.m fun h7 k7 => ⟨_, rfl, ?_⟩)⟩))
    have S7 : TwS h7 tb q1a q2a s6 nd6 hd := ⟨S6.m.keepN k7, S6.sh, S6.k⟩
    have T7 := t6.trans (Tc.keepN (F := Foot tb q1a q2a) k7)
    obtain ⟨row7, nf7⟩ := T7.row row nf
    obtain ⟨⟨_, _, r3⟩, _⟩ := op_row row7
    unfold f20K3
    refine Cond_f rfl (Cond_b (fun _ => hR h7 _ _ _ _ _ S7 (by omega) T7) fun h0 => ?_)
    have h0 : e6 = 0 := by simpa using h0
    obtain ⟨ii, hii⟩ : ∃ ii : Nat, o.to_ % ((8 : Nat) : Int) = (ii : Int) := ⟨(o.to_ % ((8 : Nat) : Int)).toNat, by omega⟩
    refine ⟨_, r3, into_ok (n := 8) (by omega) (by omega) ok.ito ⟨_, rfl, ?_⟩⟩
    rw [hii]
    exact hold_ok S7 (by omega) (at6 h0) (by omega) fun h8 q1b q2b s8 nd8 hd8 S8 l8 t8 => ⟨_, rfl, hR h8 _ _ _ _ _ S8 (by omega) (T7.trans t8)⟩
  · -- Drop
    refine PtrOk_mk ⟨bnd, _, m.cH hn, Cond_b (fun h0 => ?_) fun h0 => ?_⟩
    · have hn0 : n ≠ 0 := fun e => by rw [e] at h0; simp at h0
      obtain ⟨R1, eD, vD, kD, lD⟩ := drop_slots v k hn hn0
      refine PtrOk_mk ⟨_, m.c1, PtrOk_mk ⟨bnd, _, m.cH hn, c_drop m.x1 fun h1 q1' x1 ex1 => ⟨_, rfl, ?_⟩⟩⟩
      rw [eD] at x1
      obtain ⟨m1, t1⟩ := m.left x1 ex1
      refine PtrOk_mk ⟨_, m1.c2, PtrOk_mk ⟨bnd, _, m1.cH hn, c_drop m1.x2 fun h2 q2' x2 ex2 => ⟨_, rfl, ?_⟩⟩⟩
      rw [eD] at x2
      obtain ⟨m2, t2⟩ := m1.right x2 ex2
      unfold f20K4
      rw [Int.toNat_natCast]
      exact PtrOk_mk ⟨bnd, m2.setH il 0 fun h3 m3 t3 => hR h3 _ _ _ _ _ ⟨m3, sh.roots _, kD⟩ (by show R1.length ≤ _; omega) ((t1.trans t2).trans t3)⟩
    · have hn0 : n = 0 := by simpa using h0
      unfold f20K4
      rw [Int.toNat_natCast]
      refine PtrOk_mk ⟨bnd, m.setH il 0 fun h3 m3 t3 => hR h3 _ _ _ _ _ ⟨m3, sh, ?_⟩ (by omega) t3⟩
      rw [zero_slots k (hn0 ▸ hn)]
      exact k
  · -- Collect
    refine PtrOk_mk ⟨_, m.c1, c_collect m.x1 fun h1 q1' x1 ex1 => ⟨rfl, ?_⟩⟩
    obtain ⟨m1, t1⟩ := m.left x1 ex1
    refine PtrOk_mk ⟨_, m1.c2, c_collect m1.x2 fun h2 q2' x2 ex2 => ⟨rfl, ?_⟩⟩
    obtain ⟨m2, t2⟩ := m1.right x2 ex2
    have out := out_collect v sh
    have := out.rl
    exact hR h2 _ _ _ _ _ ⟨m2, out.sh, k.out out⟩ (by omega) (t1.trans t2)
  · -- Resize
    refine PtrOk_mk ⟨_, m.c1, _, r5, c_resize m.x1 fun h1 q1' x1 ex1 => ⟨_, rfl, ?_⟩⟩
    obtain ⟨m1, t1⟩ := m.left x1 ex1
    obtain ⟨_, _, r5, _, _⟩ := op_row (t1.row row nf).1
    refine PtrOk_mk ⟨_, m1.c2, _, r5, c_resize m1.x2 fun h2 q2' x2 ex2 => ⟨_, rfl, num_ok ⟨_, rfl, num_ok ⟨_, rfl, ?_⟩⟩⟩⟩
    obtain ⟨m2, t2⟩ := m1.right x2 ex2
    have out := out_resize v sh o.n
    have := out.rl
    rw [beq_self_eq_true]
    exact hR h2 _ _ _ _ _ ⟨m2, out.sh, k.out out⟩ (by omega) (t1.trans t2)
  · -- Alien
    refine PtrOk_mk ⟨_, m.c1, _, r5, _, into_ok (n := 254) (by omega) (by omega) ok.inn ⟨rfl, rfl⟩, _, r4, _, into_ok (n := 3) (by omega) (by omega) ok.iat ⟨rfl, rfl⟩, _, r3, _, into_ok (n := 4) (by omega) (by omega) ok.ito ⟨rfl, rfl⟩, c_alloc m.x1 fun h1 q1' x1 ex1 => ⟨_, _, rfl, ?_⟩⟩
    obtain ⟨m1, t1⟩ := m.left x1 ex1
    obtain ⟨⟨_, _, r3⟩, r4, r5, _, _⟩ := op_row (t1.row row nf).1
    refine PtrOk_mk ⟨_, m1.c2, _, r5, _, into_ok (n := 254) (by omega) (by omega) ok.inn ⟨rfl, rfl⟩, _, r4, _, into_ok (n := 3) (by omega) (by omega) ok.iat ⟨rfl, rfl⟩, _, r3, _, into_ok (n := 4) (by omega) (by omega) ok.ito ⟨rfl, rfl⟩, c_alloc m1.x2 fun h2 q2' x2 ex2 => ⟨_, _, rfl, ?_⟩⟩
    obtain ⟨m2, t2⟩ := m1.right x2 ex2
    obtain ⟨nd', out⟩ := out_alloc v sh (IntKind.wrap .i64 ((2 : Int) + o.n % ((254 : Nat) : Int))) (o.at_ % ((3 : Nat) : Int)) (o.to_ % ((4 : Nat) : Int))
    have := out.rl
    exact hR h2 _ _ _ _ _ ⟨m2, out.sh, k.out out⟩ (by omega) (t1.trans t2)
  · have ask : ∀ bb, f20K5 (some (ad tb)) (ad c) (i : Nat) bb h R := fun bb => by
      unfold f20K5
      refine Cond_b (fun _ => ⟨_, r0, _, rw_, _, r2, _, r3, _, r4, _, r5, o.pa, r6, o.ta, r7, asks_ok x0 B ok hi fun h1 k1 => ⟨_, rfl, stay h1 k1⟩⟩) fun _ => stay h (Kept.refl _ _)
    exact Cond_b (fun _ => ask _) fun _ => Cond_b (fun _ => ask _) fun _ => Cond_b (fun _ => ask _) fun _ => Cond_b (fun _ => ask _) fun _ => ask _
theorem plays_ok (x : TwS h tb q1 q2 s nd hd) (B : Base hB h (Foot tb q1 q2)) (ok : OpnOk hB o) (rl : s.roots.length < 99999900) (hR : Goes h tb q1 q2 s 3 (.bool true) R) :
    CallTo Try.prog 20 #[.pointer (some (ad tb)), .agg #[.int .i64 o.k, .int .i64 o.w, .int .i64 o.slot, .int .i64 o.to_, .int .i64 o.at_, .int .i64 o.n, .slice o.pa.a o.pa.n o.pa.c, .slice o.ta.a o.ta.n o.ta.c]] h R := by
  refine f20F_ok ?_
  unfold f20F
  refine Let_mk fun h1 e1 => ?_
  have row : Row h1 h.size o.cells := e1 ▸ row_new h o.cells.toArray 59
  have k1 : Kept N h h1 := e1 ▸ kept_push _ _ _
  have x1 : TwS h1 tb q1 q2 s nd hd := ⟨x.m.keepN k1, x.sh, x.k⟩
  have nf : ¬ Foot tb q1 q2 h.size := fresh_foot x.m (Nat.le_refl _)
  have enb : nb h = ad h.size := rfl
  obtain ⟨⟨r0, r2, r3⟩, _⟩ := op_row row
  have g1 : Goes h1 tb q1 q2 s 3 (.bool true) R := hR.of (Tc.keepN k1) (k := 0) (by omega) (by omega)
  rw [enb]
  obtain ⟨i, hi⟩ : ∃ i : Nat, o.slot % ((8 : Nat) : Int) = (i : Int) := ⟨(o.slot % ((8 : Nat) : Int)).toNat, by omega⟩
  refine ⟨_, r2, into_ok (n := 8) (by omega) (by omega) ok.islot ⟨_, rfl, _, r0, ?_⟩⟩
  rw [hi]
  have p : ∀ b, f20K1 (some (ad h.size)) (ad h.size) (i : Nat) o.k b h1 R → True := fun _ _ => trivial
  refine Cond_b (fun e => ?_) fun _ => ?_
  · rw [e]
    exact p_new x1 (B.keepN k1) ok row nf rl (by omega) o.k g1
  · cases o.k == (13 : Int) with
    | true => exact p_new x1 (B.keepN k1) ok row nf rl (by omega) o.k g1
    | false => exact p_other x1 (B.keepN k1) ok row nf rl (by omega) o.k g1
end
end Go.Ev
set_option linter.all false
set_option maxRecDepth 1000000
namespace Go.Ev
open Go.Proofs
theorem mark_get (h : Hp) (b i : Nat) (hi : i ≠ b) : (markH h b)[i]? = h[i]? := by
  unfold markH
  rw [Array.getElem?_modify, if_neg (Ne.symm hi)]
theorem mark_size (h : Hp) (b : Nat) : (markH h b).size = h.size := by unfold markH; rw [Array.size_modify]
theorem mark_cell (h : Hp) (b : Nat) (a : Addr) : cell (markH h b) a = cell h a := by
  by_cases e : b = a.block
  · unfold cell markH
    rw [Array.getElem?_modify, if_pos e]
    cases h[a.block]? with
    | none => rfl
    | some o => cases o <;> rfl
  · unfold cell
    rw [mark_get h b _ (Ne.symm e)]
/-- A text's bytes, in new memory. -/
theorem x_made (h : Hp) : Kept N h (markH (h.push (.cells #[.int .u8 120] 5)) h.size) ∧ ReadsO (markH (h.push (.cells #[.int .u8 120] 5)) h.size) (some (ad h.size)) ([120].map bv) ∧ h.size < (markH (h.push (.cells #[.int .u8 120] 5)) h.size).size := by
  have k1 : Kept N h (h.push (.cells #[.int .u8 120] 5)) := kept_push _ _ _
  have row : Row (h.push (.cells #[.int .u8 120] 5)) h.size [bv 120] := row_new h _ 5
  have hz := row_lt row
  refine ⟨⟨by rw [mark_size]; exact k1.1, fun i hi _ => (mark_get _ _ _ (by omega)).trans (k1.2 i hi id)⟩, fun j v hj => ?_, by rw [mark_size]; exact hz⟩
  rw [mark_cell]
  exact row_reads row j v hj
section
variable {hB h h' h2 : Hp} {tb : Nat} {q q1 q2 q1' q2' : HQ} {s s' s1 s2 : RS} {nd nd' : List NodeD} {hd : List Nat} {R : Value → Hp → Prop} {F F' : Nat → Prop} {o : Opn}
theorem tw_end (x : TwS h tb q1 q2 s nd hd) (B : Base hB h (Foot tb q1 q2)) {J : Nat → Addr → Addr → Int → Hp → Prop} {n : Nat} {x1 : Addr} {x7 : Int} (hR : ∀ h', Kept N hB h' → R (.bool true) h') : f5K2 J n x1 (ad tb) x7 false h R := by
  obtain ⟨m, sh, k⟩ := x
  have v := m.x1.v
  unfold f5K2
  refine Cond_f rfl ⟨_, m.c1, himage_ok v m.x1.rp fun b1 c1 h1 sl1 hb1 k1 => ⟨⟨some (ad b1), s.used, c1⟩, rfl, ?_⟩⟩
  have m1 := m.keepN k1
  refine ⟨_, m1.c2, himage_ok v m1.x2.rp fun b2 c2 h2 sl2 hb2 k2 => ⟨⟨some (ad b2), s.used, c2⟩, rfl, Cond_f (bne_self_eq_false _) ?_⟩⟩
  have m2 := m1.keepN k2
  have r1 := reads_keptN k2 (slAt_reads sl1)
  have r2 := slAt_reads sl2
  have len : s.used = s.image.length := by have := sl2.len; rw [List.length_map] at this; omega
  have hu := v.u2; have h2' := v.h2; have l2 := v.l2
  have B2 := (B.keepN k1).keepN k2
  refine f5L3_rule (s8 := ⟨some (ad b1), s.used, c1⟩) (s9 := ⟨some (ad b2), s.used, c2⟩) (fun m s3 s8 s9 s10 h' => ∃ i : Nat, i ≤ s.used ∧ m = s.used - i ∧ s3 = ad tb ∧ ⟨some (ad b1), s.used, c1⟩ = s8 ∧ ⟨some (ad b2), s.used, c2⟩ = s9 ∧ s10 = (i : Int) ∧ h2 = h') s.used ⟨0, Nat.zero_le _, rfl, rfl, rfl, rfl, rfl, rfl⟩ ?_
  rintro mm s3 s8 s9 s10 g h3 ⟨i, hi, rfl, rfl, rfl, rfl, rfl, rfl⟩
  unfold f5L3
  refine Cond_dec (fun hlt => ?_) fun hge => ?_
  · have hlt : ((i : Nat) : Int) < ((s.used : Nat) : Int) := hlt
    have e : (s.image.map uv)[i]? = some (uv (s.image.getD i 0)) := by rw [List.getElem?_map, List.getD_eq_getElem?_getD, List.getElem?_eq_getElem (by omega)]; rfl
    obtain ⟨p1, hp1, cp1⟩ := readsO_get r1 e
    obtain ⟨p2, hp2, cp2⟩ := readsO_get r2 e
    refine ⟨⟨by omega, hlt⟩, PtrOk_of hp1 ⟨((s.image.getD i 0 : Nat) : Int), by rw [Int.toNat_natCast, Nat.mul_one]; exact cp1, ⟨by omega, hlt⟩, PtrOk_of hp2 ⟨((s.image.getD i 0 : Nat) : Int), by rw [Int.toNat_natCast, Nat.mul_one]; exact cp2, Cond_f (bne_self_eq_false _) ?_⟩⟩⟩
    exact ⟨s.used - (i + 1), by omega, i + 1, by omega, rfl, rfl, rfl, rfl, by rw [wrap_i64' (by omega) (by omega)]; rfl, rfl⟩
  · refine ⟨_, m2.c1, Let_mk fun h4 e4 => PtrOk_mk (Let_mk fun h5 e5 => Let_mk fun h6 e6 => ?_)⟩
    have xm := x_made h2
    rw [← e4] at xm
    have xm : Kept N h2 h5 ∧ ReadsO h5 (some (ad h2.size)) ([120].map bv) ∧ h2.size < h5.size := e5 ▸ xm
    have k6 : Kept N h5 h6 := e6 ▸ kept_push _ _ _
    have row6 : Row h6 h5.size [.slice (some (ad h2.size)) 1 1] := e6 ▸ row_new h5 _ 22
    have m6 := (m2.keepN xm.1).keepN k6
    have B6 := (B2.keepN xm.1).keepN k6
    have ls : Srcs h6 q1 ⟨some (ad h5.size), 1, 1⟩ [⟨some (ad h2.size), 1, 1⟩] [[120]] := ⟨row_reads row6, rfl, rfl, fun i c p hc hp => by
      cases i with
      | zero =>
        obtain rfl := Option.some.inj hc
        obtain rfl := Option.some.inj hp
        exact ⟨reads_keptN k6 xm.2.1, rfl, (fun y hy => by simp at hy; omega), (by decide), fun a ha _ => by obtain rfl := Option.some.inj ha; exact Nat.lt_of_lt_of_le xm.2.2 k6.1⟩
      | succ i => cases hc⟩
    have enb : nb h5 = ad h5.size := rfl
    rw [enb]
    refine new_ok (a := ⟨some (ad h5.size), 1, 1⟩) m6.x1 sh ls (by show 1 < 100000000000000; decide) fun h7 q1' x7' ex7 => ⟨_, _, rfl, Let_mk fun h8 e8 => PtrOk_mk (Let_mk fun h9 e9 => ?_)⟩
    obtain ⟨m7, t7⟩ := m6.left x7' ex7
    have B7 := B6.step t7
    have xn := x_made h7
    rw [← e8] at xn
    have xn : Kept N h7 h9 ∧ ReadsO h9 (some (ad h7.size)) ([120].map bv) ∧ h7.size < h9.size := e9 ▸ xn
    have m9 := m7.keepN xn.1
    have B9 := B7.keepN xn.1
    have en7 : nb h7 = ad h7.size := rfl
    rw [en7]
    have src : Src h9 q2 ⟨some (ad h7.size), 1, 1⟩ [120] := ⟨xn.2.1, rfl, (fun y hy => by simp at hy; omega), fun p hp _ => by
      obtain rfl := Option.some.inj hp
      exact ⟨m7.x2.fr (Nat.le_refl _), xn.2.2⟩⟩
    refine tlay_ok (v0 := .bool true) (a := ⟨some (ad h7.size), 1, 1⟩) m9.x2 sh m9.c0 m9.o2 (row_lt m9.row) src (by decide) fun h10 q2' x10 ex10 => ⟨_, _, rfl, ?_⟩
    obtain ⟨m10, t10⟩ := m9.right x10 ex10
    have B10 := B9.step t10
    refine Cond_t (beq_self_eq_true _) (num_ok ⟨_, rfl, Cond_t (beq_self_eq_true _) ⟨_, m10.c1, hstats_ok m10.x1.v m10.x1.rp fun h11 k11 => ⟨_, _, _, _, _, _, _, _, _, rfl, ?_⟩⟩⟩)
    have hl := m10.x1.v.l1
    have e0 : ((((s.newF [[120]]).1.limit : Nat) : Int) == (0 : Int)) = false := by rw [beq_eq_false_iff_ne]; omega
    rw [e0]
    exact hR h11 (B10.keepN k11).k
end
end Go.Ev
set_option linter.all false
set_option maxRecDepth 1000000
namespace Go.Ev
open Go.Proofs
theorem opn_len (o : Opn) : o.cells.length = 8 := rfl
theorem OpnOk.keepN {h h' : Hp} {o : Opn} (k : OpnOk h o) (e : Kept N h h') : OpnOk h' o :=
  ⟨k.islot, k.ito, k.iat, k.inn, k.ls.keepN e, k.few, k.sum, reads_keptN e k.rd, k.tn, k.t8, k.tl, fun p hp hn => Nat.lt_of_lt_of_le (k.old p hp hn) e.1⟩
section
variable {hB h h' h2 : Hp} {tb : Nat} {q q1 q2 q1' q2' : HQ} {s s' s1 s2 : RS} {nd nd' : List NodeD} {hd : List Nat} {R : Value → Hp → Prop} {sl : Sl} {ops : List Opn}
theorem opn_read (hs : ReadsO h sl.a (ops.flatMap Opn.cells)) {i : Nat} {o : Opn} (eo : ops[i]? = some o) : ∃ p, sl.a = some p ∧ cell h (p.add (i * 8)) = some (.int .i64 o.k) ∧ ∀ j v, o.cells[j]? = some v → cell h ((p.add (i * 8)).add j) = some v := by
  have rd : ∀ j v, o.cells[j]? = some v → ∃ p, sl.a = some p ∧ cell h ((p.add (i * 8)).add j) = some v := fun j v hj => by
    have hjl : j < 8 := by have := (List.getElem?_eq_some_iff.1 hj).1; rw [opn_len] at this; exact this
    obtain ⟨p, hp, cp⟩ := readsO_get hs ((flat_at opn_len ops i j o eo hjl).trans hj)
    exact ⟨p, hp, by rw [add_add]; exact cp⟩
  obtain ⟨p, hp, _⟩ := rd 0 _ rfl
  have rd' : ∀ j v, o.cells[j]? = some v → cell h ((p.add (i * 8)).add j) = some v := fun j v hj => by
    obtain ⟨p', hp', c⟩ := rd j v hj
    rw [hp] at hp'
    obtain rfl := Option.some.inj hp'
    exact c
  exact ⟨p, hp, rd' 0 _ rfl, rd'⟩
theorem tw_loop (x : TwS h tb q1 q2 s nd hd) (B : Base hB h (Foot tb q1 q2)) {l0 l1 : Int} {c : Nat} (row : Row hB c [.int .i64 l0, .int .i64 l1, .slice sl.a sl.n sl.c]) (hs : ReadsO hB sl.a (ops.flatMap Opn.cells)) (hsn : sl.n = ops.length) (ok : ∀ o ∈ ops, OpnOk hB o) (hr0 : s.roots.length = 0)
    (hR : ∀ h', Kept N hB h' → R (.bool true) h') :
    LoopEv (evC Try.prog tab lv5 (sub [1, 1, 1, 0, 1, 0, 0] body5)) (contAt Try.prog tab lv5 [1, 1, 1, 0, 1, 0] body5 [] (bodyK Try.prog Try.f5 [] R)) [(1, .pointer (some (ad c))), (3, .pointer (some (ad tb))), (7, .int .i64 0)] 137 h := by
  refine f5L2_rule (fun m s1 s3 s7 h' => ∃ (i : Nat) (q1 q2 : HQ) (s : RS) (nd : List NodeD) (hd : List Nat), i ≤ 1000 ∧ i ≤ ops.length ∧ m = ops.length - i ∧ s1 = ad c ∧ s3 = ad tb ∧ s7 = (i : Int) ∧ TwS h' tb q1 q2 s nd hd ∧ Base hB h' (Foot tb q1 q2) ∧ s.roots.length ≤ 3 * i) ops.length
    ⟨0, q1, q2, s, nd, hd, by omega, by omega, rfl, rfl, rfl, rfl, x, B, by omega⟩ ?_
  clear x B hr0
  rintro m s1 s3 s7 g h1 ⟨i, q1, q2, s, nd, hd, hi, hil, rfl, rfl, rfl, rfl, x, B, hr⟩
  unfold f5L2
  have row1 := kept_row B.k row _root_.id
  have cS : cell h1 ((ad c).add 2) = some (.slice sl.a sl.n sl.c) := by rw [add_ad]; exact (cell_row row1 2).trans rfl
  refine ⟨sl, cS, Cond_dec (fun hlt => ?_) fun _ => tw_end x B hR⟩
  by_cases h1000 : ((i : Nat) : Int) < 1000
  · rw [decide_eq_true h1000]
    have hio : i < ops.length := by omega
    obtain ⟨o, eo⟩ : ∃ o, ops[i]? = some o := ⟨_, List.getElem?_eq_getElem hio⟩
    obtain ⟨p, hp, c0, cj⟩ := opn_read (reads_keptN B.k hs) eo
    unfold f5K2
    refine Cond_t rfl ⟨sl, cS, ⟨by omega, hlt⟩, PtrOk_of hp ?_⟩
    rw [Int.toNat_natCast]
    refine ⟨_, c0, _, cj 1 _ rfl, _, cj 2 _ rfl, _, cj 3 _ rfl, _, cj 4 _ rfl, _, cj 5 _ rfl, o.pa, cj 6 _ rfl, o.ta, cj 7 _ rfl, ?_⟩
    refine plays_ok x B (ok o (List.mem_of_getElem? eo)) (by omega) fun h2 q1' q2' s' nd' hd' x2 r2 t2 => ⟨_, rfl, Cond_f rfl ?_⟩
    refine same_ok x2.m fun h3 k3 => ⟨_, rfl, ?_⟩
    unfold f5K3
    exact Cond_f rfl ⟨ops.length - (i + 1), by omega, i + 1, q1', q2', s', nd', hd', by omega, by omega, rfl, rfl, rfl, by rw [wrap_i64' (by omega) (by omega)]; rfl, ⟨x2.m.keepN k3, x2.sh, x2.k⟩, (B.step t2).keepN k3, by omega⟩
  · rw [decide_eq_false h1000]
    exact tw_end x B hR
theorem twin_ok {l0 l1 : Int} (il : I64 l0) (hs : ReadsO h sl.a (ops.flatMap Opn.cells)) (hsn : sl.n = ops.length) (ok : ∀ o ∈ ops, OpnOk h o) (hR : ∀ h', Kept N h h' → R (.bool true) h') :
    CallTo Try.prog 5 #[.agg #[.int .i64 l0, .int .i64 l1, .slice sl.a sl.n sl.c]] h R := by
  refine f5F_ok ?_
  unfold f5F
  refine Let_mk fun h1 e1 => Let_mk fun h2 e2 => ?_
  have enb : nb h = ad h.size := rfl
  have enb1 : nb h1 = ad h1.size := rfl
  have k1 : Kept N h h1 := e1 ▸ kept_push _ _ _
  have row1 : Row h1 h.size [.int .i64 l0, .int .i64 l1, .slice sl.a sl.n sl.c] := e1 ▸ row_new h _ 51
  have k2 : Kept N h1 h2 := e2 ▸ kept_push _ _ _
  have row2 : Row h2 h1.size ([.pointer none, .pointer none] ++ (List.replicate 8 0).map nv) := e2 ▸ row_new h1 _ 55
  rw [enb, enb1]
  obtain ⟨n, hn⟩ : ∃ n : Nat, IntKind.wrap .i64 ((128 : Int) + l0 % ((65536 : Nat) : Int)) = (n : Int) := ⟨(128 + l0 % ((65536 : Nat) : Int)).toNat, by rw [wrap_i64' (by omega) (by omega)]; omega⟩
  have hnb : 128 ≤ n ∧ n ≤ 65663 := by rw [wrap_i64' (by omega) (by omega)] at hn; omega
  have v0 := RS.new_inv (n := n) (by omega) (by omega)
  have sh0 : (RS.new n).Shd [⟨0, [], []⟩] := ⟨rfl, fun id hid => by unfold RS.here RS.new at hid; simp at hid⟩
  have sk0 : SlotsOk (RS.new n) [⟨0, [], []⟩] (List.replicate 8 0) := ⟨rfl, fun m hm h0 => absurd (List.eq_of_mem_replicate hm) h0, fun i j m hi _ h0 => absurd (List.eq_of_mem_replicate (List.mem_of_getElem? hi)) h0⟩
  refine f5L1_rule (fun m s1 s3 s4 h' => s1 = ad h.size ∧ s3 = ad h1.size ∧ Kept N h1 h' ∧ ((m = 2 ∧ s4 = 0 ∧ Row h' h1.size ([.pointer none, .pointer none] ++ (List.replicate 8 0).map nv)) ∨
      (m = 1 ∧ s4 = 1 ∧ ∃ q1, HSt h' q1 (RS.new n) ∧ Row h' h1.size ([.pointer (some (ad q1.hb)), .pointer none] ++ (List.replicate 8 0).map nv) ∧ ∀ b, q1.role b ≠ .out → h1.size < b) ∨
      (m = 0 ∧ s4 = 2 ∧ ∃ q1 q2, TwM h' h1.size q1 q2 (RS.new n) (RS.new n) (List.replicate 8 0) ∧ ∀ b, Foot h1.size q1 q2 b → h1.size ≤ b))) 2
    ⟨rfl, rfl, k2, .inl ⟨rfl, rfl, row2⟩⟩ ?_
  clear k2 row2
  rintro m s1 s3 s4 g h3 ⟨rfl, rfl, k3, hh⟩
  have row3 := kept_row k3 row1 _root_.id
  unfold f5L1
  rcases hh with ⟨rfl, rfl, rowT⟩ | ⟨rfl, rfl, q1, x1, rowT, f1⟩ | ⟨rfl, rfl, q1, q2, tm, ft⟩
  · refine Cond_t rfl ⟨by decide, _, by rw [add_ad]; exact (cell_row row3 0).trans rfl, into_ok (n := 65536) (by omega) (by omega) il ⟨_, rfl, ?_⟩⟩
    rw [hn]
    refine hnew_ok (fun hb => absurd ⟨by omega, by omega⟩ hb) fun h4 hb role G hb2 rp fr k4 => ⟨_, _, rfl, num_ok ⟨_, rfl, Cond_f rfl ?_⟩⟩
    rw [Int.toNat_natCast] at rp
    have rowT4 := kept_row k4 rowT _root_.id
    have x4 : HSt h4 ⟨hb, role, G, []⟩ (RS.new n) := ⟨rp, v0⟩
    unfold f5K1
    refine Cond_f rfl (Cond_t rfl (row_st rowT4 (i := 0) rfl (by simp) fun h5 row5 k5 => ?_))
    have hlt := row_lt rowT
    have fT : ∀ b, role b ≠ .out → h1.size < b := fun b hb => Nat.lt_of_lt_of_le hlt (fr b hb)
    refine ⟨1, by omega, rfl, rfl, ⟨Nat.le_trans k3.1 (Nat.le_trans k4.1 k5.1), fun j hj _ => (k5.2 j (by have := k3.1; have := k4.1; omega) (by omega)).trans ((k3.trans k4).2 j hj _root_.id)⟩, .inr (.inl ⟨rfl, rfl, ⟨hb, role, G, []⟩, ⟨x4.rp.keep k5 fun b (e : b = h1.size) => Classical.byContradiction fun hn => by have := fT b hn; omega, v0⟩, row5, fT⟩)⟩
  · refine Cond_t rfl ⟨by decide, _, by rw [add_ad]; exact (cell_row row3 0).trans rfl, into_ok (n := 65536) (by omega) (by omega) il ⟨_, rfl, ?_⟩⟩
    rw [hn]
    refine hnew_ok (fun hb => absurd ⟨by omega, by omega⟩ hb) fun h4 hb role G hb2 rp fr k4 => ⟨_, _, rfl, num_ok ⟨_, rfl, Cond_f rfl ?_⟩⟩
    rw [Int.toNat_natCast] at rp
    have rowT4 := kept_row k4 rowT _root_.id
    have x4 : HSt h4 ⟨hb, role, G, []⟩ (RS.new n) := ⟨rp, v0⟩
    unfold f5K1
    refine Cond_f rfl (Cond_f rfl (row_st rowT4 (i := 1) (add_ad _ _) (by simp) fun h5 row5 k5 => ?_))
    have hlt := row_lt rowT
    have fT : ∀ b, role b ≠ .out → h1.size < b := fun b hb => Nat.lt_of_lt_of_le hlt (fr b hb)
    refine ⟨0, by omega, rfl, rfl, ⟨Nat.le_trans k3.1 (Nat.le_trans k4.1 k5.1), fun j hj _ => (k5.2 j (by have := k3.1; have := k4.1; omega) (by omega)).trans ((k3.trans k4).2 j hj _root_.id)⟩, .inr (.inr ⟨rfl, rfl, q1, ⟨hb, role, G, []⟩, ⟨⟨(x1.keepN k4).rp.keep k5 fun b (e : b = h1.size) => Classical.byContradiction fun hn => by have := f1 b hn; omega, v0⟩, ⟨x4.rp.keep k5 fun b (e : b = h1.size) => Classical.byContradiction fun hn => by have := fT b hn; omega, v0⟩, row5, fun b hb1 => Classical.byContradiction fun hn => ?_, Classical.byContradiction fun hn => by have := f1 _ hn; omega, Classical.byContradiction fun hn => by have := fT _ hn; omega⟩, fun b hf => ?_⟩)⟩
    · have hfr := fr b hn
      exact hb1 (x1.fr hfr)
    · rcases hf with e | e | e
      · omega
      · exact Nat.le_of_lt (f1 b e)
      · exact Nat.le_of_lt (fT b e)
  · refine Cond_f rfl ?_
    exact tw_loop ⟨tm, sh0, sk0⟩ ⟨k3, ft⟩ row1 (reads_keptN k1 hs) hsn (fun o ho => (ok o ho).keepN k1) rfl fun h' k' => hR h' (k1.trans k')
end
end Go.Ev
set_option linter.all false
set_option maxRecDepth 100000
namespace Go.Proofs.Ytdkopnbjommjdaa
open Go.ChangeShapes Go.WideShapes Go.ChangeAt Go.RowKit
open Go.Ev (Reads ReadsO uv bv iv slV I64 Sl Opn OpnOk Lists)
theorem c48 : Try.prog.cellsOf 48 = 2 := by kernel_rfl
theorem c49 : Try.prog.cellsOf 49 = 1 := by kernel_rfl
theorem c51 : Try.prog.cellsOf 51 = 3 := by kernel_rfl
theorem c57 : Try.prog.cellsOf 57 = 1 := by kernel_rfl
theorem c59 : Try.prog.cellsOf 59 = 8 := by kernel_rfl
section
variable {H : Type} {enc : TypeId × Value → H} {W : World}
theorem bulk_pos (d : DataW H) : 1 ≤ Rows.uptoBulk d := by
  cases d with
  | lit l => cases l <;> simp [Rows.uptoBulk]
  | _ => simp [Rows.uptoBulk]
theorem bulk_len : ∀ ds : List (DataW H), ds.length ≤ Rows.uptoBulkAll ds
  | [] => Nat.zero_le _
  | d :: ds => by
    have := bulk_pos d
    have := bulk_len ds
    simp only [Rows.uptoBulkAll, List.length_cons]
    omega
theorem bulk_mem : ∀ {ds : List (DataW H)} {d : DataW H}, d ∈ ds → Rows.uptoBulk d ≤ Rows.uptoBulkAll ds
  | d0 :: ds, d, h => by
    simp only [Rows.uptoBulkAll]
    rcases List.mem_cons.1 h with rfl | h
    · omega
    · have := bulk_mem h
      omega
theorem bulk_flat : ∀ (parts : List (List Nat)) (ds : List (DataW H)), parts.length = ds.length → (∀ (i : Nat) (p : List Nat) (d : DataW H), parts[i]? = some p → ds[i]? = some d → p.length ≤ Rows.uptoBulk d) → parts.flatten.length ≤ Rows.uptoBulkAll ds
  | [], ds, _, _ => Nat.zero_le _
  | p :: parts, [], h, _ => by cases h
  | p :: parts, d :: ds, h, hp => by
    have h0 := hp 0 p d rfl rfl
    have h1 := bulk_flat parts ds (by simpa using h) fun i p d a b => hp (i + 1) p d a b
    simp only [Rows.uptoBulkAll, List.flatten_cons, List.length_append]
    omega
theorem bytes_bulk {n : Nat} {d : Sl} {x : DataW H × List MemPlace} (h : DataW.trod enc Try.prog W 0 (fun _ => true) true n 22 [slV d] = some x) : d.n ≤ Rows.uptoBulk x.1 := by
  rcases DataW.trod_slice Try.underlying22 h with ⟨hc, _⟩ | ⟨a, len, cap, elems, rest, k, _, hc, rfl, _, _, _, hlen, _⟩
  · have hc : slV d = .slice none 0 0 := (List.cons.inj hc).1
    unfold slV at hc
    injection hc with _ e _
    omega
  · have hc : slV d = .slice (some a) len cap := (List.cons.inj hc).1
    unfold slV at hc
    injection hc with _ e _
    have := bulk_len (elems.map (·.1))
    simp only [Rows.uptoBulk]
    rw [List.length_map] at this
    omega
theorem lists_of {n : Nat} {v : Value} {x : DataW H × List MemPlace} (h : DataW.trod enc Try.prog W 0 (fun _ => true) true n 57 [v] = some x) (hw : ∀ m ∈ x.1.weights Try.prog 57, m ≤ reachBytes) :
    ∃ (pa : Sl) (sls : List Sl) (parts : List (List Nat)), v = slV pa ∧ Lists W.heap pa sls parts ∧ sls.length ≤ Rows.uptoBulk x.1 ∧ parts.flatten.length ≤ Rows.uptoBulk x.1 := by
  rcases DataW.trod_slice Try.underlying57 h with ⟨hc, rfl⟩ | ⟨a, len, cap, elems, rest, k, _, hc, rfl, _, _, _, hlen, hel3, _, _⟩
  · refine ⟨⟨none, 0, 0⟩, [], [], (List.cons.inj hc).1, ⟨rfl, rfl, rfl, fun i c p hc => by cases hc⟩, Nat.zero_le _, Nat.zero_le _⟩
  · rw [c22] at hel3
    have each : ∀ i, i < len → ∃ y : Sl × List Nat, Go.Ev.cell W.heap (a.add (i * 1)) = some (slV y.1) ∧ BytesP W.heap y.1 y.2 ∧ ∀ d, (elems.map (·.1))[i]? = some d → y.2.length ≤ Rows.uptoBulk d := fun i hi => by
      have h1 := hel3 i hi
      have hi2 : i < elems.length := by omega
      rw [List.getElem?_eq_getElem hi2] at h1
      obtain ⟨cs1, hc1, hd⟩ := Option.bind_eq_some_iff.1 h1
      obtain ⟨_, hcl, hcc⟩ := World.cells?_some hc1
      match cs1, hcl with
      | [v1], _ =>
        obtain ⟨d1, l1, e1, b1⟩ := bytes_of hd (fun m hm => hw m (by
          simp only [DataW.weights, Try.underlying57, List.mem_cons, List.mem_append]
          exact .inr (.inl (weightsAll_mem (List.mem_map.2 ⟨_, List.getElem_mem hi2, rfl⟩) m hm))))
        have h3 : Go.Ev.cell W.heap ((a.add (i * 1)).add 0) = [v1][0]? := hcc 0 (by omega)
        refine ⟨⟨d1, l1⟩, ?_, b1, fun d hd' => ?_⟩
        · rw [Go.Ev.add_add, Nat.add_zero] at h3
          rw [h3, e1]
          rfl
        · rw [List.getElem?_map, List.getElem?_eq_getElem hi2] at hd'
          obtain rfl := Option.some.inj hd'
          rw [e1] at hd
          have := bytes_bulk hd
          have := b1.2.1
          show l1.length ≤ Rows.uptoBulk (elems[i]).1
          omega
    obtain ⟨f, hf⟩ : ∃ f : Nat → Sl × List Nat, ∀ i, i < len → Go.Ev.cell W.heap (a.add (i * 1)) = some (slV (f i).1) ∧ BytesP W.heap (f i).1 (f i).2 ∧ ∀ d, (elems.map (·.1))[i]? = some d → (f i).2.length ≤ Rows.uptoBulk d :=
      ⟨fun i => if hi : i < len then (each i hi).choose else ⟨⟨none, 0, 0⟩, []⟩, fun i hi => by dsimp only; rw [dif_pos hi]; exact (each i hi).choose_spec⟩
    have b0 := bulk_len (elems.map (·.1))
    have bf := bulk_flat ((List.range len).map fun i => (f i).2) (elems.map (·.1)) (by simp [hlen]) fun i p d hp hd => by
      have hi : i < len := by have := (List.getElem?_eq_some_iff.1 hp).1; simpa using this
      rw [List.getElem?_map, List.getElem?_range hi] at hp
      obtain rfl := Option.some.inj hp
      exact (hf i hi).2.2 d hd
    refine ⟨⟨some a, len, cap⟩, (List.range len).map fun i => (f i).1, (List.range len).map fun i => (f i).2, (List.cons.inj hc).1, ⟨fun j v hj => ?_, by simp, by simp, fun i c p hc' hp => ?_⟩, ?_, ?_⟩
    · rw [List.map_map, List.getElem?_map] at hj
      obtain ⟨i, hi, rfl⟩ := Option.map_eq_some_iff.1 hj
      have hjl : j < len := by have := (List.getElem?_eq_some_iff.1 hi).1; simpa using this
      rw [List.getElem?_range hjl] at hi
      obtain rfl := Option.some.inj hi
      have := (hf j hjl).1
      rw [Nat.mul_one] at this
      exact this
    · have hi : i < len := by have := (List.getElem?_eq_some_iff.1 hp).1; simpa using this
      rw [List.getElem?_map, List.getElem?_range hi] at hc' hp
      obtain rfl := Option.some.inj hc'
      obtain rfl := Option.some.inj hp
      obtain ⟨_, b, _⟩ := hf i hi
      exact ⟨b.1, b.2.1, b.2.2.1, b.2.2.2.1, b.2.2.2.2.1⟩
    · rw [List.length_map] at b0
      simp only [Rows.uptoBulk, List.length_map, List.length_range]
      omega
    · simp only [Rows.uptoBulk]
      omega
theorem opn_of {n : Nat} {cs : List Value} {x : DataW H × List MemPlace} (h : DataW.trod enc Try.prog W 0 (fun _ => true) true n 59 cs = some x) (hw : ∀ m ∈ x.1.weights Try.prog 59, m ≤ reachBytes) (hb : Rows.uptoBulk x.1 ≤ 1048576) : ∃ o : Opn, cs = o.cells ∧ OpnOk W.heap o := by
  obtain ⟨xs, n, _, rfl, hl, hn, hel⟩ := DataW.trod_struct Try.underlying59 h
  rw [c59] at hl
  have e0 : DataW.trod enc Try.prog W 0 (fun _ => true) true n 3 ((cs.drop 0).take (Try.prog.cellsOf 3)) = xs[0]? := hel 0 _ rfl
  have e1 : DataW.trod enc Try.prog W 0 (fun _ => true) true n 3 ((cs.drop 1).take (Try.prog.cellsOf 3)) = xs[1]? := hel 1 _ rfl
  have e2 : DataW.trod enc Try.prog W 0 (fun _ => true) true n 3 ((cs.drop 2).take (Try.prog.cellsOf 3)) = xs[2]? := hel 2 _ rfl
  have e3 : DataW.trod enc Try.prog W 0 (fun _ => true) true n 3 ((cs.drop 3).take (Try.prog.cellsOf 3)) = xs[3]? := hel 3 _ rfl
  have e4 : DataW.trod enc Try.prog W 0 (fun _ => true) true n 3 ((cs.drop 4).take (Try.prog.cellsOf 3)) = xs[4]? := hel 4 _ rfl
  have e5 : DataW.trod enc Try.prog W 0 (fun _ => true) true n 3 ((cs.drop 5).take (Try.prog.cellsOf 3)) = xs[5]? := hel 5 _ rfl
  have e6 : DataW.trod enc Try.prog W 0 (fun _ => true) true n 57 ((cs.drop 6).take (Try.prog.cellsOf 57)) = xs[6]? := hel 6 _ rfl
  have e7 : DataW.trod enc Try.prog W 0 (fun _ => true) true n 22 ((cs.drop 7).take (Try.prog.cellsOf 22)) = xs[7]? := hel 7 _ rfl
  rw [c3] at e0 e1 e2 e3 e4 e5
  rw [c57] at e6
  rw [c22] at e7
  match xs, hn with
  | [x0, x1, x2, x3, x4, x5, x6, x7], _ =>
    match cs, hl with
    | [v0, v1, v2, v3, v4, v5, v6, v7], _ =>
      obtain ⟨n0, a0, _, w0⟩ := DataW.trod_int Try.underlying3 (show DataW.trod enc Try.prog W 0 (fun _ => true) true n 3 [v0] = some x0 from e0)
      obtain ⟨n1, a1, _, w1⟩ := DataW.trod_int Try.underlying3 (show DataW.trod enc Try.prog W 0 (fun _ => true) true n 3 [v1] = some x1 from e1)
      obtain ⟨n2, a2, _, w2⟩ := DataW.trod_int Try.underlying3 (show DataW.trod enc Try.prog W 0 (fun _ => true) true n 3 [v2] = some x2 from e2)
      obtain ⟨n3, a3, _, w3⟩ := DataW.trod_int Try.underlying3 (show DataW.trod enc Try.prog W 0 (fun _ => true) true n 3 [v3] = some x3 from e3)
      obtain ⟨n4, a4, _, w4⟩ := DataW.trod_int Try.underlying3 (show DataW.trod enc Try.prog W 0 (fun _ => true) true n 3 [v4] = some x4 from e4)
      obtain ⟨n5, a5, _, w5⟩ := DataW.trod_int Try.underlying3 (show DataW.trod enc Try.prog W 0 (fun _ => true) true n 3 [v5] = some x5 from e5)
      obtain ⟨pa, sls, parts, q6, ls, g1, g2⟩ := lists_of (show DataW.trod enc Try.prog W 0 (fun _ => true) true n 57 [v6] = some x6 from e6) (fun m hm => hw m (by
        simp only [DataW.weights, Try.underlying59]
        exact DataW.weights_mem_each (j := 6) (t := 57) rfl rfl m hm))
      obtain ⟨d, l, d1, d2, d3, d4, d5, d6, _⟩ := bytes_of (show DataW.trod enc Try.prog W 0 (fun _ => true) true n 22 [v7] = some x7 from e7) (fun m hm => hw m (by
        simp only [DataW.weights, Try.underlying59]
        exact DataW.weights_mem_each (j := 7) (t := 22) rfl rfl m hm))
      simp only [List.cons.injEq, and_true] at a0 a1 a2 a3 a4 a5
      have b6 : Rows.uptoBulk x6.1 ≤ 1048576 := by
        simp only [Rows.uptoBulk] at hb
        have := bulk_mem (ds := [x0, x1, x2, x3, x4, x5, x6, x7].map (·.1)) (d := x6.1) (by simp)
        omega
      refine ⟨⟨n0, n1, n2, n3, n4, n5, pa, d, sls, parts, l⟩, ?_, ⟨i64_of w2, i64_of w3, i64_of w4, i64_of w5, ls, by show sls.length < _; omega, by show parts.flatten.length < _; omega, d2, d3, d4, d5, d6⟩⟩
      show [v0, v1, v2, v3, v4, v5, v6, v7] = [iv n0, iv n1, iv n2, iv n3, iv n4, iv n5, slV pa, slV d]
      rw [a0, a1, a2, a3, a4, a5, q6, d1]
      rfl
theorem bscript_of {n : Nat} {cs : List Value} {x : DataW H × List MemPlace} (h : DataW.trod enc Try.prog W 0 (fun _ => true) true n 51 cs = some x) (hw : ∀ m ∈ x.1.weights Try.prog 51, m ≤ reachBytes) (hb : Rows.uptoBulk x.1 ≤ 1048576) :
    ∃ (l0 l1 : Int) (sl : Sl) (ops : List Opn), cs = [.int .i64 l0, .int .i64 l1, .slice sl.a sl.n sl.c] ∧ I64 l0 ∧ I64 l1 ∧ ReadsO W.heap sl.a (ops.flatMap Opn.cells) ∧ sl.n = ops.length ∧ ∀ o ∈ ops, OpnOk W.heap o := by
  obtain ⟨xs, n, _, rfl, hl, hn, hel⟩ := DataW.trod_struct Try.underlying51 h
  rw [c51] at hl
  have e0 : DataW.trod enc Try.prog W 0 (fun _ => true) true n 48 ((cs.drop 0).take (Try.prog.cellsOf 48)) = xs[0]? := hel 0 _ rfl
  have e1 : DataW.trod enc Try.prog W 0 (fun _ => true) true n 49 ((cs.drop 2).take (Try.prog.cellsOf 49)) = xs[1]? := hel 1 _ rfl
  rw [c48] at e0
  rw [c49] at e1
  match xs, hn with
  | [x0, x1], _ =>
    match cs, hl with
    | [v0, v1, v2], _ =>
      obtain ⟨ys, m, _, rfl, _, hy, hel2⟩ := DataW.trod_array Try.underlying48 (show DataW.trod enc Try.prog W 0 (fun _ => true) true n 48 [v0, v1] = some x0 from e0)
      rw [c3] at hel2
      match ys, hy with
      | [y0, y1], _ =>
        obtain ⟨l0, a0, _, w0⟩ := DataW.trod_int Try.underlying3 (show DataW.trod enc Try.prog W 0 (fun _ => true) true m 3 [v0] = some y0 from hel2 0 (by omega))
        obtain ⟨l1, a1, _, w1⟩ := DataW.trod_int Try.underlying3 (show DataW.trod enc Try.prog W 0 (fun _ => true) true m 3 [v1] = some y1 from hel2 1 (by omega))
        simp only [List.cons.injEq, and_true] at a0 a1
        subst a0 a1
        rcases DataW.trod_slice Try.underlying49 (show DataW.trod enc Try.prog W 0 (fun _ => true) true n 49 [v2] = some x1 from e1) with ⟨hc, _⟩ | ⟨a, len, cap, elems, rest, k, _, hc, rfl, _, _, _, hlen, hel3, _, _⟩
        · simp only [List.cons.injEq, and_true] at hc
          subst hc
          exact ⟨l0, l1, ⟨none, 0, 0⟩, [], rfl, i64_of w0, i64_of w1, rfl, rfl, by simp⟩
        · simp only [List.cons.injEq, and_true] at hc
          subst hc
          rw [c59] at hel3
          have each : ∀ i, i < len → ∃ o : Opn, OpnOk W.heap o ∧ ∀ j v, o.cells[j]? = some v → Go.Ev.cell W.heap (a.add (i * 8 + j)) = some v := fun i hi => by
            have h1 := hel3 i hi
            have hi2 : i < elems.length := by omega
            rw [List.getElem?_eq_getElem hi2] at h1
            obtain ⟨cs1, hc1, hd⟩ := Option.bind_eq_some_iff.1 h1
            obtain ⟨_, hcl, hcc⟩ := World.cells?_some hc1
            obtain ⟨o, ho, hok⟩ := opn_of hd (fun m hm => hw m (by
              simp only [DataW.weights, Try.underlying51]
              refine DataW.weights_mem_each (j := 1) (t := 49) rfl rfl m ?_
              simp only [DataW.weights, Try.underlying49, List.mem_cons, List.mem_append]
              exact .inr (.inl (weightsAll_mem (List.mem_map.2 ⟨_, List.getElem_mem hi2, rfl⟩) m hm)))) (by
              have b1 := bulk_mem (ds := elems.map (·.1)) (d := (elems[i]).1) (List.mem_map.2 ⟨_, List.getElem_mem hi2, rfl⟩)
              simp only [Rows.uptoBulk, Rows.uptoBulkAll, List.map_cons, List.map_nil] at hb
              omega)
            refine ⟨o, hok, fun j v hj => ?_⟩
            have hjl : j < 8 := (List.getElem?_eq_some_iff.1 hj).1
            have h3 : Go.Ev.cell W.heap ((a.add (i * 8)).add j) = cs1[j]? := hcc j hjl
            rw [← Go.Ev.add_add, h3, ho, hj]
          obtain ⟨f, hf⟩ : ∃ f : Nat → Opn, ∀ i, i < len → OpnOk W.heap (f i) ∧ ∀ j v, (f i).cells[j]? = some v → Go.Ev.cell W.heap (a.add (i * 8 + j)) = some v :=
            ⟨fun i => if hi : i < len then (each i hi).choose else ⟨0, 0, 0, 0, 0, 0, ⟨none, 0, 0⟩, ⟨none, 0, 0⟩, [], [], []⟩, fun i hi => by dsimp only; rw [dif_pos hi]; exact (each i hi).choose_spec⟩
          refine ⟨l0, l1, ⟨some a, len, cap⟩, (List.range len).map f, rfl, i64_of w0, i64_of w1, ?_, by simp, fun o ho => ?_⟩
          · intro j v hj
            have hjl : j < len * 8 := by
              have := (List.getElem?_eq_some_iff.1 hj).1
              rw [Go.Ev.flat_len (sz := 8) (fun _ => rfl)] at this
              simpa using this
            have hd : j = j / 8 * 8 + j % 8 := by omega
            have hi : j / 8 < len := by omega
            have h4 := Go.Ev.flat_at (sz := 8) (f := Opn.cells) (fun _ => rfl) ((List.range len).map f) (j / 8) (j % 8) (f (j / 8)) (by rw [List.getElem?_map, List.getElem?_range hi]; rfl) (by omega)
            rw [← hd, hj] at h4
            have := (hf (j / 8) hi).2 (j % 8) v h4.symm
            rwa [← hd] at this
          · obtain ⟨i, hi, rfl⟩ := List.mem_map.1 ho
            exact (hf i (List.mem_range.1 hi)).1
end
end Go.Proofs.Ytdkopnbjommjdaa
