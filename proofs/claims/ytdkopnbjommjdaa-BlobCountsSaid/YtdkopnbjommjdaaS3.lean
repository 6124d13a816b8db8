/- The law of the statement, and what it leans on. No condition but that it is one. -/
import Derived.Test.YtdkopnbjommjdaaCB
import Derived.Test.YtdkopnbjommjdaaGB
import Derived.Laws.Externs
import Derived.Test.YtdkopnbjommjdaaS4
set_option linter.all false
set_option maxRecDepth 1000000
namespace Go.Ev
open Go.Proofs
/-- How two lists of bytes stand to one another. -/
def cmpL : List Nat → List Nat → Int
  | [], [] => 0
  | [], _ :: _ => -1
  | _ :: _, [] => 1
  | x :: a, y :: b => if x < y then -1 else if y < x then 1 else cmpL a b
theorem cmpL_neg : ∀ a b : List Nat, cmpL a b = - cmpL b a
  | [], [] => rfl
  | [], _ :: _ => rfl
  | _ :: _, [] => rfl
  | x :: a, y :: b => by
    unfold cmpL
    rw [cmpL_neg a b]
    by_cases h1 : x < y
    · rw [if_pos h1, if_neg (by omega), if_pos h1]
    · by_cases h2 : y < x
      · rw [if_neg h1, if_pos h2, if_pos h2]; rfl
      · rw [if_neg h1, if_neg h2, if_neg h2, if_neg h1]
theorem cmpL_range : ∀ a b : List Nat, -1 ≤ cmpL a b ∧ cmpL a b ≤ 1
  | [], [] => by unfold cmpL; omega
  | [], _ :: _ => by unfold cmpL; omega
  | _ :: _, [] => by unfold cmpL; omega
  | x :: a, y :: b => by
    unfold cmpL
    have := cmpL_range a b
    split
    · omega
    · split <;> omega
theorem cmpL_self : ∀ a : List Nat, cmpL a a = 0
  | [] => rfl
  | x :: a => by unfold cmpL; rw [if_neg (by omega), if_neg (by omega)]; exact cmpL_self a
def toBA (l : List Nat) : ByteArray := ⟨(l.map Nat.toUInt8).toArray⟩
theorem toBA_size (l : List Nat) : (toBA l).size = l.length := by unfold toBA ByteArray.size; simp
theorem toBA_get {l : List Nat} {i : Nat} (h : i < l.length) : (toBA l)[i]! = (l.getD i 0).toUInt8 := by
  have hs : i < (toBA l).size := by rw [toBA_size]; exact h
  rw [getElem!_pos (toBA l) i hs, List.getD_eq_getElem?_getD, List.getElem?_eq_getElem h]
  show (l.map Nat.toUInt8).toArray[i]'(by simpa using h) = _
  rw [List.getElem_toArray, List.getElem_map]
  rfl
theorem u8_lt {x y : Nat} (hx : x < 256) (hy : y < 256) : (x.toUInt8 < y.toUInt8) ↔ x < y := by
  rw [UInt8.lt_iff_toNat_lt]
  have e1 : x.toUInt8.toNat = x := by rw [Nat.toUInt8, UInt8.toNat_ofNat']; exact Nat.mod_eq_of_lt hx
  have e2 : y.toUInt8.toNat = y := by rw [Nat.toUInt8, UInt8.toNat_ofNat']; exact Nat.mod_eq_of_lt hy
  rw [e1, e2]
theorem u8_eq {x y : Nat} (hx : x < 256) (hy : y < 256) : (x.toUInt8 = y.toUInt8) ↔ x = y := by
  refine ⟨fun e => ?_, fun e => by rw [e]⟩
  have := congrArg UInt8.toNat e
  have e1 : x.toUInt8.toNat = x := by rw [Nat.toUInt8, UInt8.toNat_ofNat']; exact Nat.mod_eq_of_lt hx
  have e2 : y.toUInt8.toNat = y := by rw [Nat.toUInt8, UInt8.toNat_ofNat']; exact Nat.mod_eq_of_lt hy
  rw [e1, e2] at this
  exact this
/-- The same by the first place at which they part. -/
theorem cmpL_drop : ∀ (i : Nat) (a b : List Nat), i ≤ a.length → i ≤ b.length → (∀ k, k < i → a.getD k 0 = b.getD k 0) → cmpL a b = cmpL (a.drop i) (b.drop i)
  | 0, a, b, _, _, _ => rfl
  | i + 1, [], b, h, _, _ => by simp at h
  | i + 1, x :: a, [], _, h, _ => by simp at h
  | i + 1, x :: a, y :: b, h1, h2, h => by
    have e : x = y := h 0 (by omega)
    subst e
    rw [List.drop_succ_cons, List.drop_succ_cons, ← cmpL_drop i a b (by simpa using h1) (by simpa using h2) fun k hk => by have := h (k + 1) (by omega); simpa using this]
    show (if x < x then (-1 : Int) else if x < x then 1 else cmpL a b) = _
    rw [if_neg (by omega), if_neg (by omega)]
theorem cmpL_at {i : Nat} {a b : List Nat} (ha : i < a.length) (hb : i < b.length) (h : ∀ k, k < i → a.getD k 0 = b.getD k 0) (hne : a.getD i 0 ≠ b.getD i 0) : cmpL a b = if a.getD i 0 < b.getD i 0 then -1 else 1 := by
  rw [cmpL_drop i a b (by omega) (by omega) h, List.drop_eq_getElem_cons ha, List.drop_eq_getElem_cons hb]
  have e1 : a.getD i 0 = a[i] := by rw [List.getD_eq_getElem?_getD, List.getElem?_eq_getElem ha]; rfl
  have e2 : b.getD i 0 = b[i] := by rw [List.getD_eq_getElem?_getD, List.getElem?_eq_getElem hb]; rfl
  rw [e1, e2] at hne ⊢
  unfold cmpL
  split
  · rfl
  · rw [if_pos (by omega)]
theorem cmpL_end {a b : List Nat} (h : ∀ k, k < min a.length b.length → a.getD k 0 = b.getD k 0) : cmpL a b = if a.length < b.length then -1 else if a.length > b.length then 1 else 0 := by
  rw [cmpL_drop (min a.length b.length) a b (Nat.min_le_left _ _) (Nat.min_le_right _ _) h]
  by_cases h1 : a.length < b.length
  · rw [if_pos h1, Nat.min_eq_left (by omega), List.drop_length, List.drop_eq_getElem_cons h1]; rfl
  · by_cases h2 : a.length > b.length
    · rw [if_neg h1, if_pos h2, Nat.min_eq_right (by omega), List.drop_length, List.drop_eq_getElem_cons h2]; rfl
    · rw [if_neg h1, if_neg h2, Nat.min_eq_left (by omega), List.drop_length, List.drop_of_length_le (by omega)]; rfl
theorem ext_cmp {a b : List Nat} (ha : Bytes8 a) (hb : Bytes8 b) : Extern.BytealgCompare.cmp (toBA a) (toBA b) = cmpL a b := by
  have ga : ∀ i, a.getD i 0 < 256 := getD_byte ha
  have gb : ∀ i, b.getD i 0 < 256 := getD_byte hb
  unfold Extern.BytealgCompare.cmp
  rw [toBA_size, toBA_size]
  cases hf : (List.range (min a.length b.length)).find? fun i => (toBA a)[i]! != (toBA b)[i]! with
  | some i =>
    simp only
    have hm := List.find?_some hf
    have hr := List.mem_of_find?_eq_some hf
    have hi := List.mem_range.1 hr
    have before : ∀ k, k < i → a.getD k 0 = b.getD k 0 := fun k hk => by
      obtain ⟨_, j, hj, hji, hb4⟩ := List.find?_eq_some_iff_getElem.1 hf
      have hji : j = i := by simpa using hji
      subst hji
      have := hb4 k hk
      simp only [List.getElem_range, bne_iff_ne, ne_eq, Bool.not_eq_true', Bool.not_eq_eq_eq_not, Bool.not_true] at this
      rw [toBA_get (by omega), toBA_get (by omega)] at this
      have this : ((a.getD k 0).toUInt8 != (b.getD k 0).toUInt8) = false := this
      have this : (a.getD k 0).toUInt8 = (b.getD k 0).toUInt8 := by simpa using this
      exact (u8_eq (ga k) (gb k)).1 this
    rw [toBA_get (by omega), toBA_get (by omega)] at hm ⊢
    have hm : (a.getD i 0).toUInt8 ≠ (b.getD i 0).toUInt8 := by simpa using hm
    rw [cmpL_at (by omega) (by omega) before fun e => hm (by rw [e])]
    by_cases hlt : a.getD i 0 < b.getD i 0
    · rw [if_pos ((u8_lt (ga i) (gb i)).2 hlt), if_pos hlt]
    · rw [if_neg (fun h => hlt ((u8_lt (ga i) (gb i)).1 h)), if_neg hlt]
  | none =>
    simp only
    rw [cmpL_end fun k hk => ?_]
    have := List.find?_eq_none.1 hf k (List.mem_range.2 hk)
    rw [toBA_get (by omega), toBA_get (by omega)] at this
    have this : (a.getD k 0).toUInt8 = (b.getD k 0).toUInt8 := by simpa using this
    exact (u8_eq (ga k) (gb k)).1 this
theorem run_loadBytes {P : Program} {w : World} : ∀ (l : List Nat) (a : Addr) (acc : ByteArray), Reads w.heap a (l.map bv) → (Extern.Bytes.loadBytes a l.length acc).run P w = .ok ⟨acc.data ++ (l.map Nat.toUInt8).toArray⟩ w
  | [], a, acc, _ => by
    show (Pure.pure acc : Sem ByteArray).run P w = _
    rw [run_pure]
    simp
  | c :: l, a, acc, h => by
    have h0 : cell w.heap a = some (bv c) := by have := h 0 (bv c) rfl; rwa [show a.add 0 = a from by cases a with | mk b o s => cases s <;> rfl] at this
    have ht : Reads w.heap (a.add 1) (l.map bv) := fun j v hj => by rw [add_add, Nat.add_comm]; exact h (j + 1) v hj
    show (Bind.bind (Go.load a) _ : Sem ByteArray).run P w = _
    rw [run_bind, run_load h0]
    show (Extern.Bytes.loadBytes (a.add 1) l.length (acc.push (c : Int).toNat.toUInt8)).run P w = _
    have := run_loadBytes (P := P) l (a.add 1) (acc.push (c : Int).toNat.toUInt8) ht
    rw [Int.toNat_natCast] at this ⊢
    refine this.trans ?_
    congr 1
    show (⟨(acc.data.push _) ++ _⟩ : ByteArray) = _
    congr 1
    apply Array.ext'
    simp
section
variable {h h' h2 : Hp} {q q' q2 : HQ} {s s' : RS} {nd : List NodeD} {b t : List Nat} {id : Nat} {R : Value → Hp → Prop}
theorem run_bytesOf {P : Program} {w : World} {a : Sl} {l : List Nat} (rd : ReadsO w.heap a.a (l.map bv)) (n : a.n = l.length) : (Extern.Bytes.bytesOf (.slice a.a a.n a.c)).run P w = .ok (toBA l) w := by
  cases ha : a.a with
  | none =>
    rw [ha] at rd
    have e : l = [] := List.map_eq_nil_iff.1 rd
    subst e
    rfl
  | some p =>
    rw [ha] at rd
    rw [n]
    have := run_loadBytes (P := P) (w := w) l p .empty rd
    refine Eq.trans ?_ (this.trans ?_)
    · rfl
    · congr 1
      show (⟨#[] ++ _⟩ : ByteArray) = ⟨_⟩
      simp
theorem ext_ok {a c : Sl} {l m : List Nat} (ra : ReadsO h a.a (l.map bv)) (na : a.n = l.length) (b8 : Bytes8 l) (rc : ReadsO h c.a (m.map bv)) (nc : c.n = m.length) (c8 : Bytes8 m) :
    ExtTo Try.prog 58 #[.slice a.a a.n a.c, .slice c.a c.n c.c] h (.int .i64 (cmpL l m)) := by
  intro w hw
  subst hw
  rw [run_callFunc_extern (e := Extern.BytealgCompare.compare) Try.func58 (by kernel_rfl) (by kernel_rfl) (by kernel_rfl) (by kernel_rfl)]
  have : (Extern.BytealgCompare.compare #[.slice a.a a.n a.c, .slice c.a c.n c.c]).run Try.prog w = .ok (.int .i64 (cmpL l m)) w := by
    have e : Extern.BytealgCompare.compare #[.slice a.a a.n a.c, .slice c.a c.n c.c] = (do
        let x ← Extern.Bytes.bytesOf (.slice a.a a.n a.c)
        let y ← Extern.Bytes.bytesOf (.slice c.a c.n c.c)
        Pure.pure (goInt (Extern.BytealgCompare.cmp x y)) : Sem Value) := rfl
    rw [e]
    simp only [run_bind, run_bytesOf ra na, run_bytesOf rc nc, run_pure, ext_cmp b8 c8]
    rfl
  rw [this]
  rfl
theorem bcmp_ok {a c : Sl} {l m : List Nat} (ra : ReadsO h a.a (l.map bv)) (na : a.n = l.length) (b8 : Bytes8 l) (rc : ReadsO h c.a (m.map bv)) (nc : c.n = m.length) (c8 : Bytes8 m) (hR : R (.int .i64 (cmpL l m)) h) :
    CallTo Try.prog 31 #[.slice a.a a.n a.c, .slice c.a c.n c.c] h R := by
  refine f31F_ok ?_
  unfold f31F
  exact ⟨_, ext_ok ra na b8 rc nc c8, hR⟩
theorem compare_ok (x : HSt h q s) (B : s.IsB id b) (ok : Okb b) {c : Sl} {m : List Nat} (rc : ReadsO h c.a (m.map bv)) (nc : c.n = m.length) (c8 : Bytes8 m) (hR : ∀ h', Kept N h h' → R (.tuple #[.int .i64 (cmpL b m), .int .i64 0]) h') :
    CallTo Try.prog 13 #[.pointer (some (ad q.hb)), uv (s.ref id), .slice c.a c.n c.c] h R := by
  refine f13F_ok ?_
  unfold f13F
  refine read_ok x B ok fun d h1 row hd k1 => ⟨⟨some (ad d), b.length, b.length⟩, _, rfl, Cond_f rfl ?_⟩
  exact bcmp_ok (a := ⟨some (ad d), b.length, b.length⟩) (row_reads row) rfl ok.b8 (reads_keptN k1 rc) nc c8 ⟨_, rfl, hR h1 k1⟩
/-! ### Count -/
def ones (c : Nat) : Nat := (strC0[c]?.getD 0).toNat
def onesL (l : List Nat) : Nat := (l.map ones).sum
theorem ones_tab : (List.range 256).all (fun c => decide (ones c + ones (255 - c) = 8)) = true := by kernel_rfl
theorem ones_opp {c : Nat} (h : c < 256) : ones c + ones (255 - c) = 8 := by
  have := List.all_eq_true.1 ones_tab c (List.mem_range.2 h)
  exact of_decide_eq_true this
theorem strC0_size : strC0.size = 256 := by kernel_rfl
theorem ones_le {c : Nat} (h : c < 256) : ones c ≤ 8 := by have := ones_opp h; omega
theorem onesL_le {l : List Nat} (h : Bytes8 l) : onesL l ≤ 8 * l.length := by
  induction l with
  | nil => simp [onesL]
  | cons c l ih =>
    have h1 := ones_le (h c (List.mem_cons_self ..))
    have h2 := ih fun x hx => h x (List.mem_cons_of_mem _ hx)
    unfold onesL at h2 ⊢
    simp only [List.map_cons, List.sum_cons, List.length_cons]
    omega
theorem ones_ok {c : Nat} (hc : c < 256) (hR : R (.int .i64 (ones c : Nat)) h) : CallTo Try.prog 29 #[.int .u8 (c : Nat)] h R := by
  refine f29F_ok ?_
  unfold f29F
  have e : IntKind.wrap .i64 ((((strC0[(((c : Nat) : Int)).toNat]?.getD 0).toNat : Nat) : Int)) = ((ones c : Nat) : Int) := by
    rw [Int.toNat_natCast]
    have := ones_le hc
    unfold ones at this ⊢
    rw [wrap_i64' (by omega) (by omega)]
  rw [e]
  exact ⟨⟨by omega, by rw [strC0_size]; omega⟩, hR⟩
theorem count_ok (x : HSt h q s) (B : s.IsB id b) (ok : Okb b) {f n : Int} (hf : -9223372036854775808 ≤ f ∧ f < 9223372036854775808) (hn : -9223372036854775808 ≤ n ∧ n < 9223372036854775808)
    (hbad : ¬ InSp b f n → R (.tuple #[.int .i64 0, .int .i64 42]) h)
    (hgood : ∀ h', InSp b f n → Kept N h h' → R (.tuple #[.int .i64 (onesL ((b.drop f.toNat).take n.toNat) : Nat), .int .i64 0]) h') :
    CallTo Try.prog 11 #[.pointer (some (ad q.hb)), uv (s.ref id), .int .i64 f, .int .i64 n] h R := by
  refine f11F_ok ?_
  unfold f11F
  refine slice_ok x B ok hf hn (fun hb => ⟨⟨none, 0, 0⟩, _, rfl, Cond_t rfl (hbad hb)⟩) fun c h1 hin row hc k1 => ⟨⟨some (ad c), n.toNat, n.toNat⟩, _, rfl, Cond_f rfl ?_⟩
  obtain ⟨i1, i2, i3, i4⟩ := hin
  have hl := ok.len
  generalize hL : (b.drop f.toNat).take n.toNat = L at row hgood
  have hLl : L.length = n.toNat := by rw [← hL]; simp; omega
  have h8 : Bytes8 L := fun y hy => ok.b8 y (by rw [← hL] at hy; exact List.mem_of_mem_drop (List.mem_of_mem_take hy))
  refine f11L1_rule (fun m s12 s26 s27 s28 h' => ∃ i : Nat, i ≤ L.length ∧ m = L.length - i ∧ s12 = ((onesL (L.take i) : Nat) : Int) ∧ s26 = ⟨some (ad c), n.toNat, n.toNat⟩ ∧ s27 = ((L.length : Nat) : Int) ∧ s28 = (i : Int) ∧ h1 = h') L.length
    ⟨0, Nat.zero_le _, rfl, rfl, rfl, by rw [hLl], rfl, rfl⟩ ?_
  rintro m s12 s26 s27 s28 g h2 ⟨i, hi, rfl, rfl, rfl, rfl, rfl, rfl⟩
  unfold f11L1
  refine Cond_dec (fun hlt => ?_) fun hge => ?_
  · have hil : i < L.length := by omega
    have hLi : L[i]? = some (L[i]) := List.getElem?_eq_getElem hil
    have hb8 := h8 _ (List.getElem_mem hil)
    generalize L[i] = y at hLi hb8
    obtain ⟨p, hp, hcell⟩ := readsO_get (row_reads row) (i := i) (v := bv y) (by rw [List.getElem?_map, hLi]; rfl)
    obtain rfl := Option.some.inj hp
    refine ⟨⟨by omega, by show ((i : Nat) : Int) < ((n.toNat : Nat) : Int); omega⟩, PtrOk_mk ⟨((y : Nat) : Int), by rw [Int.toNat_natCast, Nat.mul_one]; exact hcell, ones_ok hb8 ⟨_, rfl, L.length - (i + 1), by omega, i + 1, hil, rfl, ?_, rfl, rfl, by rw [wrap_i64' (by omega) (by omega)]; rfl, rfl⟩⟩⟩
    have e : onesL (L.take (i + 1)) = onesL (L.take i) + ones y := by rw [RS.take_snoc hLi]; unfold onesL; simp
    have h3 : onesL (L.take i) ≤ 8 * (L.take i).length := onesL_le fun z hz => h8 z (List.mem_of_mem_take hz)
    have h4 := ones_le hb8
    have h5 : (L.take i).length ≤ L.length := by rw [List.length_take]; omega
    rw [e, wrap_i64' (by omega) (by omega)]
    omega
  · have hie : i = L.length := by omega
    subst hie
    rw [List.take_length]
    exact hgood h1 ⟨i1, i2, i3, i4⟩ k1
end
end Go.Ev
set_option linter.all false
set_option maxRecDepth 1000000
namespace Go.Ev
open Go.Proofs
theorem cmpL_eq : ∀ {a b : List Nat}, cmpL a b = 0 → a = b
  | [], [], _ => rfl
  | [], _ :: _, h => by unfold cmpL at h; omega
  | _ :: _, [], h => by unfold cmpL at h; omega
  | x :: a, y :: b, h => by
    unfold cmpL at h
    split at h
    · omega
    · split at h
      · omega
      · rw [cmpL_eq h, show x = y by omega]
def opp (l : List Nat) : List Nat := l.map fun c => 255 - c
theorem ones_opps {l : List Nat} (h : Bytes8 l) : onesL l + onesL (opp l) = 8 * l.length := by
  induction l with
  | nil => rfl
  | cons c l ih =>
    have h1 := ones_opp (h c (List.mem_cons_self ..))
    have h2 := ih fun x hx => h x (List.mem_cons_of_mem _ hx)
    unfold onesL opp at h2 ⊢
    simp only [List.map_cons, List.sum_cons, List.length_cons]
    omega
theorem onesL_split (l : List Nat) (m : Nat) : onesL (l.take m) + onesL (l.drop m) = onesL l := by
  conv => rhs; rw [← List.take_append_drop m l]
  unfold onesL
  rw [List.map_append, List.sum_append]
section
variable {h h' h2 : Hp} {q q' q2 : HQ} {s s' : RS} {nd : List NodeD} {b t : List Nat} {id : Nat} {R : Value → Hp → Prop}
theorem cmp2_ok {a c : Sl} {l m : List Nat} (ha : ReadsO h a.a (l.map bv)) (hb : ReadsO h c.a (m.map bv)) (na : a.n = l.length) (nb : c.n = m.length) (hn : l.length < 9223372036854775807) (hR : R (.int .i64 (cmpL l m)) h) :
    CallTo Try.prog 32 #[.slice a.a a.n a.c, .slice c.a c.n c.c] h R := by
  refine f32F_ok ?_
  unfold f32F
  refine f32L1_rule (s0 := a) (s1 := c) (fun q s0 s1 s5 h' => ∃ i : Nat, i ≤ l.length ∧ i ≤ m.length ∧ (∀ k, k < i → l.getD k 0 = m.getD k 0) ∧ q = l.length - i ∧ a = s0 ∧ c = s1 ∧ s5 = (i : Int) ∧ h = h') l.length ⟨0, Nat.zero_le _, Nat.zero_le _, nofun, rfl, rfl, rfl, rfl, rfl⟩ ?_
  rintro q s0 s1 s5 g0 h2 ⟨i, hi, hi2, hpre, rfl, rfl, rfl, rfl, rfl⟩
  have hend : ∀ J, (l.length ≤ i ∨ m.length ≤ i) → f32K1 J (l.length - i) a c (i : Int) false h R := fun J he => by
    have e := cmpL_end (a := l) (b := m) fun k hk => hpre k (by omega)
    rw [e] at hR
    unfold f32K1
    refine Cond_f rfl (Cond_dec (fun h1 => ?_) fun h1 => Cond_dec (fun h2 => ?_) fun h2 => ?_)
    · rw [if_pos (by omega)] at hR; exact hR
    · rw [if_neg (by omega), if_pos (by omega)] at hR; exact hR
    · rw [if_neg (by omega), if_neg (by omega)] at hR; exact hR
  unfold f32L1
  refine Cond_dec (fun hlt => ?_) (fun hlt => hend _ (by omega))
  have hil : i < l.length := by omega
  by_cases him : i < m.length
  · rw [decide_eq_true (show (i : Int) < ((c.n : Nat) : Int) by omega)]
    have e0 : (l.map bv)[i]? = some (bv (l.getD i 0)) := by rw [List.getElem?_map, List.getD_eq_getElem?_getD, List.getElem?_eq_getElem hil]; rfl
    have e1 : (m.map bv)[i]? = some (bv (m.getD i 0)) := by rw [List.getElem?_map, List.getD_eq_getElem?_getD, List.getElem?_eq_getElem him]; rfl
    obtain ⟨p, hp, cp⟩ := readsO_get ha e0
    obtain ⟨p', hp', cp'⟩ := readsO_get hb e1
    unfold f32K1
    have rp : cell h (p.add ((i : Int).toNat * 1)) = some (.int .u8 ((l.getD i 0 : Nat) : Int)) := by rw [Int.toNat_natCast, Nat.mul_one]; exact cp
    have rp' : cell h (p'.add ((i : Int).toNat * 1)) = some (.int .u8 ((m.getD i 0 : Nat) : Int)) := by rw [Int.toNat_natCast, Nat.mul_one]; exact cp'
    refine Cond_t rfl ⟨⟨by omega, hlt⟩, PtrOk_mk' hp ⟨_, rp, ⟨by omega, by omega⟩, PtrOk_mk' hp' ⟨_, rp', Cond_dec (fun hl => ?_) fun hl => ⟨⟨by omega, hlt⟩, PtrOk_mk' hp ⟨_, rp, ⟨by omega, by omega⟩, PtrOk_mk' hp' ⟨_, rp', Cond_dec (fun hg => ?_) fun hg => ?_⟩⟩⟩⟩⟩⟩
    · rw [cmpL_at hil him hpre (by omega), if_pos (by omega)] at hR; exact hR
    · rw [cmpL_at hil him hpre (by omega), if_neg (by omega)] at hR; exact hR
    · refine ⟨l.length - (i + 1), by omega, i + 1, hil, him, fun k hk => ?_, rfl, rfl, rfl, ?_, rfl⟩
      · by_cases hki : k = i
        · subst hki; omega
        · exact hpre k (by omega)
      · rw [wrap_i64' (by omega) (by omega)]; rfl
  · rw [decide_eq_false (show ¬ (i : Int) < ((c.n : Nat) : Int) by omega)]
    exact hend _ (.inr (by omega))
theorem eq2_ok {a c : Sl} {l m : List Nat} (ha : ReadsO h a.a (l.map bv)) (hb : ReadsO h c.a (m.map bv)) (na : a.n = l.length) (nb : c.n = m.length) (hn : l.length < 9223372036854775807) (hR : R (.bool (cmpL l m == 0)) h) :
    CallTo Try.prog 14 #[.slice a.a a.n a.c, .slice c.a c.n c.c] h R := by
  refine f14F_ok ?_
  unfold f14F
  exact cmp2_ok ha hb na nb hn ⟨_, rfl, hR⟩
theorem reads_nil (h : Hp) (a : Option Addr) : ReadsO h a [] := by
  cases a with
  | none => rfl
  | some p => intro j v hj; cases hj
theorem reads_drop {a : Option Addr} {l : List Value} (r : ReadsO h a l) (m c : Nat) (hc : l.length ≤ c) : ReadsO h (if c = m then a else Option.map (fun x => x.add (m * 1)) a) (l.drop m) := by
  by_cases hcm : c = m
  · rw [List.drop_of_length_le (by omega)]
    exact reads_nil h _
  · rw [if_neg hcm]
    cases a with
    | none =>
      have e : l = [] := r
      subst e
      rw [List.drop_nil]
      rfl
    | some p =>
      intro j v hj
      rw [List.getElem?_drop] at hj
      have := r (m + j) v hj
      show cell h ((p.add (m * 1)).add j) = some v
      rw [add_add, Nat.mul_one]
      exact this
theorem reads_take {a : Option Addr} {l : List Value} (r : ReadsO h a l) (m c : Nat) : ReadsO h (if c = (0 : Int).toNat then a else Option.map (fun x => x.add ((0 : Int).toNat * 1)) a) (l.take m) := by
  have h0 : ReadsO h a (l.take m) := by
    cases a with
    | none =>
      have e : l = [] := r
      subst e
      rw [List.take_nil]
      rfl
    | some p =>
      intro j v hj
      rw [List.getElem?_take] at hj
      split at hj
      · exact r j v hj
      · cases hj
  split
  · exact h0
  · cases a with
    | none => exact h0
    | some p =>
      intro j v hj
      have := h0 j v hj
      have e : p.add ((0 : Int).toNat * 1) = p := by cases p with | mk b o s => cases s <;> rfl
      show cell h ((p.add ((0 : Int).toNat * 1)).add j) = some v
      rw [e]
      exact this
theorem counts_ok {sA sB sW : Sl} {A Bt : List Nat} {at_ num : Int} {wl : List Int} (rA : ReadsO h sA.a (A.map bv)) (nA : sA.n = A.length) (bA : Bytes8 A) (lA : A.length < 140737488355328) (oA : ∀ p, sA.a = some p → A ≠ [] → p.block < h.size) (cA : sA.n ≤ sA.c)
    (rB : ReadsO h sB.a (Bt.map bv)) (nB : sB.n = Bt.length) (bB : Bytes8 Bt) (lB : Bt.length < 140737488355328) (oB : ∀ p, sB.a = some p → Bt ≠ [] → p.block < h.size) (hat : I64 at_)
    (rW : ReadsO h sW.a (wl.map iv)) (nW : sW.n = wl.length) (lW : wl.length < 9223372036854775807) (iW : ∀ n ∈ wl, I64 n) (oW : ∀ p, sW.a = some p → wl ≠ [] → p.block < h.size) (hR : ∀ h', Kept N h h' → R (.bool true) h') :
    CallTo Try.prog 3 #[.agg #[.slice sA.a sA.n sA.c, .slice sB.a sB.n sB.c, .int .i64 at_, .int .i64 num, .slice sW.a sW.n sW.c]] h R := by
  refine f3F_ok ?_
  unfold f3F
  refine Let_mk fun h1 e1 => ?_
  have k1 : Kept N h h1 := e1 ▸ kept_push _ _ _
  have row1 : Row h1 h.size [slV sA, slV sB, .int .i64 at_, .int .i64 num, slV sW] := e1 ▸ row_new h _ 25
  have enb : nb h = ad h.size := rfl
  rw [enb]
  have hz : h.size < h1.size := row_lt row1
  have cR : ∀ {h'}, Row h' h.size [slV sA, slV sB, .int .i64 at_, .int .i64 num, slV sW] → ∀ j, cell h' ((ad h.size).add j) = ([slV sA, slV sB, .int .i64 at_, .int .i64 num, slV sW] : List Value)[j]? := fun r j => by rw [add_ad]; exact cell_row r j
  have cR0 : ∀ {h'}, Row h' h.size [slV sA, slV sB, .int .i64 at_, .int .i64 num, slV sW] → cell h' (ad h.size) = some (slV sA) := fun r => (cell_row r 0).trans rfl
  have skip : ∀ b, b = true → f3K1 (ad h.size) b h1 R := fun b hb => by unfold f3K1; exact Cond_t hb (hR h1 k1)
  have main : A.length ≤ 4096 → Bt.length ≤ 4096 → f3K1 (ad h.size) false h1 R := fun gA gB => by
    have okA : Okb A := ⟨bA, gA⟩
    have okB : Okb Bt := ⟨bB, gB⟩
    have okO : Okb (opp A) := ⟨fun c hc => by unfold opp at hc; obtain ⟨x, _, rfl⟩ := List.mem_map.1 hc; omega, by unfold opp; rw [List.length_map]; exact gA⟩
    have mapne : ∀ {α : Type} {f : α → Value} {l : List α}, l.map f ≠ [] → l ≠ [] := fun hn e => hn (by rw [e]; rfl)
    unfold f3K1
    refine Cond_f rfl (hnew_ok (fun hn => absurd ⟨by omega, by omega⟩ hn) fun h2 hb role G hn rp fr k2 => ⟨_, _, rfl, num_ok ⟨_, rfl, Cond_f rfl (Cond_f rfl ?_)⟩⟩)
    have row2 := kept_row k2 row1 _root_.id
    have e262 : (262144 : Int).toNat = 262144 := rfl
    rw [e262] at rp
    have v0 := RS.new_inv (n := 262144) (by omega) (by omega)
    obtain ⟨q0, hq0⟩ : ∃ q0 : HQ, q0 = ⟨hb, role, G, []⟩ := ⟨_, rfl⟩
    have x2 : HSt h2 q0 (RS.new 262144) := by rw [hq0]; exact ⟨rp, v0⟩
    have eqb : q0.hb = hb := by rw [hq0]
    have outL : ∀ c, c < h1.size → q0.role c = .out := fun c hc => by rw [hq0]; exact Classical.byContradiction fun hn => by have := fr c hn; omega
    rw [← eqb]
    clear rp fr eqb hq0
    have sh0 : (RS.new 262144).Shd [⟨0, [], []⟩] := ⟨rfl, fun id hid => by unfold RS.here RS.new at hid; simp at hid⟩
    have k02 := k1.trans k2
    have hz2 : h1.size ≤ h2.size := k2.1
    let M0 : Mem := ⟨fun _ => none, fun _ => []⟩
    have sp0 : Sep h2 M0 := ⟨(fun y b hy => by cases hy), fun y z b hy _ => by cases hy⟩
    refine f3L1_rule (s5 := ⟨none, 0, 0⟩) (fun m s1 s3 s5 s6 h' => ∃ (i : Nat) (M : Mem), i ≤ A.length ∧ m = A.length - i ∧ s1 = ad h.size ∧ s3 = some (ad q0.hb) ∧ s6 = (i : Int) ∧ IsSl 1 M 0 s5 ((opp (A.take i)).map bv) ∧ Sep h' M ∧ Kept N h2 h' ∧ (∀ b, M.own b → h2.size ≤ b)) A.length
      ⟨0, M0, Nat.zero_le _, rfl, rfl, rfl, rfl, ⟨rfl, fun _ => ⟨rfl, rfl, rfl⟩, fun b hb => by cases hb⟩, sp0, Kept.refl _ _, fun b ⟨y, hy⟩ => by cases hy⟩ ?_
    rintro m s1 s3 s5 s6 g h3 ⟨i, M, hi, rfl, rfl, rfl, rfl, sl5, sep3, k3, own3⟩
    have k03 := k02.trans k3
    have row3 := kept_row k3 row2 _root_.id
    have x3 := x2.keepN k3
    unfold f3L1
    refine ⟨sA, cR0 row3, Cond_dec (fun hlt => ?_) fun hge => ?_⟩
    · have hil : i < A.length := by omega
      have hAi : A[i]? = some (A[i]) := List.getElem?_eq_getElem hil
      have hc8 := bA _ (List.getElem_mem hil)
      generalize A[i] = y at hAi hc8
      obtain ⟨pa, hpa, hca⟩ := readsO_get (reads_keptN k03 rA) (i := i) (v := bv y) (by rw [List.getElem?_map, hAi]; rfl)
      refine ⟨sA, cR0 row3, ⟨by omega, hlt⟩, PtrOk_of hpa ⟨((y : Nat) : Int), by rw [Int.toNat_natCast, Nat.mul_one]; exact hca, ?_⟩⟩
      have ew : IntKind.wrap .u8 ((255 : Int) - ((y : Nat) : Int)) = ((255 - y : Nat) : Int) := by rw [wrap_u8']; omega
      rw [ew]
      have ln : s5.n = i := by have := sl5.len; unfold opp at this; simp at this; omega
      refine sl5.app1 sep3 rfl rfl (fun v hv => by simp at hv; rw [hv]; rfl) (by omega) (by omega) fun a' c' h4 ob cs sep4 sl4 ch4 => ?_
      refine ⟨A.length - (i + 1), by omega, i + 1, _, hil, rfl, rfl, rfl, by rw [wrap_i64' (by omega) (by omega)]; rfl, ?_, sep4, ⟨Nat.le_trans k3.1 ch4.1.1, fun c hc _ => (ch4.1.2 c (Nat.lt_of_lt_of_le hc k3.1) (fun ho => by have := own3 c ho; omega)).trans (k3.2 c hc _root_.id)⟩, fun c hc => ?_⟩
      · have e : (opp (A.take i)).map bv ++ #[Value.int .u8 ((255 - y : Nat) : Int)].toList = (opp (A.take (i + 1))).map bv := by
          rw [RS.take_snoc hAi]; unfold opp; simp; rfl
        rw [e] at sl4
        exact sl4
      · rcases ch4.2 c hc with hc | hc
        · exact own3 c hc
        · exact Nat.le_trans k3.1 hc
    · have hie : i = A.length := by omega
      subst hie
      rw [List.take_length] at sl5
      have r5 : ReadsO h3 s5.a ((opp A).map bv) := slAt_reads (sl5.slAt sep3)
      have n5 : s5.n = (opp A).length := by have := sl5.len; rw [List.length_map] at this; omega
      have o5 : ∀ p, s5.a = some p → opp A ≠ [] → h2.size ≤ p.block ∧ p.block < h3.size := fun p hp hne => by
        obtain ⟨b, hb1, hb2⟩ := sl5.some_of (fun e => hne (List.map_eq_nil_iff.1 e))
        rw [hb2] at hp
        obtain rfl := Option.some.inj hp
        exact ⟨own3 b ⟨0, hb1⟩, sep3.lt hb1⟩
      have src0 : ∀ {a : Sl} {l : List Nat}, ReadsO h a.a (l.map bv) → a.n = l.length → Bytes8 l → (∀ p, a.a = some p → l ≠ [] → p.block < h.size) → Src h3 q0 a l := fun {a l} r n b8 o =>
        ⟨reads_keptN k03 r, n, b8, fun p hp hne => ⟨outL _ (by have := o p hp hne; omega), by have := o p hp hne; have := k3.1; omega⟩⟩
      have srcA := src0 rA nA bA oA
      have srcB := src0 rB nB bB oB
      have srcO : Src h3 q0 s5 (opp A) := ⟨r5, n5, okO.b8, fun p hp hne => ⟨x2.fr (o5 p hp hne).1, (o5 p hp hne).2⟩⟩
      have rW3 := reads_keptN k03 rW
      refine ⟨sA, cR0 row3, made_ok x3 sh0 okA srcA.rd srcA.n (fun p hp hne => (srcA.out p hp hne).2) (by show (0 : Nat) < _; omega) (fun _ hx => by cases hx) (by show (0 : Nat) ≤ _; omega) rfl fun h4 q4 s4 x4 ex4 sh4 rt4 lm4 => ⟨_, rfl, ?_⟩⟩
      have rt4 : s4.roots = [some 1] := rt4
      have row4 := ex4.row row3 (outL _ hz)
      have hh4 : s4.here 1 := (x4.v.rt 1 (by rw [rt4]; exact List.mem_cons_self ..)).resolve_left (by omega)
      have B4 := blob_node (b := A) x4.v sh4 hh4 rfl
      have rl4 : s4.roots.length < 100000000 := by rw [rt4]; simp
      have srcB4 := srcB.ex ex4
      rw [← ex4.1]
      refine ⟨sB, (cR row4 1).trans rfl, made_ok x4 sh4 okB srcB4.rd srcB4.n (fun p hp hne => (srcB4.out p hp hne).2) rl4 (fun x hx => by rw [rt4] at hx; simp at hx; rw [hx]; exact B4.refs) (by
        have e : s4.heldL = [1] := by unfold RS.heldL; rw [rt4]; rfl
        rw [e]; unfold RS.sizes; have := blob_size B4 okA; simp; omega) lm4 fun h5 q5 s5' x5 ex5 sh5 rt5 lm5 => ⟨_, rfl, ?_⟩⟩
      rw [rt4] at rt5 ⊢
      have rt5 : s5'.roots = [some 1, some 2] := rt5
      have out4 : ∀ c, c < h1.size → q4.role c = .out := fun c hc => ex4.out (by have := k3.1; omega) (outL c hc)
      have row5 := ex5.row row4 (out4 _ hz)
      have h1_5 : s5'.here 1 := (x5.v.rt 1 (by rw [rt5]; simp)).resolve_left (by omega)
      have h2_5 : s5'.here 2 := (x5.v.rt 2 (by rw [rt5]; simp)).resolve_left (by omega)
      have B51 := blob_node (b := A) x5.v sh5 h1_5 rfl
      have B52 := blob_node (b := Bt) x5.v sh5 h2_5 rfl
      have srcO5 := srcO.ex (ex4.trans ex5)
      rw [← ex5.1]
      refine made_ok x5 sh5 okO srcO5.rd srcO5.n (fun p hp hne => (srcO5.out p hp hne).2) (by rw [rt5]; simp) (fun x hx => by
        rw [rt5] at hx; simp at hx
        rcases hx with e | e
        · rw [e]; exact B51.refs
        · rw [e]; exact B52.refs) (by
        have e : s5'.heldL = [1, 2] := by unfold RS.heldL; rw [rt5]; rfl
        rw [e]; unfold RS.sizes; have := blob_size B51 okA; have := blob_size B52 okB; simp; omega) lm5 fun h6 q6 s6' x6 ex6 sh6 rt6 lm6 => ⟨_, rfl, ?_⟩
      rw [rt5] at rt6 ⊢
      have rt6 : s6'.roots = [some 1, some 2, some 3] := rt6
      have ex36 := (ex4.trans ex5).trans ex6
      have out6 : ∀ c, c < h1.size → q6.role c = .out := fun c hc => ex36.out (by have := k3.1; omega) (outL c hc)
      have row6 := ex36.row row3 (outL _ hz)
      have rW6 : ReadsO h6 sW.a (wl.map iv) := reads_kept2 ex36.kept rW3 fun p hp hne => ⟨by have := oW p hp (mapne hne); have := k3.1; omega, fun hx => hx (outL _ (by have := oW p hp (mapne hne); omega))⟩
      have z36 := ex36.2.1
      rw [← ex6.1]
      refine ⟨sW, (cR row6 4).trans rfl, waste_ok x6 sh6 rW6 nW lW iW (fun p hp hne => ⟨out6 _ (by have := oW p hp hne; omega), by have := oW p hp hne; have := k3.1; omega⟩) fun h7 q7 s7 nd7 x7 ex7 id7 => ⟨rfl, Cond_f rfl (Cond_f rfl (Cond_f rfl ?_))⟩⟩
      have rt7 : s7.roots = [some 1, some 2, some 3] := id7.rt.trans rt6
      have ex37 := ex36.trans ex7
      have row7 := ex7.row row6 (out6 _ hz)
      have h71 : s7.here 1 := (x7.v.rt 1 (by rw [rt7]; simp)).resolve_left (by omega)
      have h72 : s7.here 2 := (x7.v.rt 2 (by rw [rt7]; simp)).resolve_left (by omega)
      have h73 : s7.here 3 := (x7.v.rt 3 (by rw [rt7]; simp)).resolve_left (by omega)
      have B1 := blob_node (b := A) x7.v id7.sh h71 (id7.gr 1 _ rfl)
      have B2 := blob_node (b := Bt) x7.v id7.sh h72 (id7.gr 2 _ rfl)
      have B3 := blob_node (b := opp A) x7.v id7.sh h73 (id7.gr 3 _ rfl)
      have a1 : s7.atF ((1 : Nat) : Int) = (s7.ref 1, 0) := hand_at2 x7.v (n := 0) (i := 1) (by rw [rt7]; rfl)
      have a2 : s7.atF ((2 : Nat) : Int) = (s7.ref 2, 0) := hand_at2 x7.v (n := 1) (i := 2) (by rw [rt7]; rfl)
      have a3 : s7.atF ((3 : Nat) : Int) = (s7.ref 3, 0) := hand_at2 x7.v (n := 2) (i := 3) (by rw [rt7]; rfl)
      have srcA7 := srcA.ex ex37
      have srcB7 := srcB.ex ex37
      have kEnd : Kept N h h7 := k1.trans ⟨by have := ex37.2.1; have := k3.1; omega, fun c hc _ => by
        have hA : h7[c]? = h3[c]? := (ex37.2.2 c (by have := k3.1; omega) (outL c hc)).2
        have hB : h3[c]? = h2[c]? := k3.2 c (by omega) _root_.id
        have hC : h2[c]? = h1[c]? := k2.2 c hc _root_.id
        rw [hA, hB, hC]⟩
      clear x6 sh6 rt6 lm6 x5 sh5 rt5 lm5 x4 sh4 rt4 lm4 B51 B52 B4 srcO5 srcB4 rW6 rW3
      have f1 : RS.freeAt (RS.new 262144).roots + 1 = 1 := rfl
      have f2 : RS.freeAt [some 1] + 1 = 2 := rfl
      have f3 : RS.freeAt [some 1, some 2] + 1 = 3 := rfl
      rw [f1, f2, f3, ← ex7.1]
      refine ⟨sA, cR0 row7, _, (cR row7 2).trans rfl, ?_⟩
      have en1 : IntKind.wrap .i64 (((sA.n : Nat) : Int) + 1) = ((A.length + 1 : Nat) : Int) := by rw [wrap_i64' (by omega) (by omega)]; omega
      rw [en1]
      refine into_ok (by omega) (by omega) hat ⟨_, rfl, ?_⟩
      have m1 := Int.emod_nonneg at_ (b := ((A.length + 1 : Nat) : Int)) (by omega)
      have m2 := Int.emod_lt_of_pos at_ (b := ((A.length + 1 : Nat) : Int)) (by omega)
      obtain ⟨m, hm⟩ : ∃ m : Nat, at_ % ((A.length + 1 : Nat) : Int) = (m : Int) := ⟨(at_ % ((A.length + 1 : Nat) : Int)).toNat, by omega⟩
      rw [hm] at m1 m2 ⊢
      have hmA : m ≤ A.length := by omega
      have esub : IntKind.wrap .i64 (((sA.n : Nat) : Int) - ((m : Nat) : Int)) = ((A.length - m : Nat) : Int) := by rw [wrap_i64' (by omega) (by omega)]; omega
      rw [esub]
      have lO : (opp A).length = A.length := by unfold opp; rw [List.length_map]
      have e1 : (A.drop (0 : Int).toNat).take ((m : Nat) : Int).toNat = A.take m := by rw [Int.toNat_natCast]; rfl
      have e2 : (A.drop ((m : Nat) : Int).toNat).take ((A.length - m : Nat) : Int).toNat = A.drop m := by rw [Int.toNat_natCast, Int.toNat_natCast, List.take_of_length_le (by rw [List.length_drop]; omega)]
      have e3 : (A.drop (0 : Int).toNat).take ((sA.n : Nat) : Int).toNat = A := by rw [Int.toNat_natCast]; show (A.drop 0).take _ = A; rw [List.drop_zero, List.take_of_length_le (by omega)]
      have e4 : ((opp A).drop (0 : Int).toNat).take ((sA.n : Nat) : Int).toNat = opp A := by rw [Int.toNat_natCast]; show ((opp A).drop 0).take _ = opp A; rw [List.drop_zero, List.take_of_length_le (by omega)]
      have b1 : onesL (A.take m) ≤ 8 * A.length := by have := onesL_le (l := A.take m) (fun z hz' => bA z (List.mem_of_mem_take hz')); have : (A.take m).length ≤ A.length := (by rw [List.length_take]; omega); omega
      have b2 : onesL (A.drop m) ≤ 8 * A.length := by have := onesL_le (l := A.drop m) (fun z hz' => bA z (List.mem_of_mem_drop hz')); have : (A.drop m).length ≤ A.length := (by rw [List.length_drop]; omega); omega
      have b3 := onesL_le bA
      have sp := onesL_split A m
      have op := ones_opps bA
      refine at_ok x7 ⟨_, rfl, ?_⟩
      rw [a1]
      refine count_ok (f := 0) (n := (m : Int)) x7 B1 okA ⟨by omega, by omega⟩ ⟨by omega, by omega⟩ (fun hn => absurd ⟨by omega, by omega, by omega, by omega⟩ hn) fun h8 _ k8 => ⟨_, _, rfl, ?_⟩
      have x8 := x7.keepN k8
      refine at_ok x8 ⟨_, rfl, ?_⟩
      rw [a1, e1]
      refine count_ok (f := (m : Int)) (n := ((A.length - m : Nat) : Int)) x8 B1 okA ⟨by omega, by omega⟩ ⟨by omega, by omega⟩ (fun hn => absurd ⟨by omega, by omega, by omega, by omega⟩ hn) fun h9 _ k9 => ⟨_, _, rfl, ?_⟩
      have x9 := x8.keepN k9
      refine at_ok x9 ⟨_, rfl, ?_⟩
      rw [a1, e2]
      refine count_ok (f := 0) (n := ((sA.n : Nat) : Int)) x9 B1 okA ⟨by omega, by omega⟩ ⟨by omega, by omega⟩ (fun hn => absurd ⟨by omega, by omega, by omega, by omega⟩ hn) fun h10 _ k10 => ⟨_, _, rfl, ?_⟩
      have x10 := x9.keepN k10
      refine at_ok x10 ⟨_, rfl, ?_⟩
      rw [a3, e3]
      refine count_ok (f := 0) (n := ((sA.n : Nat) : Int)) x10 B3 okO ⟨by omega, by omega⟩ ⟨by omega, by omega⟩ (fun hn => absurd ⟨by omega, by omega, by omega, by omega⟩ hn) fun h11 _ k11 => ⟨_, _, rfl, ?_⟩
      have x11 := x10.keepN k11
      rw [e4]
      have k711 := ((k8.trans k9).trans k10).trans k11
      have row11 := kept_row k711 row7 _root_.id
      refine num_ok ⟨_, rfl, Cond_f rfl (num_ok ⟨_, rfl, Cond_f rfl (num_ok ⟨_, rfl, Cond_f rfl (num_ok ⟨_, rfl, Cond_f rfl ?_⟩)⟩)⟩)⟩
      have q1 : IntKind.wrap .i64 (((onesL (A.take m) : Nat) : Int) + ((onesL (A.drop m) : Nat) : Int)) = ((onesL A : Nat) : Int) := by rw [wrap_i64' (by omega) (by omega)]; omega
      have q2 : IntKind.wrap .i64 (((onesL A : Nat) : Int) + ((onesL (opp A) : Nat) : Int)) = ((8 * A.length : Nat) : Int) := by rw [wrap_i64' (by omega) (by omega)]; omega
      have q3 : IntKind.wrap .i64 ((8 : Int) * ((sA.n : Nat) : Int)) = ((8 * A.length : Nat) : Int) := by rw [wrap_i64' (by omega) (by omega)]; omega
      rw [q1, q2, q3]
      refine Cond_f (bne_self_eq_false _) (Cond_f (bne_self_eq_false _) (Cond_f (decide_eq_false (by omega)) (Cond_f (decide_eq_false (by omega)) ?_)))
      refine ⟨((s7.ref 1 : Nat) : Int), at_ok x11 ⟨by rw [a1]; rfl, rfl⟩, sB, (cR row11 1).trans rfl, ?_⟩
      refine compare_ok x11 B1 okA (reads_keptN k711 srcB7.rd) nB bB fun h12 k12 => ⟨_, _, rfl, ?_⟩
      have x12 := x11.keepN k12
      have row12 := kept_row k12 row11 _root_.id
      refine ⟨((s7.ref 2 : Nat) : Int), at_ok x12 ⟨by rw [a2]; rfl, rfl⟩, sA, cR0 row12, ?_⟩
      refine compare_ok x12 B2 okB (reads_keptN (k711.trans k12) srcA7.rd) nA bA fun h13 k13 => ⟨_, _, rfl, ?_⟩
      have x13 := x12.keepN k13
      have k713 := (k711.trans k12).trans k13
      have row13 := kept_row k13 row12 _root_.id
      have rng := cmpL_range A Bt
      have neg := cmpL_neg A Bt
      have q4 : IntKind.wrap .i64 (0 - cmpL Bt A) = cmpL A Bt := by rw [wrap_i64' (by omega) (by omega)]; omega
      refine num_ok ⟨_, rfl, Cond_f rfl (num_ok ⟨_, rfl, Cond_f rfl ?_⟩)⟩
      rw [q4]
      refine Cond_f (bne_self_eq_false _) (Cond_f (decide_eq_false (by omega)) (Cond_f (decide_eq_false (by omega)) ?_))
      refine ⟨sA, cR0 row13, sB, (cR row13 1).trans rfl, eq2_ok (reads_keptN k713 srcA7.rd) (reads_keptN k713 srcB7.rd) nA nB (by omega) ⟨_, rfl, Cond_f (by simp) ?_⟩⟩
      refine at_ok x13 ⟨_, rfl, ?_⟩
      rw [a1]
      refine slice_ok (f := 0) (n := (m : Int)) x13 B1 okA ⟨by omega, by omega⟩ ⟨by omega, by omega⟩ (fun hn => absurd ⟨by omega, by omega, by omega, by omega⟩ hn) fun c1 h14 _ rc1 hc1 k14 => ⟨⟨some (ad c1), m, m⟩, _, by rw [Int.toNat_natCast], ?_⟩
      have x14 := x13.keepN k14
      rw [e1] at rc1
      refine at_ok x14 ⟨_, rfl, ?_⟩
      rw [a1]
      refine slice_ok (f := (m : Int)) (n := ((A.length - m : Nat) : Int)) x14 B1 okA ⟨by omega, by omega⟩ ⟨by omega, by omega⟩ (fun hn => absurd ⟨by omega, by omega, by omega, by omega⟩ hn) fun c2 h15 _ rc2 hc2 k15 => ⟨⟨some (ad c2), A.length - m, A.length - m⟩, _, by rw [Int.toNat_natCast], ?_⟩
      rw [e2] at rc2
      have k715 := (k713.trans k14).trans k15
      have row15 := kept_row (k14.trans k15) row13 _root_.id
      have rA15 := reads_keptN k715 srcA7.rd
      refine num_ok ⟨_, rfl, Cond_f rfl (num_ok ⟨_, rfl, Cond_f rfl (Cond_f (bne_self_eq_false _) (Cond_f (bne_self_eq_false _) ⟨sA, cR0 row15, ⟨by omega, by omega⟩, ⟨by omega, by omega⟩, ?_⟩))⟩)⟩
      have tk : (A.map bv).take m = (A.take m).map bv := by rw [List.map_take]
      have dp : (A.map bv).drop m = (A.drop m).map bv := by rw [List.map_drop]
      rw [Int.toNat_natCast]
      refine eq_ok (a := ⟨some (ad c1), m, m⟩) (c := ⟨if sA.c = (0 : Int).toNat then sA.a else Option.map (fun x => x.add ((0 : Int).toNat * 1)) sA.a, m - (0 : Int).toNat, sA.c - (0 : Int).toNat⟩) (l := A.take m) (reads_keptN k15 (row_reads rc1)) (by rw [← tk]; exact reads_take rA15 m sA.c)
        (by show m = _; rw [List.length_take]; omega) (by show m - 0 = _; rw [List.length_take]; omega) (by rw [List.length_take]; omega) ⟨_, rfl, Cond_t rfl ⟨sA, cR0 row15, ⟨by omega, by omega⟩, ?_⟩⟩
      refine eq_ok (a := ⟨some (ad c2), A.length - m, A.length - m⟩) (c := ⟨if sA.c = m then sA.a else Option.map (fun x => x.add (m * 1)) sA.a, sA.n - m, sA.c - m⟩) (l := A.drop m) (row_reads rc2) (by rw [← dp]; exact reads_drop rA15 m sA.c (by rw [List.length_map]; omega))
        (by show A.length - m = _; rw [List.length_drop]) (by show sA.n - m = _; rw [List.length_drop]; omega) (by rw [List.length_drop]; omega) ⟨_, rfl, hR _ (kEnd.trans k715)⟩
  refine ⟨sA, cR0 row1, Cond_dec (fun _ => skip _ rfl) fun c1 => ⟨sB, (cR row1 1).trans rfl, ?_⟩⟩
  by_cases hb4 : ((sB.n : Nat) : Int) > 4096
  · exact skip _ (decide_eq_true hb4)
  · rw [decide_eq_false hb4]
    exact main (by omega) (by omega)
end
end Go.Ev
