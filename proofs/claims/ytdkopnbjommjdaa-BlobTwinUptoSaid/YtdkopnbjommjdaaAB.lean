/- The arena's bytes: span, Bytes, SetBytes. No condition but that the block is one. -/
import Derived.Test.YtdkopnbjommjdaaAS
set_option linter.all false
set_option maxRecDepth 100000
namespace Go.Ev
open Go.Proofs
def byteAt (raws : List Nat) (j : Nat) : Nat := raws.getD (j / 8) 0 / 2 ^ (j % 8 * 8) % 256
def putW (w s c : Nat) : Nat := 2 ^ s * (2 ^ 8 * (w / 2 ^ (s + 8)) + c) + w % 2 ^ s
def putByte (raws : List Nat) (j c : Nat) : List Nat := raws.set (j / 8) (putW (raws.getD (j / 8) 0) (j % 8 * 8) c)
def putBytes : List Nat → Nat → List Nat → List Nat
  | raws, _, [] => raws
  | raws, j, c :: cs => putBytes (putByte raws j c) (j + 1) cs
theorem putBytes_snoc : ∀ (l : List Nat) (raws : List Nat) (j c : Nat), putBytes raws j (l ++ [c]) = putByte (putBytes raws j l) (j + l.length) c
  | [], _, _, _ => rfl
  | x :: l, raws, j, c => by
    show putBytes (putByte raws j x) (j + 1) (l ++ [c]) = putByte (putBytes (putByte raws j x) (j + 1) l) _ c
    rw [putBytes_snoc l]
    congr 1
    rw [List.length_cons]; omega
theorem putByte_len (raws : List Nat) (j c : Nat) : (putByte raws j c).length = raws.length := by simp [putByte]
theorem putBytes_len : ∀ (l : List Nat) (raws : List Nat) (j : Nat), (putBytes raws j l).length = raws.length
  | [], _, _ => rfl
  | x :: l, raws, j => by
    show (putBytes (putByte raws j x) (j + 1) l).length = _
    rw [putBytes_len l, putByte_len]
theorem putW_bit {w s c j : Nat} (hc : c < 256) : (putW w s c).testBit j = if j < s then w.testBit j else if j - s < 8 then c.testBit (j - s) else w.testBit j := by
  unfold putW
  rw [Nat.testBit_two_pow_mul_add _ (Nat.mod_lt _ (Nat.two_pow_pos s))]
  split
  · rename_i h
    rw [Nat.testBit_mod_two_pow]
    simp [h]
  · rename_i h
    rw [Nat.testBit_two_pow_mul_add _ (show c < 2 ^ 8 by omega)]
    split
    · rfl
    · rename_i h2
      rw [Nat.testBit_div_two_pow]
      congr 1
      omega
theorem putW_lt {w s c : Nat} (hw : w < 18446744073709551616) (hs : s ≤ 56) (hc : c < 256) : putW w s c < 18446744073709551616 := by
  have : putW w s c < 2 ^ 64 := by
    apply Nat.lt_pow_two_of_testBit
    intro j hj
    rw [putW_bit hc, if_neg (by omega)]
    have hw0 : w.testBit j = false := testBit_lt (k := 64) hw j hj
    split
    · omega
    · exact hw0
  exact this
theorem putW_eq {w s c : Nat} (hw : w < 18446744073709551616) (hs : s ≤ 56) (hc : c < 256) :
    orI .u64 (andNotI .u64 (w : Int) (IntKind.wrap .u64 ((255 : Int) * 2 ^ s))) (IntKind.wrap .u64 ((c : Int) * 2 ^ s)) = ((putW w s c : Nat) : Int) := by
  have hp : 2 ^ s ≤ 2 ^ 56 := Nat.pow_le_pow_right (by omega) hs
  have hp' : 2 ^ s ≤ 72057594037927936 := hp
  have e1 : (255 : Int) * 2 ^ s = ((255 * 2 ^ s : Nat) : Int) := by norm_cast
  have e2 : (c : Int) * 2 ^ s = ((c * 2 ^ s : Nat) : Int) := by norm_cast
  have hm1 : 255 * 2 ^ s ≤ 255 * 72057594037927936 := Nat.mul_le_mul_left _ hp'
  have hm2 : c * 2 ^ s ≤ 255 * 72057594037927936 := Nat.mul_le_mul (by omega) hp'
  rw [e1, e2, wrap_u64' (Int.natCast_nonneg _) (by generalize 255 * 2 ^ s = z at *; omega), wrap_u64' (Int.natCast_nonneg _) (by generalize c * 2 ^ s = z at *; omega)]
  have e3 : andNotI .u64 (w : Int) ((255 * 2 ^ s : Nat) : Int) = (((BitVec.ofNat 64 w &&& ~~~(BitVec.ofNat 64 (255 * 2 ^ s))).toNat : Nat) : Int) := by
    show IntKind.wrap .u64 (((BitVec.ofInt 64 (w : Int) &&& ~~~(BitVec.ofInt 64 ((255 * 2 ^ s : Nat) : Int)) : BitVec 64).toNat : Nat) : Int) = _
    rw [bv_ofNat, bv_ofNat]
    have := (BitVec.ofNat 64 w &&& ~~~(BitVec.ofNat 64 (255 * 2 ^ s))).isLt
    exact wrap_u64' (Int.natCast_nonneg _) (by omega)
  rw [e3, orI_nat (BitVec.isLt _) (by generalize c * 2 ^ s = z at *; omega)]
  congr 1
  apply Nat.eq_of_testBit_eq
  intro j
  rw [putW_bit hc, Nat.testBit_or, BitVec.testBit_toNat, BitVec.getLsbD_and, BitVec.getLsbD_not, BitVec.getLsbD_ofNat, BitVec.getLsbD_ofNat, Nat.mul_comm 255, Nat.mul_comm c, Nat.testBit_two_pow_mul, Nat.testBit_two_pow_mul]
  have h255 : ∀ k, Nat.testBit 255 k = decide (k < 8) := fun k => by
    rw [show (255 : Nat) = 2 ^ 8 - 1 by decide, Nat.testBit_two_pow_sub_one]
  have hcb : ∀ k, 8 ≤ k → c.testBit k = false := testBit_lt (k := 8) hc
  rw [h255]
  by_cases hj : j < 64
  · by_cases h1 : j < s
    · simp [hj, h1, show ¬ s ≤ j by omega]
    · by_cases h2 : j - s < 8
      · simp [hj, h1, h2, show s ≤ j by omega]
      · simp [hj, h1, h2, show s ≤ j by omega, hcb (j - s) (by omega)]
  · have hw0 : w.testBit j = false := testBit_lt (k := 64) hw j (by omega)
    have h2 : ¬ j - s < 8 := by omega
    simp [hj, hw0, show ¬ j < s by omega, h2, hcb (j - s) (by omega)]
section
variable {h h' : Hp} {L : ArLoc} {sz : Nat} {os : List AObj} {wc fc : Nat} {fs : List Nat}
def spanE (os : List AObj) (at_ from_ n : Int) : Int :=
  match (idxI os at_).bind (os[·]?) with
  | none => 23
  | some o => if o.fwd.isSome then 26 else if 0 ≤ from_ ∧ 0 ≤ n ∧ from_ + n ≤ 8 * (o.raws.length : Int) then 0 else 25
theorem span_ok (r : ArR h L sz os wc fc fs) {at_ from_ n : Int} (hn0 : -9223372036854775808 ≤ n) (hf0 : -9223372036854775808 ≤ from_) (hn1 : n < 9223372036854775808) (hf1 : from_ < 9223372036854775808) {R : Value → Hp → Prop}
    (hbad : spanE os at_ from_ n ≠ 0 → R (.tuple #[.slice none 0 0, .int .i64 (spanE os at_ from_ n)]) h)
    (hgood : ∀ i o a, spanE os at_ from_ n = 0 → idxI os at_ = some i → os[i]? = some o → o.fwd = none → 0 ≤ from_ → 0 ≤ n → from_ + n ≤ 8 * (o.raws.length : Int) →
      (o.raws.length ≠ 0 → a = some ⟨L.wb, pos os i + 1 + o.refs.length, none⟩) → R (.tuple #[.slice a o.raws.length o.raws.length, .int .i64 0]) h) :
    CallTo Try.prog 94 #[.pointer (some (ad L.pb)), .int .i64 at_, .int .i64 from_, .int .i64 n] h R := by
  refine f94F_ok ?_
  unfold f94F
  refine fields_ok r (fun he => ?_) fun i o a he hi ho hf ha hp => ?_
  · refine ⟨⟨none, 0, 0⟩, _, _, rfl, Cond_t (by simpa using he) ?_⟩
    unfold spanE at hbad
    unfold objE at he ⊢
    cases hx : (idxI os at_).bind (os[·]?) with
    | none => rw [hx] at hbad; exact hbad (by simp)
    | some o =>
      rw [hx] at hbad he
      simp only at hbad he ⊢
      cases hf : o.fwd with
      | some t => rw [hf] at hbad; exact hbad (by simp)
      | none => rw [hf] at he; simp at he
  · have hoo := r.ok o (List.mem_of_getElem? ho)
    have hsp : spanE os at_ from_ n = if 0 ≤ from_ ∧ 0 ≤ n ∧ from_ + n ≤ 8 * (o.raws.length : Int) then 0 else 25 := by
      unfold spanE
      rw [hi]
      simp only [Option.bind_some, ho, hf]
      rfl
    have hfl : o.flds.length = o.refs.length + o.raws.length := by unfold AObj.flds; simp
    have hnw := hoo.nw
    refine ⟨⟨a, o.flds.length, o.flds.length⟩, _, _, rfl, Cond_f rfl ⟨⟨by omega, ?_⟩, ?_⟩⟩
    · show (o.refs.length : Int) ≤ ((o.flds.length : Nat) : Int); omega
    simp only [Int.toNat_natCast]
    have el : o.flds.length - o.refs.length = o.raws.length := by omega
    have e8 : IntKind.wrap .i64 ((8 : Int) * ((o.raws.length : Nat) : Int)) = 8 * ((o.raws.length : Nat) : Int) := wrap_ar (by omega) (by omega)
    simp only [el, e8]
    have bad : ∀ s, ¬ (0 ≤ from_ ∧ 0 ≤ n ∧ from_ + n ≤ 8 * (o.raws.length : Int)) → f94K1 s true h R := fun s hn => by
      rw [if_neg hn] at hsp
      rw [hsp] at hbad
      exact hbad (by simp)
    refine Cond_dec (fun c => bad _ (by omega)) fun c1 => Cond_dec (fun c => bad _ (by omega)) fun c2 => Cond_dec (fun c => bad _ (by omega)) fun c3 => ?_
    have e9 : IntKind.wrap .i64 (8 * ((o.raws.length : Nat) : Int) - from_) = 8 * ((o.raws.length : Nat) : Int) - from_ := wrap_ar (by omega) (by omega)
    rw [e9]
    by_cases c4 : n > 8 * ((o.raws.length : Nat) : Int) - from_
    · rw [decide_eq_true c4]
      exact bad _ (by omega)
    · rw [decide_eq_false c4]
      unfold f94K1
      refine Cond_f rfl (hgood i o _ (by rw [hsp, if_pos (by omega)]) hi ho hf (by omega) (by omega) (by omega) fun hne => ?_)
      rw [if_neg (by omega), hp (by omega), Option.map_some, add_mk, Nat.mul_one]

def bv (n : Nat) : Value := .int .u8 (n : Int)
theorem div8 {p : Nat} (hp : p < 4611686018427387904) : IntKind.wrap .i64 (Int.tdiv (p : Int) (8 : Int)) = ((p / 8 : Nat) : Int) := by
  rw [tdiv_nn (by omega), wrap_i64' (by omega) (by omega)]; omega
theorem mod8 (p : Nat) : IntKind.wrap .i64 ((Int.tmod (p : Int) (8 : Int)) * (8 : Int)) = ((p % 8 * 8 : Nat) : Int) := by
  rw [tmod_nn (by omega), wrap_i64' (by omega) (by omega)]; omega
theorem ArR.raw_word (r : ArR h L sz os wc fc fs) {i j w : Nat} {o : AObj} (ho : os[i]? = some o) (hw : o.raws[j]? = some w) : cell h ((⟨L.wb, pos os i + 1 + o.refs.length, none⟩ : Addr).add (j * 1)) = some (uv w) := by
  rw [add_mk, Nat.mul_one]
  have hj := (List.getElem?_eq_some_iff.1 hw).1
  have hf : o.flds[o.refs.length + j]? = some w := by
    unfold AObj.flds
    rw [List.getElem?_append_right (by omega), Nat.add_sub_cancel_left]
    exact hw
  have hl : o.refs.length + j < o.flds.length := (List.getElem?_eq_some_iff.1 hf).1
  have := word_fld ho hl
  rw [hf] at this
  have h2 := r.word (i := pos os i + 1 + (o.refs.length + j)) this
  rw [add_ad, Nat.mul_one] at h2
  rw [show pos os i + 1 + o.refs.length + j = pos os i + 1 + (o.refs.length + j) by omega]
  exact h2
theorem abytes_ok (r : ArR h L sz os wc fc fs) {at_ from_ n : Int} (hn0 : -9223372036854775808 ≤ n) (hf0 : -9223372036854775808 ≤ from_) (hn1 : n < 9223372036854775808) (hf1 : from_ < 9223372036854775808) {R : Value → Hp → Prop}
    (hbad : spanE os at_ from_ n ≠ 0 → R (.tuple #[.slice none 0 0, .int .i64 (spanE os at_ from_ n)]) h)
    (hgood : ∀ i o (f m : Nat) b h', idxI os at_ = some i → os[i]? = some o → o.fwd = none → from_ = f → n = m → f + m ≤ 8 * o.raws.length →
      Row h' b ((List.range m).map fun j => bv (byteAt o.raws (f + j))) → h.size ≤ b → Kept N h h' → R (.tuple #[.slice (some (ad b)) m m, .int .i64 0]) h') :
    CallTo Try.prog 90 #[.pointer (some (ad L.pb)), .int .i64 at_, .int .i64 from_, .int .i64 n] h R := by
  refine f90F_ok ?_
  unfold f90F
  refine span_ok r hn0 hf0 hn1 hf1 (fun he => ⟨⟨none, 0, 0⟩, _, rfl, Cond_t (by simpa using he) (hbad he)⟩) fun i o a he hi ho hf f0 n0 hfn ha => ?_
  have hoo := r.ok o (List.mem_of_getElem? ho)
  have hnw := hoo.nw
  obtain ⟨f, rfl⟩ := Int.eq_ofNat_of_zero_le f0
  obtain ⟨m, rfl⟩ := Int.eq_ofNat_of_zero_le n0
  refine ⟨⟨a, o.raws.length, o.raws.length⟩, _, rfl, Cond_f rfl ⟨⟨by omega, by omega⟩, by omega, by omega, Let_mk fun h1 e1 => ?_⟩⟩
  simp only [Int.toNat_natCast] at e1 ⊢
  rw [zrow_one] at e1
  have r1 : Row h1 h.size (List.replicate m (bv 0)) := e1 ▸ row_new h (List.replicate m (bv 0)).toArray 5
  have k1 : Kept N h h1 := e1 ▸ kept_push _ _ _
  refine f90L1_rule (s10 := ⟨a, o.raws.length, o.raws.length⟩) (s12 := ⟨some (ad h.size), m, m⟩) (fun q s2 s10 s12 s29 s30 h' => ∃ k : Nat, k ≤ m ∧ q = m - k ∧ s2 = f ∧ s10 = ⟨a, o.raws.length, o.raws.length⟩ ∧ s12 = ⟨some (ad h.size), m, m⟩ ∧ s29 = m ∧ s30 = k ∧
    Row h' h.size (((List.range k).map fun j => bv (byteAt o.raws (f + j))) ++ List.replicate (m - k) (bv 0)) ∧ Kept N h h') m ⟨0, by omega, rfl, rfl, rfl, rfl, rfl, rfl, by simpa using r1, k1⟩ ?_
  rintro q s2 s10 s12 s29 s30 g h2 ⟨k, hk, rfl, rfl, rfl, rfl, rfl, rfl, r2, k2⟩
  unfold f90L1
  refine Cond_dec (fun hlt => ?_) fun hge => ?_
  · have hkm : k < m := by omega
    have ew : IntKind.wrap .i64 ((f : Int) + (k : Int)) = ((f + k : Nat) : Int) := by rw [wrap_ar (by omega) (by omega)]; omega
    rw [ew, div8 (by omega), mod8]
    have hj : (f + k) / 8 < o.raws.length := by omega
    have hw : o.raws[(f + k) / 8]? = some o.raws[(f + k) / 8] := List.getElem?_eq_getElem hj
    have hcell := (r.keep k2 (fun _ _ => id)).raw_word ho hw
    simp only [Int.toNat_natCast]
    refine ⟨by omega, ⟨by omega, ?_⟩, PtrOk_of (ha (by omega)) ⟨_, hcell, by omega, by omega, ⟨by omega, ?_⟩, PtrOk_mk ?_⟩⟩
    · show (((f + k) / 8 : Nat) : Int) < ((o.raws.length : Nat) : Int); omega
    · show (k : Int) < ((m : Nat) : Int); omega
    have ea : (ad h.size).add (k * 1) = ⟨h.size, k, none⟩ := by rw [add_ad, Nat.mul_one]
    simp only [ea]
    have em : min ((f + k) % 8 * 8) (IntKind.bits .u64) = (f + k) % 8 * 8 := by rw [bits_u64]; omega
    have ev : IntKind.wrap .u8 (Int.fdiv ((o.raws[(f + k) / 8] : Nat) : Int) (2 ^ ((f + k) % 8 * 8))) = ((byteAt o.raws (f + k) : Nat) : Int) := by
      rw [fdiv_pow, wrap_u8']
      unfold byteAt
      rw [List.getD_eq_getElem?_getD, hw, Option.getD_some]
      omega
    rw [em, ev]
    refine ⟨stOk_row r2 (by simp; omega), Let_mk fun h3 e3 => ⟨m - (k + 1), by omega, k + 1, by omega, rfl, trivial, trivial, trivial, trivial, ?_, ?_, ?_⟩⟩
    · rw [wrap_ar (by omega) (by omega)]; rfl
    · rw [e3]
      have := row_setc r2 k (bv (byteAt o.raws (f + k)))
      have e : (((List.range k).map fun j => bv (byteAt o.raws (f + j))) ++ List.replicate (m - k) (bv 0)).set k (bv (byteAt o.raws (f + k))) = ((List.range (k + 1)).map fun j => bv (byteAt o.raws (f + j))) ++ List.replicate (m - (k + 1)) (bv 0) := by
        rw [List.set_append_right _ _ (by simp), List.range_succ, List.map_append, List.append_assoc]
        congr 1
        rw [show m - k = (m - (k + 1)) + 1 by omega, List.replicate_succ]
        simp
      rw [e] at this
      exact this
    · rw [e3]
      refine ⟨by rw [size_setc]; exact k2.1, fun b hb _ => ?_⟩
      rw [setc_ne _ _ _ (by show b ≠ h.size; omega)]
      exact k2.2 b hb id
  · obtain rfl : k = m := by omega
    rw [Nat.sub_self, List.replicate_zero, List.append_nil] at r2
    exact hgood i o f k h.size h2 hi ho hf rfl rfl (by omega) r2 (Nat.le_refl _) k2
theorem putByte_lt {raws : List Nat} {j c : Nat} (hr : ∀ x ∈ raws, x < 18446744073709551616) (hc : c < 256) : ∀ x ∈ putByte raws j c, x < 18446744073709551616 := by
  intro x hx
  rcases List.mem_or_eq_of_mem_set hx with hx | hx
  · exact hr x hx
  · rw [hx]
    refine putW_lt ?_ (by omega) hc
    rw [List.getD_eq_getElem?_getD]
    cases h : raws[j / 8]? with
    | none => simp
    | some w => exact hr w (List.mem_of_getElem? h)
theorem putBytes_lt : ∀ {l : List Nat} {raws : List Nat} {j : Nat}, (∀ x ∈ raws, x < 18446744073709551616) → (∀ c ∈ l, c < 256) → ∀ x ∈ putBytes raws j l, x < 18446744073709551616
  | [], _, _, hr, _ => hr
  | c :: l, raws, j, hr, hl => putBytes_lt (l := l) (putByte_lt hr (hl c (List.mem_cons_self ..))) fun c hc => hl c (List.mem_cons_of_mem _ hc)
/-- An object whose raws are others, as many. -/
def AObj.withRaws (o : AObj) (ws : List Nat) : AObj := { o with raws := ws }
theorem setF_raw (o : AObj) (k w : Nat) : o.setF (o.refs.length + k) w = o.withRaws (o.raws.set k w) := by
  unfold AObj.setF AObj.withRaws
  rw [if_neg (by omega), Nat.add_sub_cancel_left]
theorem modify_modify {α : Type} (l : List α) (i : Nat) (f g : α → α) : (l.modify i f).modify i g = l.modify i (g ∘ f) := by
  apply List.ext_getElem?
  intro j
  rw [List.getElem?_modify, List.getElem?_modify, List.getElem?_modify]
  cases l[j]? with
  | none => rfl
  | some x => show some _ = some _; congr 1; by_cases h : i = j <;> simp [h]
theorem modify_congr {α : Type} {l : List α} {i : Nat} {x : α} (hx : l[i]? = some x) {f g : α → α} (h : f x = g x) : l.modify i f = l.modify i g := by
  apply List.ext_getElem?
  intro j
  rw [List.getElem?_modify, List.getElem?_modify]
  by_cases hij : i = j
  · subst hij; rw [hx]; show some _ = some _; simp [h]
  · cases l[j]? with
    | none => rfl
    | some y => show some _ = some _; simp [hij]
theorem modify_id {α : Type} {l : List α} {i : Nat} {x : α} (hx : l[i]? = some x) {f : α → α} (h : f x = x) : l.modify i f = l := by
  apply List.ext_getElem?
  intro j
  rw [List.getElem?_modify]
  by_cases hij : i = j
  · subst hij; rw [hx]; show some _ = some _; simp [h]
  · cases l[j]? with
    | none => rfl
    | some y => show some _ = some _; simp [hij]
theorem asetbytes_ok (r : ArR h L sz os wc fc fs) {at_ from_ : Int} {s : Sl} {cs : List Nat} (hs : ReadsO h s.a (cs.map bv)) (hsn : s.n = cs.length) (hcs : ∀ c ∈ cs, c < 256) (hsb : ∀ a, s.a = some a → cs ≠ [] → ¬ L.fp a.block)
    (hn : (cs.length : Int) < 9223372036854775808) (hf0 : -9223372036854775808 ≤ from_) (hf1 : from_ < 9223372036854775808) {R : Value → Hp → Prop}
    (hbad : spanE os at_ from_ cs.length ≠ 0 → R (.int .i64 (spanE os at_ from_ cs.length)) h)
    (hgood : ∀ i o (f : Nat) h', idxI os at_ = some i → os[i]? = some o → o.fwd = none → from_ = f → f + cs.length ≤ 8 * o.raws.length →
      ArR h' L sz (os.modify i fun o => o.withRaws (putBytes o.raws f cs)) wc fc fs → Kept L.fp h h' → R (.int .i64 0) h') :
    CallTo Try.prog 93 #[.pointer (some (ad L.pb)), .int .i64 at_, .int .i64 from_, .slice s.a s.n s.c] h R := by
  refine f93F_ok ?_
  unfold f93F
  rw [hsn]
  refine span_ok r (by omega) hf0 hn hf1 (fun he => ⟨⟨none, 0, 0⟩, _, rfl, Cond_t (by simpa using he) (hbad he)⟩) fun i o a he hi ho hf f0 n0 hfn ha => ?_
  have hoo := r.ok o (List.mem_of_getElem? ho)
  have hnw := hoo.nw
  obtain ⟨f, rfl⟩ := Int.eq_ofNat_of_zero_le f0
  refine ⟨⟨a, o.raws.length, o.raws.length⟩, _, rfl, Cond_f rfl ?_⟩
  refine f93L1_rule (s9 := ⟨a, o.raws.length, o.raws.length⟩) (s27 := ⟨s.a, cs.length, s.c⟩) (fun q s2 s9 s27 s28 s29 h' => ∃ k : Nat, k ≤ cs.length ∧ q = cs.length - k ∧ s2 = f ∧ s9 = ⟨a, o.raws.length, o.raws.length⟩ ∧ s27 = ⟨s.a, cs.length, s.c⟩ ∧ s28 = cs.length ∧ s29 = k ∧
    ArR h' L sz (os.modify i fun o => o.withRaws (putBytes o.raws f (cs.take k))) wc fc fs ∧ Kept L.fp h h') cs.length ⟨0, by omega, rfl, rfl, rfl, rfl, rfl, rfl, ?_, Kept.refl _ _⟩ ?_
  · have : (os.modify i fun o => o.withRaws (putBytes o.raws f (cs.take 0))) = os := modify_id ho rfl
    rw [this]; exact r
  rintro q s2 s9 s27 s28 s29 g h2 ⟨k, hk, rfl, rfl, rfl, rfl, rfl, rfl, r2, k2⟩
  unfold f93L1
  refine Cond_dec (fun hlt => ?_) fun hge => ?_
  · have hkm : k < cs.length := by omega
    have hc : cs[k]? = some cs[k] := List.getElem?_eq_getElem hkm
    have hcl := hcs _ (List.getElem_mem hkm)
    generalize cs[k] = c at hc hcl
    -- the byte that is read
    obtain ⟨ab, hab⟩ : ∃ ab, s.a = some ab := by
      cases hsa : s.a with
      | some ab => exact ⟨ab, rfl⟩
      | none =>
        rw [hsa] at hs
        have hs : cs.map bv = [] := hs
        have := List.map_eq_nil_iff.1 hs
        rw [this] at hkm; simp at hkm
    have hrd : cell h (ab.add k) = some (bv c) := by
      rw [hab] at hs
      exact hs k _ (by rw [List.getElem?_map, hc]; rfl)
    have hrd2 : cell h2 (ab.add (k * 1)) = some (bv c) := by
      rw [Nat.mul_one, ← hrd]
      have hbk : (ab.add k).block = ab.block := by unfold Addr.add; split <;> rfl
      unfold cell
      rw [hbk]
      have hlt : ab.block < h.size := by
        unfold cell at hrd
        rw [hbk] at hrd
        split at hrd
        · rename_i x y z hx; exact (Array.getElem?_eq_some_iff.1 hx).1
        · cases hrd
      rw [k2.2 _ hlt (hsb ab hab fun e => by rw [e] at hkm; simp at hkm)]
    -- the object as it stands
    have ho2 : (os.modify i fun o => o.withRaws (putBytes o.raws f (cs.take k)))[i]? = some (o.withRaws (putBytes o.raws f (cs.take k))) := by
      rw [List.getElem?_modify, ho]; show some _ = some _; simp
    generalize hX : putBytes o.raws f (cs.take k) = X at ho2
    have hXl : X.length = o.raws.length := by rw [← hX, putBytes_len]
    have ew : IntKind.wrap .i64 ((f : Int) + (k : Int)) = ((f + k : Nat) : Int) := by rw [wrap_ar (by omega) (by omega)]; omega
    rw [ew, div8 (by omega), mod8]
    have hj : (f + k) / 8 < X.length := by omega
    obtain ⟨w, hw⟩ : ∃ w, X[(f + k) / 8]? = some w := ⟨_, List.getElem?_eq_getElem hj⟩
    have hpos : pos (os.modify i fun o => o.withRaws (putBytes o.raws f (cs.take k))) i = pos os i := by
      unfold pos
      congr 1
      apply List.ext_getElem?
      intro x
      rw [List.getElem?_take, List.getElem?_take]
      split
      · rename_i hx
        rw [List.getElem?_modify]
        cases os[x]? with
        | none => rfl
        | some y => show some _ = some _; simp [show ¬ i = x by omega]
      · rfl
    have hcell := r2.raw_word ho2 (j := (f + k) / 8) hw
    rw [hpos] at hcell
    simp only [Int.toNat_natCast]
    have c1 : (0 : Int) ≤ (((f + k) / 8 : Nat) : Int) ∧ (((f + k) / 8 : Nat) : Int) < ((o.raws.length : Nat) : Int) := by omega
    refine ⟨⟨by omega, by omega⟩, PtrOk_of hab ⟨_, hrd2, by omega, by omega, by omega, c1, PtrOk_of (ha (by omega)) ⟨_, hcell, by omega, by omega, c1, PtrOk_of (ha (by omega)) ?_⟩⟩⟩
    have ea : (⟨L.wb, pos os i + 1 + o.refs.length, none⟩ : Addr).add ((f + k) / 8 * 1) = ⟨L.wb, pos os i + 1 + (o.refs.length + (f + k) / 8), none⟩ := by rw [add_mk, Nat.mul_one, Nat.add_assoc]
    simp only [ea]
    have em : min ((f + k) % 8 * 8) (IntKind.bits .u64) = (f + k) % 8 * 8 := by rw [bits_u64]; omega
    have hwl : w < 18446744073709551616 := by
      have := (r2.ok _ (List.mem_of_getElem? ho2)).fl w
      exact this (by unfold AObj.flds AObj.withRaws; exact List.mem_append_right _ (List.mem_of_getElem? hw))
    rw [em, wrap_u64' (x := ((c : Nat) : Int)) (by omega) (by omega), putW_eq hwl (by omega) hcl]
    have hgetD : X.getD ((f + k) / 8) 0 = w := by rw [List.getD_eq_getElem?_getD, hw]; rfl
    have hjf : o.refs.length + (f + k) / 8 < (o.withRaws X).flds.length := by unfold AObj.flds AObj.withRaws; simp; omega
    have hsnoc : cs.take (k + 1) = cs.take k ++ [c] := by rw [List.take_add_one, hc]; rfl
    have hobj : (os.modify i fun o => o.withRaws (putBytes o.raws f (cs.take k))).modify i (fun o => o.setF (o.refs.length + (f + k) / 8) (putW w ((f + k) % 8 * 8) c)) = os.modify i fun o => o.withRaws (putBytes o.raws f (cs.take (k + 1))) := by
      rw [modify_modify]
      refine modify_congr ho ?_
      show (o.withRaws (putBytes o.raws f (cs.take k))).setF (o.refs.length + (f + k) / 8) _ = _
      rw [hX, show o.refs.length = (o.withRaws X).refs.length from rfl, setF_raw]
      unfold AObj.withRaws
      simp only
      congr 1
      rw [hsnoc, putBytes_snoc, hX]
      unfold putByte
      rw [List.length_take, Nat.min_eq_left (by omega), hgetD]
    have hset := words_setF (v := putW w ((f + k) % 8 * 8) c) ho2 hjf
    have hm2 : (os.modify i fun o => o.withRaws (putBytes o.raws f (cs.take k))).modify i (fun x => x.setF (o.refs.length + (f + k) / 8) (putW w ((f + k) % 8 * 8) c)) = os.modify i fun o => o.withRaws (putBytes o.raws f (cs.take (k + 1))) := by
      rw [← hobj]
      exact modify_congr ho2 rfl
    rw [hm2, hpos] at hset
    have hps := pos_size_le ho
    have hfl : o.flds.length = o.refs.length + o.raws.length := by unfold AObj.flds; simp
    have hsz : o.size = 1 + o.flds.length := rfl
    have hud : used (os.modify i fun o => o.withRaws (putBytes o.raws f (cs.take k))) = used os := by
      have := r2.c1
      have h3 := (kept_row k2 r.row)
      exact used_modify fun o => by unfold AObj.size AObj.flds AObj.withRaws; simp [putBytes_len]
    obtain ⟨hst, r3, k3⟩ := r2.setw (p := pos os i + 1 + (o.refs.length + (f + k) / 8)) (w := putW w ((f + k) % 8 * 8) c) (os' := os.modify i fun o => o.withRaws (putBytes o.raws f (cs.take (k + 1)))) (by rw [hud]; omega)
      (by rw [hset]) (r.first.modify fun o => by unfold AObj.size AObj.flds AObj.withRaws; simp [putBytes_len])
      (ok_modify r.ok fun o ho => ⟨ho.k1, ho.k2, ho.nr, by unfold AObj.withRaws; simp only [putBytes_len]; exact ho.nw, fun x hx => by
        unfold AObj.flds AObj.withRaws at hx
        rcases List.mem_append.1 hx with hx | hx
        · exact ho.fl x (List.mem_append_left _ hx)
        · exact putBytes_lt (fun y hy => ho.fl y (List.mem_append_right _ hy)) (fun y hy => hcs y (List.mem_of_mem_take hy)) x hx, ho.fw⟩)
    exact ⟨hst, cs.length - (k + 1), by omega, k + 1, by omega, rfl, trivial, trivial, trivial, trivial, by rw [wrap_ar (by omega) (by omega)]; rfl, r3, k2.trans k3⟩
  · obtain rfl : k = cs.length := by omega
    rw [List.take_length] at r2
    exact hgood i o f h2 hi ho hf rfl (by omega) r2 k2
end
end Go.Ev
