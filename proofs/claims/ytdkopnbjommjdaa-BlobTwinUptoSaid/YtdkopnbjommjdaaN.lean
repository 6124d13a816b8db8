/- Facts on machine numbers. No condition. -/
import Derived.Test.YtdkopnbjommjdaaK9
set_option linter.all false
namespace Go.Ev
/-! ### Numbers -/
theorem wrap_i64_eq (x : Int) : IntKind.wrap .i64 x = if 9223372036854775808 ≤ x % 18446744073709551616 then x % 18446744073709551616 - 18446744073709551616 else x % 18446744073709551616 := by
  unfold IntKind.wrap
  simp [IntKind.bits, IntKind.signed]
theorem wrap_u64_eq (x : Int) : IntKind.wrap .u64 x = x % 18446744073709551616 := by
  unfold IntKind.wrap
  simp [IntKind.bits, IntKind.signed]
theorem wrap_i64' {x : Int} (h0 : -9223372036854775808 ≤ x) (h1 : x < 9223372036854775808) : IntKind.wrap .i64 x = x := by
  rw [wrap_i64_eq]
  split <;> omega
theorem wrap_u64' {x : Int} (h0 : 0 ≤ x) (h1 : x < 18446744073709551616) : IntKind.wrap .u64 x = x := by
  rw [wrap_u64_eq]
  omega
theorem wrap_u8' {x : Int} : IntKind.wrap .u8 x = x % 256 := by
  unfold IntKind.wrap
  simp [IntKind.bits, IntKind.signed]
theorem bv_ofNat (n : Nat) : BitVec.ofInt 64 (n : Int) = BitVec.ofNat 64 n := by
  apply BitVec.eq_of_toNat_eq
  simp
theorem andI_nat {a b : Nat} (ha : a < 18446744073709551616) (hb : b < 18446744073709551616) : andI .u64 (a : Int) (b : Int) = ((a &&& b : Nat) : Int) := by
  show IntKind.wrap .u64 (((BitVec.ofInt 64 (a : Int) &&& BitVec.ofInt 64 (b : Int) : BitVec 64).toNat : Nat) : Int) = _
  rw [bv_ofNat, bv_ofNat, BitVec.toNat_and, BitVec.toNat_ofNat, BitVec.toNat_ofNat, Nat.mod_eq_of_lt ha, Nat.mod_eq_of_lt hb]
  exact wrap_u64' (by omega) (by have := Nat.and_le_left (n := a) (m := b); omega)
theorem orI_nat {a b : Nat} (ha : a < 18446744073709551616) (hb : b < 18446744073709551616) : orI .u64 (a : Int) (b : Int) = ((a ||| b : Nat) : Int) := by
  show IntKind.wrap .u64 (((BitVec.ofInt 64 (a : Int) ||| BitVec.ofInt 64 (b : Int) : BitVec 64).toNat : Nat) : Int) = _
  rw [bv_ofNat, bv_ofNat, BitVec.toNat_or, BitVec.toNat_ofNat, BitVec.toNat_ofNat, Nat.mod_eq_of_lt ha, Nat.mod_eq_of_lt hb]
  have : a ||| b < 2 ^ 64 := Nat.or_lt_two_pow (by simpa using ha) (by simpa using hb)
  exact wrap_u64' (by omega) (by omega)
theorem testBit_lt {n k : Nat} (h : n < 2 ^ k) : ∀ j, k ≤ j → n.testBit j = false := fun j hj =>
  Nat.testBit_lt_two_pow (Nat.lt_of_lt_of_le h (Nat.pow_le_pow_right (by omega) hj))
theorem testBit_63 (i : Nat) : (9223372036854775808 : Nat).testBit i = decide (i = 63) := by
  rw [show (9223372036854775808 : Nat) = 2 ^ 63 by decide, Nat.testBit_two_pow]
  rw [Bool.eq_iff_iff]; simp [eq_comm]
theorem and_gone {a : Nat} (ha : a < 18446744073709551616) : a &&& 9223372036854775808 = if a < 9223372036854775808 then 0 else 9223372036854775808 := by
  apply Nat.eq_of_testBit_eq
  intro i
  rw [Nat.testBit_and, testBit_63]
  by_cases hi : i = 63
  · subst hi
    split
    · rename_i h
      simp only [decide_true, Bool.and_true, Nat.zero_testBit]
      exact testBit_lt (k := 63) h 63 (Nat.le_refl _)
    · rename_i h
      simp only [decide_true, Bool.and_true]
      rw [testBit_63, Nat.testBit_eq_decide_div_mod_eq]
      simp
      omega
  · simp only [hi, decide_false, Bool.and_false]
    split
    · simp
    · rw [testBit_63]; simp [hi]
theorem andI_gone {a : Int} (h0 : 0 ≤ a) (ha : a < 18446744073709551616) : andI .u64 a (9223372036854775808 : Int) = if a < 9223372036854775808 then 0 else 9223372036854775808 := by
  obtain ⟨n, rfl⟩ := Int.eq_ofNat_of_zero_le h0
  have hn : n < 18446744073709551616 := by omega
  have := andI_nat (a := n) (b := 9223372036854775808) hn (by omega)
  rw [show ((9223372036854775808 : Nat) : Int) = (9223372036854775808 : Int) from rfl] at this
  rw [this, and_gone hn]
  by_cases h : n < 9223372036854775808
  · rw [if_pos h, if_pos (by omega)]; rfl
  · rw [if_neg h, if_neg (by omega)]; rfl
theorem xor_gone {n : Nat} (hn : n < 18446744073709551616) (hg : 9223372036854775808 ≤ n) : ((BitVec.ofNat 64 n) &&& ~~~(BitVec.ofNat 64 9223372036854775808)).toNat = n - 9223372036854775808 := by
  apply Nat.eq_of_testBit_eq
  intro i
  rw [BitVec.testBit_toNat, BitVec.getLsbD_and, BitVec.getLsbD_not, ← BitVec.testBit_toNat, ← BitVec.testBit_toNat, BitVec.toNat_ofNat, BitVec.toNat_ofNat, Nat.mod_eq_of_lt hn, Nat.mod_eq_of_lt (by omega), testBit_63]
  have hsub : n = 9223372036854775808 + (n - 9223372036854775808) := by omega
  have hm : n - 9223372036854775808 < 2 ^ 63 := by omega
  by_cases hi : i < 64
  · by_cases h63 : i = 63
    · subst h63
      rw [testBit_lt hm 63 (Nat.le_refl _)]; simp
    · have : n.testBit i = (n - 9223372036854775808).testBit i := by
        conv => lhs; rw [hsub, show (9223372036854775808 : Nat) = 2 ^ 63 by decide]
        rw [Nat.testBit_two_pow_add_gt (by omega)]
      simp [this, h63, hi]
  · rw [testBit_lt hm i (by omega)]
    rw [testBit_lt (k := 64) (by omega) i (by omega)]; simp
theorem andNotI_gone {a : Int} (h0 : 9223372036854775808 ≤ a) (ha : a < 18446744073709551616) : andNotI .u64 a (9223372036854775808 : Int) = a - 9223372036854775808 := by
  obtain ⟨n, rfl⟩ := Int.eq_ofNat_of_zero_le (show (0 : Int) ≤ a by omega)
  have e : BitVec.ofInt 64 (9223372036854775808 : Int) = BitVec.ofNat 64 9223372036854775808 := bv_ofNat 9223372036854775808
  show IntKind.wrap .u64 (((BitVec.ofInt 64 (n : Int) &&& ~~~(BitVec.ofInt 64 (9223372036854775808 : Int)) : BitVec 64).toNat : Nat) : Int) = _
  rw [e, bv_ofNat, xor_gone (by omega) (by omega)]
  rw [wrap_u64' (by omega) (by omega)]
  omega
theorem or_gone {n : Nat} (hn : n < 9223372036854775808) : 9223372036854775808 ||| n = 9223372036854775808 + n := by
  rw [show (9223372036854775808 : Nat) = 2 ^ 63 * 1 by decide]
  exact (Nat.two_pow_add_eq_or_of_lt hn 1).symm
theorem orI_gone {a : Int} (h0 : 0 ≤ a) (ha : a < 9223372036854775808) : orI .u64 (9223372036854775808 : Int) a = 9223372036854775808 + a := by
  obtain ⟨n, rfl⟩ := Int.eq_ofNat_of_zero_le h0
  have := orI_nat (a := 9223372036854775808) (b := n) (by omega) (by omega)
  rw [show ((9223372036854775808 : Nat) : Int) = (9223372036854775808 : Int) from rfl] at this
  rw [this, or_gone (by omega)]
  rfl
theorem fdiv_pow (n k : Nat) : Int.fdiv (n : Int) (2 ^ k) = ((n / 2 ^ k : Nat) : Int) := by
  rw [Int.fdiv_eq_ediv_of_nonneg _ (by exact Int.pow_nonneg (by omega))]
  norm_cast
theorem tdiv_nn {a b : Int} (h : 0 ≤ a) : Int.tdiv a b = a / b := Int.tdiv_eq_ediv_of_nonneg h
theorem tmod_nn {a b : Int} (h : 0 ≤ a) : Int.tmod a b = a % b := Int.tmod_eq_emod_of_nonneg h
theorem andI_one {n : Nat} (hn : n < 18446744073709551616) : andI .u64 (n : Int) (1 : Int) = ((n % 2 : Nat) : Int) := by
  have := andI_nat (a := n) (b := 1) hn (by omega)
  rw [show ((1 : Nat) : Int) = (1 : Int) from rfl] at this
  rw [this, Nat.and_one_is_mod]
end Go.Ev
