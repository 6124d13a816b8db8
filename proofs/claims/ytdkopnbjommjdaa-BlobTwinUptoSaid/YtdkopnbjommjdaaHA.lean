import Derived.Test.YtdkopnbjommjdaaHM
import Derived.Test.YtdkopnbjommjdaaGA
set_option linter.all false
namespace Go.Ev
open Go.Proofs
def uv (n : Nat) : Value := .int .u64 (n : Int)
/-! ### word -/
theorem hdw_or {k r w : Nat} (hk : k ≤ 255) (hr : r ≤ 1048576) (hw : w ≤ 1048576) : (k * 2 ^ 0 ||| r * 2 ^ 8) ||| w * 2 ^ 32 = hdw k r w := by
  have h1 : k * 2 ^ 0 ||| r * 2 ^ 8 = r * 2 ^ 8 + k := by
    rw [Nat.or_comm, Nat.mul_comm r, Nat.two_pow_add_eq_or_of_lt (by omega), Nat.pow_zero, Nat.mul_one]
  rw [h1, Nat.or_comm, Nat.mul_comm w, ← Nat.two_pow_add_eq_or_of_lt (by omega)]
  unfold hdw; omega
theorem head_ok {k r w : Int} {h : Hp} {R : Value → Hp → Prop}
    (hR : if (1 ≤ k ∧ k ≤ 255) ∧ (0 ≤ r ∧ r ≤ 1048576) ∧ (0 ≤ w ∧ w ≤ 1048576) then R (.tuple #[uv (hdw k.toNat r.toNat w.toNat), .int .i64 0]) h else R (.tuple #[.int .u64 0, .int .i64 10]) h) :
    CallTo Try.prog 66 #[.int .i64 k, .int .i64 r, .int .i64 w] h R := by
  refine f66F_ok ?_
  have bad : ¬ ((1 ≤ k ∧ k ≤ 255) ∧ (0 ≤ r ∧ r ≤ 1048576) ∧ (0 ≤ w ∧ w ≤ 1048576)) → f66K1 k r w true h R := fun hn => by
    rw [if_neg hn] at hR; exact hR
  unfold f66F
  refine Cond_dec (fun c => bad (by omega)) fun c1 => Cond_dec (fun c => bad (by omega)) fun c2 => Cond_dec (fun c => bad (by omega)) fun c3 => Cond_dec (fun c => bad (by omega)) fun c4 => Cond_dec (fun c => bad (by omega)) fun c5 => ?_
  unfold f66K1
  refine Cond_dec (fun c => by rw [if_neg (by omega)] at hR; exact hR) fun c6 => ?_
  rw [if_pos (by omega)] at hR
  refine ⟨by omega, by omega, by omega, ?_⟩
  obtain ⟨k, rfl⟩ := Int.eq_ofNat_of_zero_le (show 0 ≤ k by omega)
  obtain ⟨r, rfl⟩ := Int.eq_ofNat_of_zero_le (show 0 ≤ r by omega)
  obtain ⟨w, rfl⟩ := Int.eq_ofNat_of_zero_le (show 0 ≤ w by omega)
  have e : orI .u64 (orI .u64 (IntKind.wrap .u64 ((IntKind.wrap .u64 (k : Int)) * 2 ^ (min (0 : Int).toNat (IntKind.bits .u64)))) (IntKind.wrap .u64 ((IntKind.wrap .u64 (r : Int)) * 2 ^ (min (8 : Int).toNat (IntKind.bits .u64))))) (IntKind.wrap .u64 ((IntKind.wrap .u64 (w : Int)) * 2 ^ (min (32 : Int).toNat (IntKind.bits .u64)))) = ((hdw k r w : Nat) : Int) := by
    have b0 : (2 : Int) ^ (min (0 : Int).toNat (IntKind.bits .u64)) = ((2 ^ 0 : Nat) : Int) := rfl
    have b8 : (2 : Int) ^ (min (8 : Int).toNat (IntKind.bits .u64)) = ((2 ^ 8 : Nat) : Int) := rfl
    have b32 : (2 : Int) ^ (min (32 : Int).toNat (IntKind.bits .u64)) = ((2 ^ 32 : Nat) : Int) := rfl
    rw [b0, b8, b32, wrap_u64' (x := (k : Int)) (by omega) (by omega), wrap_u64' (x := (r : Int)) (by omega) (by omega), wrap_u64' (x := (w : Int)) (by omega) (by omega)]
    rw [← Int.natCast_mul, ← Int.natCast_mul, ← Int.natCast_mul]
    rw [wrap_u64' (by omega) (by omega), wrap_u64' (by omega) (by omega), wrap_u64' (by omega) (by omega)]
    rw [orI_nat (by omega) (by omega)]
    have hk' : k ≤ 255 := by omega
    have hr' : r ≤ 1048576 := by omega
    have hw' : w ≤ 1048576 := by omega
    have hlt : (k * 2 ^ 0 ||| r * 2 ^ 8) < 2 ^ 64 := Nat.or_lt_two_pow (by omega) (by omega)
    rw [orI_nat (by omega) (by omega), hdw_or hk' hr' hw']
  rw [e]
  exact hR
theorem split_ok {k r w : Nat} {h : Hp} {R : Value → Hp → Prop} (hk1 : 1 ≤ k) (hk : k ≤ 255) (hr : r ≤ 1048576) (hw : w ≤ 1048576)
    (hR : R (.tuple #[.int .i64 (k : Int), .int .i64 (r : Int), .int .i64 (w : Int), .int .i64 0]) h) : CallTo Try.prog 71 #[uv (hdw k r w)] h R := by
  refine f71F_ok ?_
  have e56 : Int.fdiv ((hdw k r w : Nat) : Int) (2 ^ (min (56 : Int).toNat (IntKind.bits .u64))) = 0 := by
    have : (min (56 : Int).toNat (IntKind.bits .u64)) = 56 := rfl
    rw [this, fdiv_pow]
    have : hdw k r w / 2 ^ 56 = 0 := Nat.div_eq_of_lt (by unfold hdw; omega)
    rw [this]; rfl
  have ek : IntKind.wrap .i64 (andI .u64 ((hdw k r w : Nat) : Int) (255 : Int)) = (k : Int) := by
    have := andI_nat (a := hdw k r w) (b := 255) (by unfold hdw; omega) (by omega)
    rw [show ((255 : Nat) : Int) = (255 : Int) from rfl] at this
    rw [this, show (255 : Nat) = 2 ^ 8 - 1 from rfl, Nat.and_two_pow_sub_one_eq_mod, wrap_i64' (by omega) (by omega)]
    have : hdw k r w % 2 ^ 8 = k := by unfold hdw; omega
    rw [this]
  have er : IntKind.wrap .i64 (andI .u64 (Int.fdiv ((hdw k r w : Nat) : Int) (2 ^ (min (8 : Int).toNat (IntKind.bits .u64)))) (16777215 : Int)) = (r : Int) := by
    have h8 : (min (8 : Int).toNat (IntKind.bits .u64)) = 8 := rfl
    have hd : hdw k r w / 2 ^ 8 = r + w * 2 ^ 24 := by unfold hdw; omega
    rw [h8, fdiv_pow, hd]
    have := andI_nat (a := r + w * 2 ^ 24) (b := 16777215) (by omega) (by omega)
    rw [show ((16777215 : Nat) : Int) = (16777215 : Int) from rfl] at this
    rw [this, show (16777215 : Nat) = 2 ^ 24 - 1 from rfl, Nat.and_two_pow_sub_one_eq_mod, wrap_i64' (by omega) (by omega)]
    have : (r + w * 2 ^ 24) % 2 ^ 24 = r := by omega
    rw [this]
  have ew : IntKind.wrap .i64 (andI .u64 (Int.fdiv ((hdw k r w : Nat) : Int) (2 ^ (min (32 : Int).toNat (IntKind.bits .u64)))) (16777215 : Int)) = (w : Int) := by
    have h32 : (min (32 : Int).toNat (IntKind.bits .u64)) = 32 := rfl
    have hd : hdw k r w / 2 ^ 32 = w := by unfold hdw; omega
    rw [h32, fdiv_pow, hd]
    have := andI_nat (a := w) (b := 16777215) (by omega) (by omega)
    rw [show ((16777215 : Nat) : Int) = (16777215 : Int) from rfl] at this
    rw [this, show (16777215 : Nat) = 2 ^ 24 - 1 from rfl, Nat.and_two_pow_sub_one_eq_mod, wrap_i64' (by omega) (by omega)]
    have : w % 2 ^ 24 = w := by omega
    rw [this]
  unfold f71F
  simp only [e56, ek, er, ew]
  refine ⟨by omega, by omega, by omega, ?_⟩
  refine Cond_f (by simp) (Cond_f (by simp; omega) (Cond_dec (fun c => by omega) fun _ => ?_))
  unfold f71K1
  refine Cond_dec (fun c => by omega) fun _ => hR
end Go.Ev
