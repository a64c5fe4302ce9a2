/- The engine, part 23: the arithmetic of words on natural numbers. -/
import Derived.Test.YtlmlganfjnokiaaE22
import Derived.IntWalk
namespace Eng
open Go
set_option exponentiation.threshold 2000

theorem wrap_u64 (n : Int) : IntKind.u64.wrap n = n % 18446744073709551616 := by
  simp [IntKind.wrap, IntKind.signed, IntKind.bits]
theorem wrap_u8 (n : Int) : IntKind.u8.wrap n = n % 256 := by
  simp [IntKind.wrap, IntKind.signed, IntKind.bits]
theorem wrap_i64 (n : Int) (h : -9223372036854775808 ≤ n ∧ n < 9223372036854775808) : IntKind.i64.wrap n = n := by
  simp [IntKind.wrap, IntKind.signed, IntKind.bits]
  split <;> omega
theorem u_add (a b : Nat) : rbin .add .u64 (Int.ofNat a) (Int.ofNat b) = Int.ofNat ((a + b) % 18446744073709551616) := by
  show IntKind.u64.wrap _ = _
  rw [wrap_u64]
  simp only [Int.ofNat_eq_natCast]
  omega
theorem u_mul (a b : Nat) : rbin .mul .u64 (Int.ofNat a) (Int.ofNat b) = Int.ofNat ((a * b) % 18446744073709551616) := by
  show IntKind.u64.wrap _ = _
  rw [wrap_u64]
  simp only [Int.ofNat_eq_natCast]
  omega
theorem u_sub (a b : Nat) (h : b ≤ 18446744073709551616) : rbin .sub .u64 (Int.ofNat a) (Int.ofNat b) = Int.ofNat ((a + 18446744073709551616 - b) % 18446744073709551616) := by
  show IntKind.u64.wrap _ = _
  rw [wrap_u64]
  simp only [Int.ofNat_eq_natCast]
  omega
theorem u_shr (a k : Nat) (hk : k ≤ 64) : rbin .shr .u64 (Int.ofNat a) (Int.ofNat k) = Int.ofNat (a / 2 ^ k) := by
  show Int.fdiv (Int.ofNat a) (2 ^ (min (Int.ofNat k).toNat IntKind.u64.bits)) = _
  have : min (Int.ofNat k).toNat IntKind.u64.bits = k := by simp [IntKind.bits]; omega
  rw [this, Int.fdiv_eq_ediv_of_nonneg _ (by exact Int.le_of_lt (Int.pow_pos (by omega)))]
  simp only [Int.ofNat_eq_natCast]
  rw [Int.natCast_ediv]
  simp
theorem u_shl (a k : Nat) (hk : k ≤ 64) : rbin .shl .u64 (Int.ofNat a) (Int.ofNat k) = Int.ofNat (a * 2 ^ k % 18446744073709551616) := by
  show IntKind.u64.wrap ((Int.ofNat a) * (2 ^ (min (Int.ofNat k).toNat IntKind.u64.bits))) = _
  have : min (Int.ofNat k).toNat IntKind.u64.bits = k := by simp [IntKind.bits]; omega
  rw [this, wrap_u64]
  simp only [Int.ofNat_eq_natCast]
  rw [Int.natCast_emod, Int.natCast_mul]
  simp
theorem bv_nat (a : Nat) : (BitVec.ofInt 64 (Int.ofNat a)).toNat = a % 18446744073709551616 := by
  simp
theorem u_and (a b : Nat) (ha : a < 18446744073709551616) (hb : b < 18446744073709551616) : rbin .and .u64 (Int.ofNat a) (Int.ofNat b) = Int.ofNat (a &&& b) := by
  show IntKind.u64.wrap (((BitVec.ofInt IntKind.u64.bits (Int.ofNat a) &&& BitVec.ofInt IntKind.u64.bits (Int.ofNat b)).toNat : Nat) : Int) = _
  have h : (BitVec.ofInt IntKind.u64.bits (Int.ofNat a) &&& BitVec.ofInt IntKind.u64.bits (Int.ofNat b)).toNat = a &&& b := by
    rw [BitVec.toNat_and]
    show (BitVec.ofInt 64 (Int.ofNat a)).toNat &&& (BitVec.ofInt 64 (Int.ofNat b)).toNat = _
    rw [bv_nat, bv_nat, Nat.mod_eq_of_lt ha, Nat.mod_eq_of_lt hb]
  rw [h, wrap_u64]
  have : a &&& b ≤ a := Nat.and_le_left
  simp only [Int.ofNat_eq_natCast]
  omega
theorem u_or (a b : Nat) (ha : a < 18446744073709551616) (hb : b < 18446744073709551616) : rbin .or .u64 (Int.ofNat a) (Int.ofNat b) = Int.ofNat (a ||| b) := by
  show IntKind.u64.wrap (((BitVec.ofInt IntKind.u64.bits (Int.ofNat a) ||| BitVec.ofInt IntKind.u64.bits (Int.ofNat b)).toNat : Nat) : Int) = _
  have h : (BitVec.ofInt IntKind.u64.bits (Int.ofNat a) ||| BitVec.ofInt IntKind.u64.bits (Int.ofNat b)).toNat = a ||| b := by
    rw [BitVec.toNat_or]
    show (BitVec.ofInt 64 (Int.ofNat a)).toNat ||| (BitVec.ofInt 64 (Int.ofNat b)).toNat = _
    rw [bv_nat, bv_nat, Nat.mod_eq_of_lt ha, Nat.mod_eq_of_lt hb]
  rw [h, wrap_u64]
  have : a ||| b < 2 ^ 64 := Nat.or_lt_two_pow (by simpa using ha) (by simpa using hb)
  simp only [Int.ofNat_eq_natCast]
  omega
/-- A mask. -/
theorem u_mask (a k : Nat) (hk : k ≤ 64) (ha : a < 18446744073709551616) : rbin .and .u64 (Int.ofNat a) (Int.ofNat (2 ^ k - 1)) = Int.ofNat (a % 2 ^ k) := by
  have h : 2 ^ k ≤ 2 ^ 64 := Nat.pow_le_pow_right (by omega) hk
  have h0 := Nat.two_pow_pos k
  rw [u_and _ _ ha (by have : (2:Nat)^64 = 18446744073709551616 := by decide
                       omega), Nat.and_two_pow_sub_one_eq_mod]
/-- A sum of what does not meet. -/
theorem u_or_add (a b k : Nat) (ha : a < 2 ^ k) (hs : 2 ^ k * b < 18446744073709551616) (hk : k ≤ 64) : rbin .or .u64 (Int.ofNat a) (Int.ofNat (2 ^ k * b)) = Int.ofNat (a + 2 ^ k * b) := by
  have h : 2 ^ k ≤ 2 ^ 64 := Nat.pow_le_pow_right (by omega) hk
  rw [u_or _ _ (by have : (2:Nat)^64 = 18446744073709551616 := by decide
                   omega) hs, Nat.or_comm, ← Nat.two_pow_add_eq_or_of_lt ha, Nat.add_comm]
end Eng
