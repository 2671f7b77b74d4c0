/- Numbers: when a wrap leaves its number alone; shifts and bits as arithmetic. -/
import Derived.Test.YteopoodhclljjaaGreatDoorLib2
set_option linter.unusedSimpArgs false
set_option linter.unusedVariables false
namespace Go.Eng
open Go

theorem wrap_i64 {x : Int} (h1 : -9223372036854775808 ≤ x) (h2 : x ≤ 9223372036854775807) : IntKind.wrap .i64 x = x := by
  unfold IntKind.wrap; simp [IntKind.bits, IntKind.signed]; omega
theorem wrap_u64 {x : Int} (h1 : 0 ≤ x) (h2 : x ≤ 18446744073709551615) : IntKind.wrap .u64 x = x := by
  unfold IntKind.wrap; simp [IntKind.bits, IntKind.signed]; omega
theorem wrap_u32 {x : Int} (h1 : 0 ≤ x) (h2 : x ≤ 4294967295) : IntKind.wrap .u32 x = x := by
  unfold IntKind.wrap; simp [IntKind.bits, IntKind.signed]; omega
theorem wrap_u8 {x : Int} (h1 : 0 ≤ x) (h2 : x ≤ 255) : IntKind.wrap .u8 x = x := by
  unfold IntKind.wrap; simp [IntKind.bits, IntKind.signed]; omega
theorem wrap_u8_mod {x : Int} : IntKind.wrap .u8 x = x % 256 := by
  unfold IntKind.wrap; simp [IntKind.bits, IntKind.signed]
theorem wrap_u32_mod {x : Int} : IntKind.wrap .u32 x = x % 4294967296 := by
  unfold IntKind.wrap; simp [IntKind.bits, IntKind.signed]
theorem wrap_u64_mod {x : Int} : IntKind.wrap .u64 x = x % 18446744073709551616 := by
  unfold IntKind.wrap; simp [IntKind.bits, IntKind.signed]
theorem ofInt_nat (n a : Nat) : BitVec.ofInt n (a : Int) = BitVec.ofNat n a := by
  apply BitVec.eq_of_toNat_eq
  simp [BitVec.toNat_ofInt]

theorem orI_nat (k : IntKind) {a b : Nat} (ha : a < 2 ^ k.bits) (hb : b < 2 ^ k.bits) : orI k a b = k.wrap ((a ||| b : Nat) : Int) := by
  unfold orI
  rw [ofInt_nat, ofInt_nat, BitVec.toNat_or, BitVec.toNat_ofNat, BitVec.toNat_ofNat, Nat.mod_eq_of_lt ha, Nat.mod_eq_of_lt hb]
theorem andI_nat (k : IntKind) {a b : Nat} (ha : a < 2 ^ k.bits) (hb : b < 2 ^ k.bits) : andI k a b = k.wrap ((a &&& b : Nat) : Int) := by
  unfold andI
  rw [ofInt_nat, ofInt_nat, BitVec.toNat_and, BitVec.toNat_ofNat, BitVec.toNat_ofNat, Nat.mod_eq_of_lt ha, Nat.mod_eq_of_lt hb]
theorem xorI_nat (k : IntKind) {a b : Nat} (ha : a < 2 ^ k.bits) (hb : b < 2 ^ k.bits) : xorI k a b = k.wrap ((a ^^^ b : Nat) : Int) := by
  unfold xorI
  rw [ofInt_nat, ofInt_nat, BitVec.toNat_xor, BitVec.toNat_ofNat, BitVec.toNat_ofNat, Nat.mod_eq_of_lt ha, Nat.mod_eq_of_lt hb]
theorem shlI_lit (k : IntKind) (x y : Int) (h : y.toNat ≤ k.bits) : shlI k x y = k.wrap (x * 2 ^ y.toNat) := by
  unfold shlI; rw [Nat.min_eq_left h]
theorem shrI_lit (k : IntKind) (x y : Int) (h : y.toNat ≤ k.bits) : shrI k x y = x / 2 ^ y.toNat := by
  unfold shrI; rw [Nat.min_eq_left h, Int.fdiv_eq_ediv_of_nonneg]
  exact Int.pow_nonneg (by omega)
theorem pow_u64 : (2 : Nat) ^ IntKind.bits .u64 = 18446744073709551616 := by decide
theorem pow_i64 : (2 : Nat) ^ IntKind.bits .i64 = 18446744073709551616 := by decide
theorem pow_u32 : (2 : Nat) ^ IntKind.bits .u32 = 4294967296 := by decide
theorem pow_u8 : (2 : Nat) ^ IntKind.bits .u8 = 256 := by decide
theorem or_u64 {a b : Nat} (ha : a < 18446744073709551616) (hb : b < 18446744073709551616) : orI .u64 a b = ((a ||| b : Nat) : Int) := by
  rw [orI_nat _ (Nat.lt_of_lt_of_le ha (Nat.le_of_eq pow_u64.symm)) (Nat.lt_of_lt_of_le hb (Nat.le_of_eq pow_u64.symm))]
  have := Nat.or_lt_two_pow (n := 64) ha hb
  exact wrap_u64 (by omega) (by omega)
theorem and_u64 {a b : Nat} (ha : a < 18446744073709551616) (hb : b < 18446744073709551616) : andI .u64 a b = ((a &&& b : Nat) : Int) := by
  rw [andI_nat _ (Nat.lt_of_lt_of_le ha (Nat.le_of_eq pow_u64.symm)) (Nat.lt_of_lt_of_le hb (Nat.le_of_eq pow_u64.symm))]
  have := Nat.and_le_left (n := a) (m := b)
  exact wrap_u64 (by omega) (by omega)
theorem xor_u64 {a b : Nat} (ha : a < 18446744073709551616) (hb : b < 18446744073709551616) : xorI .u64 a b = ((a ^^^ b : Nat) : Int) := by
  rw [xorI_nat _ (Nat.lt_of_lt_of_le ha (Nat.le_of_eq pow_u64.symm)) (Nat.lt_of_lt_of_le hb (Nat.le_of_eq pow_u64.symm))]
  have := Nat.xor_lt_two_pow (n := 64) ha hb
  exact wrap_u64 (by omega) (by omega)
theorem or_u32 {a b : Nat} (ha : a < 4294967296) (hb : b < 4294967296) : orI .u32 a b = ((a ||| b : Nat) : Int) := by
  rw [orI_nat _ (Nat.lt_of_lt_of_le ha (Nat.le_of_eq pow_u32.symm)) (Nat.lt_of_lt_of_le hb (Nat.le_of_eq pow_u32.symm))]
  have := Nat.or_lt_two_pow (n := 32) ha hb
  exact wrap_u32 (by omega) (by omega)
theorem and_u32 {a b : Nat} (ha : a < 4294967296) (hb : b < 4294967296) : andI .u32 a b = ((a &&& b : Nat) : Int) := by
  rw [andI_nat _ (Nat.lt_of_lt_of_le ha (Nat.le_of_eq pow_u32.symm)) (Nat.lt_of_lt_of_le hb (Nat.le_of_eq pow_u32.symm))]
  have := Nat.and_le_left (n := a) (m := b)
  exact wrap_u32 (by omega) (by omega)
theorem xor_u32 {a b : Nat} (ha : a < 4294967296) (hb : b < 4294967296) : xorI .u32 a b = ((a ^^^ b : Nat) : Int) := by
  rw [xorI_nat _ (Nat.lt_of_lt_of_le ha (Nat.le_of_eq pow_u32.symm)) (Nat.lt_of_lt_of_le hb (Nat.le_of_eq pow_u32.symm))]
  have := Nat.xor_lt_two_pow (n := 32) ha hb
  exact wrap_u32 (by omega) (by omega)
theorem xor_u8 {a b : Nat} (ha : a < 256) (hb : b < 256) : xorI .u8 a b = ((a ^^^ b : Nat) : Int) := by
  rw [xorI_nat _ (Nat.lt_of_lt_of_le ha (Nat.le_of_eq pow_u8.symm)) (Nat.lt_of_lt_of_le hb (Nat.le_of_eq pow_u8.symm))]
  have := Nat.xor_lt_two_pow (n := 8) ha hb
  exact wrap_u8 (by omega) (by omega)
theorem xor_i64 {a b : Nat} (ha : a < 9223372036854775808) (hb : b < 9223372036854775808) : xorI .i64 a b = ((a ^^^ b : Nat) : Int) := by
  rw [xorI_nat _ (Nat.lt_of_lt_of_le (by omega) (Nat.le_of_eq pow_i64.symm)) (Nat.lt_of_lt_of_le (by omega) (Nat.le_of_eq pow_i64.symm))]
  have := Nat.xor_lt_two_pow (n := 63) ha hb
  exact wrap_i64 (by omega) (by omega)
/-- The low bits of a shifted number are free. -/
theorem or_shift (a b i : Nat) (h : b < 2 ^ i) : a * 2 ^ i ||| b = a * 2 ^ i + b := by
  rw [Nat.mul_comm]; exact (Nat.two_pow_add_eq_or_of_lt h a).symm
end Go.Eng
