/- Bits of numbers of any kind: a mask of the lowest bits is a remainder; bits that do not meet are a sum. -/
import Derived.WalkKit
namespace Go.Proofs.Ytgohnekaolgblaa
open Go.RowKit

theorem wrap_small (k : IntKind) (n : Nat) (h : n < 2 ^ (k.bits - 1)) : k.wrap (n : Int) = n := by
  cases k <;> simp [IntKind.wrap, IntKind.bits, IntKind.signed] at * <;> omega

theorem ofInt_toNat (n : Nat) (y : Int) : ((BitVec.ofInt n y).toNat : Int) = y % 2 ^ n := by
  rw [BitVec.toNat_ofInt]
  have : (0 : Int) < 2 ^ n := Int.pow_pos (by decide)
  have := Int.emod_nonneg y (show (2 : Int) ^ n ≠ 0 by omega)
  simp; omega

theorem ofInt_natCast_toNat (n m : Nat) (h : m < 2 ^ n) : (BitVec.ofInt n (m : Int)).toNat = m := by
  rw [BitVec.ofInt_natCast, BitVec.toNat_ofNat]; exact Nat.mod_eq_of_lt h

theorem lt_bits (k : IntKind) {m : Nat} (h : m < 2 ^ (k.bits - 1)) : m < 2 ^ k.bits := by
  cases k <;> simp [IntKind.bits] at * <;> omega

/-- A mask of the lowest bits, of a number of any sign. -/
theorem bits_mask (k : IntKind) (y : Int) (j : Nat) (hj : j < k.bits) : bits .and k y (2 ^ j - 1) = y % 2 ^ j := by
  have hp : (1 : Nat) ≤ 2 ^ j := Nat.one_le_two_pow
  have hm : 2 ^ j - 1 < 2 ^ (k.bits - 1) := by
    have : 2 ^ j ≤ 2 ^ (k.bits - 1) := Nat.pow_le_pow_right (by omega) (by omega)
    omega
  have hc : ((2 : Int) ^ j - 1) = ((2 ^ j - 1 : Nat) : Int) := by rw [Int.ofNat_sub hp]; simp
  have hlt : (BitVec.ofInt k.bits y &&& BitVec.ofInt k.bits ((2 ^ j - 1 : Nat) : Int)).toNat = (BitVec.ofInt k.bits y).toNat % 2 ^ j := by
    rw [BitVec.toNat_and, ofInt_natCast_toNat _ _ (lt_bits k hm), Nat.and_two_pow_sub_one_eq_mod]
  show k.wrap ((BitVec.ofInt k.bits y &&& BitVec.ofInt k.bits ((2 : Int) ^ j - 1)).toNat : Int) = _
  rw [hc, hlt, wrap_small k _ (Nat.lt_of_lt_of_le (Nat.mod_lt _ (by omega)) (by omega))]
  rw [Int.natCast_emod, ofInt_toNat]
  have : ((2 ^ j : Nat) : Int) = 2 ^ j := by simp
  rw [this, Int.emod_emod_of_dvd]
  exact ⟨2 ^ (k.bits - j), by rw [← Int.pow_add]; congr 1; omega⟩

theorem and127_i64 (y : Int) : bits .and .i64 y 127 = y % 128 := bits_mask .i64 y 7 (by decide)
theorem and127_i32 (y : Int) : bits .and .i32 y 127 = y % 128 := bits_mask .i32 y 7 (by decide)
theorem and127_u32 (y : Int) : bits .and .u32 y 127 = y % 128 := bits_mask .u32 y 7 (by decide)
theorem and127_u8 (y : Int) : bits .and .u8 y 127 = y % 128 := bits_mask .u8 y 7 (by decide)

theorem and64_lo (p : Int) (h0 : 0 ≤ p) (h1 : p < 64) : bits .and .u8 p 64 = 0 := by
  rw [u8_and p 64 h0 (by omega) (by omega) (by omega), show (64 : Int).toNat = 2 ^ 6 from rfl, nat_bit]
  have : p.toNat / 2 ^ 6 = 0 := Nat.div_eq_of_lt (by omega)
  rw [this]; rfl
theorem and64_hi (p : Int) (h0 : 64 ≤ p) (h1 : p < 128) : bits .and .u8 p 64 = 64 := by
  rw [u8_and p 64 (by omega) (by omega) (by omega) (by omega), show (64 : Int).toNat = 2 ^ 6 from rfl, nat_bit]
  have : p.toNat / 2 ^ 6 = 1 := by omega
  rw [this]; rfl

/-- Bits that do not meet: the lower number is below 2^j, the upper one a multiple of it. -/
theorem bits_join (k : IntKind) (x y j : Nat) (hx : x % 2 ^ j = 0) (hy : y < 2 ^ j) (hs : x + y < 2 ^ k.bits) : bits .or k (x : Int) (y : Int) = k.wrap ((x + y : Nat) : Int) := by
  show k.wrap ((BitVec.ofInt k.bits (x : Int) ||| BitVec.ofInt k.bits (y : Int)).toNat : Int) = _
  rw [BitVec.toNat_or, ofInt_natCast_toNat _ _ (by omega), ofInt_natCast_toNat _ _ (by omega), nat_join j x y hx hy]

theorem bits_or_comm (k : IntKind) (x y : Int) : bits .or k x y = bits .or k y x := by
  show k.wrap _ = k.wrap _
  rw [BitVec.or_comm]

/-- 128 joined to seven bits. -/
theorem or128_u8 (y : Int) (h0 : 0 ≤ y) (h1 : y < 128) : bits .or .u8 y 128 = y + 128 := by
  obtain ⟨n, rfl⟩ := Int.eq_ofNat_of_zero_le h0
  rw [bits_or_comm, show (128 : Int) = ((128 : Nat) : Int) from rfl, bits_join .u8 128 n 7 (by decide) (by omega) (by simp [IntKind.bits]; omega)]
  rw [IntKind.wrap_u8']; omega

end Go.Proofs.Ytgohnekaolgblaa
