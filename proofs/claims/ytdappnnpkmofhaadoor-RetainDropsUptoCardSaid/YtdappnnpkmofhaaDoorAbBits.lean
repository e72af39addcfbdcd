/- Bits of small numbers, as arithmetic. -/
import Derived.Test.YtdappnnpkmofhaaDoorAbRun2
set_option linter.unusedSimpArgs false
set_option linter.unusedVariables false
namespace Go.Abs
open Go
theorem bv64 {a : Nat} (h : a < 18446744073709551616) : (BitVec.ofInt IntKind.i64.bits (a : Int)).toNat = a := by
  show (BitVec.ofInt 64 (a : Int)).toNat = a
  rw [BitVec.toNat_ofInt]; omega
theorem bv8 {a : Nat} (h : a < 256) : (BitVec.ofInt IntKind.u8.bits (a : Int)).toNat = a := by
  show (BitVec.ofInt 8 (a : Int)).toNat = a
  rw [BitVec.toNat_ofInt]; omega
theorem and64 {a b : Nat} (ha : a < 9223372036854775808) (hb : b < 9223372036854775808) : IntKind.i64.wrap ((BitVec.ofInt IntKind.i64.bits (a : Int) &&& BitVec.ofInt IntKind.i64.bits (b : Int)).toNat : Int) = ((a &&& b : Nat) : Int) := by
  rw [BitVec.toNat_and, bv64 (by omega), bv64 (by omega)]
  have : a &&& b ≤ a := Nat.and_le_left
  rw [wrap_i64 (by omega) (by omega)]
theorem or64 {a b : Nat} (ha : a < 9223372036854775808) (hb : b < 9223372036854775808) : IntKind.i64.wrap ((BitVec.ofInt IntKind.i64.bits (a : Int) ||| BitVec.ofInt IntKind.i64.bits (b : Int)).toNat : Int) = ((a ||| b : Nat) : Int) := by
  rw [BitVec.toNat_or, bv64 (by omega), bv64 (by omega)]
  have : a ||| b < 2 ^ 63 := Nat.or_lt_two_pow (by omega) (by omega)
  rw [wrap_i64 (by omega) (by omega)]
theorem and8 {a b : Nat} (ha : a < 256) (hb : b < 256) : IntKind.u8.wrap ((BitVec.ofInt IntKind.u8.bits (a : Int) &&& BitVec.ofInt IntKind.u8.bits (b : Int)).toNat : Int) = ((a &&& b : Nat) : Int) := by
  rw [BitVec.toNat_and, bv8 ha, bv8 hb]
  have : a &&& b ≤ a := Nat.and_le_left
  rw [wrap_u8 (by omega) (by omega)]
theorem mask {a : Nat} (j : Nat) : a &&& (2 ^ j - 1) = a % 2 ^ j := Nat.and_two_pow_sub_one_eq_mod a j
theorem and64_7 {a : Nat} (ha : a < 9223372036854775808) : andI .i64 (a : Int) 7 = ((a % 8 : Nat) : Int) := by
  have := and64 (b := 7) ha (by omega); rw [mask 3] at this; exact this
theorem and64_15 {a : Nat} (ha : a < 9223372036854775808) : andI .i64 (a : Int) 15 = ((a % 16 : Nat) : Int) := by
  have := and64 (b := 15) ha (by omega); rw [mask 4] at this; exact this
theorem and64_31 {a : Nat} (ha : a < 9223372036854775808) : andI .i64 (a : Int) 31 = ((a % 32 : Nat) : Int) := by
  have := and64 (b := 31) ha (by omega); rw [mask 5] at this; exact this
theorem and8_63 {a : Nat} (ha : a < 256) : andI .u8 (a : Int) 63 = ((a % 64 : Nat) : Int) := by
  have := and8 (b := 63) ha (by omega); rw [mask 6] at this; exact this
set_option maxRecDepth 100000 in
theorem and8_192 {a : Nat} (ha : a < 256) : andI .u8 (a : Int) 192 = ((a / 64 * 64 : Nat) : Int) := by
  have h := and8 (b := 192) ha (by omega)
  have : ∀ x : Fin 256, x.val &&& 192 = x.val / 64 * 64 := by decide
  rw [this ⟨a, ha⟩] at h; exact h
theorem or64_shl {p x : Nat} (hp : p < 72057594037927936) (hx : x < 64) : orI .i64 ((p * 64 : Nat) : Int) (x : Int) = ((p * 64 + x : Nat) : Int) := by
  have h := or64 (a := p * 64) (b := x) (by omega) (by omega)
  have := Nat.shiftLeft_add_eq_or_of_lt (i := 6) (b := x) (by omega) p
  rw [Nat.shiftLeft_eq] at this
  rw [show p * 64 = p * 2 ^ 6 by omega, ← this] at h
  rw [show p * 64 = p * 2 ^ 6 by omega]; exact h
end Go.Abs
