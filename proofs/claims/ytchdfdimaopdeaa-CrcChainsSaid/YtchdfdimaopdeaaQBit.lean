/- Bits of unsigned numbers that are cast from natural ones. No program is named here. -/
import Derived.Test.YtchdfdimaopdeaaQPure
namespace Go.Proofs.Ytchdfdimaopdeaa

theorem bv8 {a : Nat} (h : a < 256) : (BitVec.ofInt 8 (a : Int)).toNat = a := by rw [BitVec.toNat_ofInt]; omega
theorem bv32 {a : Nat} (h : a < 4294967296) : (BitVec.ofInt 32 (a : Int)).toNat = a := by rw [BitVec.toNat_ofInt]; omega
theorem bv64 {a : Nat} (h : a < 18446744073709551616) : (BitVec.ofInt 64 (a : Int)).toNat = a := by rw [BitVec.toNat_ofInt]; omega
theorem wrapN8 {a : Nat} (h : a < 256) : IntKind.u8.wrap (a : Int) = a := by
  simp only [IntKind.wrap, IntKind.bits, IntKind.signed]
  simp
  omega
theorem wrapN32 {a : Nat} (h : a < 4294967296) : IntKind.u32.wrap (a : Int) = a := by
  simp only [IntKind.wrap, IntKind.bits, IntKind.signed]
  simp
  omega
theorem wrapN64 {a : Nat} (h : a < 18446744073709551616) : IntKind.u64.wrap (a : Int) = a := by
  simp only [IntKind.wrap, IntKind.bits, IntKind.signed]
  simp
  omega
theorem xor_lt8 {a b : Nat} (ha : a < 256) (hb : b < 256) : a ^^^ b < 256 := Nat.xor_lt_two_pow (n := 8) ha hb
theorem xor_lt64 {a b : Nat} (ha : a < 18446744073709551616) (hb : b < 18446744073709551616) : a ^^^ b < 18446744073709551616 := Nat.xor_lt_two_pow (n := 64) ha hb
theorem or_lt64 {a b : Nat} (ha : a < 18446744073709551616) (hb : b < 18446744073709551616) : a ||| b < 18446744073709551616 := Nat.or_lt_two_pow (n := 64) ha hb
theorem xor8 {a b : Nat} (ha : a < 256) (hb : b < 256) : bits .xor .u8 (a : Int) (b : Int) = ((a ^^^ b : Nat) : Int) := by
  show IntKind.u8.wrap (((BitVec.ofInt 8 (a : Int)) ^^^ (BitVec.ofInt 8 (b : Int))).toNat : Int) = _
  rw [BitVec.toNat_xor, bv8 ha, bv8 hb, wrapN8 (xor_lt8 ha hb)]
theorem xor32 {a b : Nat} (ha : a < 4294967296) (hb : b < 4294967296) : bits .xor .u32 (a : Int) (b : Int) = ((a ^^^ b : Nat) : Int) := by
  show IntKind.u32.wrap (((BitVec.ofInt 32 (a : Int)) ^^^ (BitVec.ofInt 32 (b : Int))).toNat : Int) = _
  rw [BitVec.toNat_xor, bv32 ha, bv32 hb, wrapN32 (xor_lt32 ha hb)]
theorem xor64 {a b : Nat} (ha : a < 18446744073709551616) (hb : b < 18446744073709551616) : bits .xor .u64 (a : Int) (b : Int) = ((a ^^^ b : Nat) : Int) := by
  show IntKind.u64.wrap (((BitVec.ofInt 64 (a : Int)) ^^^ (BitVec.ofInt 64 (b : Int))).toNat : Int) = _
  rw [BitVec.toNat_xor, bv64 ha, bv64 hb, wrapN64 (xor_lt64 ha hb)]
theorem or64 {a b : Nat} (ha : a < 18446744073709551616) (hb : b < 18446744073709551616) : bits .or .u64 (a : Int) (b : Int) = ((a ||| b : Nat) : Int) := by
  show IntKind.u64.wrap (((BitVec.ofInt 64 (a : Int)) ||| (BitVec.ofInt 64 (b : Int))).toNat : Int) = _
  rw [BitVec.toNat_or, bv64 ha, bv64 hb, wrapN64 (or_lt64 ha hb)]
theorem and_one32 {a : Nat} (ha : a < 4294967296) : bits .and .u32 (a : Int) 1 = ((a % 2 : Nat) : Int) := by
  show IntKind.u32.wrap (((BitVec.ofInt 32 (a : Int)) &&& (BitVec.ofInt 32 ((1 : Nat) : Int))).toNat : Int) = _
  rw [BitVec.toNat_and, bv32 ha, bv32 (by omega), Nat.and_one_is_mod, wrapN32 (by omega)]
theorem not32 {a : Nat} (ha : a < 4294967296) : bits .xor .u32 IntKind.u32.max (a : Int) = ((flipN a : Nat) : Int) := by
  show IntKind.u32.wrap (((BitVec.ofInt 32 ((4294967295 : Nat) : Int)) ^^^ (BitVec.ofInt 32 (a : Int))).toNat : Int) = _
  have e3 : BitVec.ofInt 32 ((4294967295 : Nat) : Int) = BitVec.allOnes 32 := by rfl
  rw [e3, BitVec.allOnes_xor, BitVec.toNat_not, bv32 ha, show 2 ^ 32 - 1 - a = flipN a from rfl, wrapN32 (flipN_lt a)]
/-- The number of any operation lies within its kind. -/
theorem xor64_range (a b : Int) : ∃ n : Nat, bits .xor .u64 a b = (n : Int) ∧ n < 18446744073709551616 := by
  refine ⟨_, ?_, (BitVec.ofInt 64 a ^^^ BitVec.ofInt 64 b).isLt⟩
  show IntKind.u64.wrap (((BitVec.ofInt 64 a) ^^^ (BitVec.ofInt 64 b)).toNat : Int) = _
  exact wrapN64 (BitVec.isLt _)
theorem crcK_succ : ∀ (k x : Nat), crcK (k + 1) x = crcL (crcK k x)
  | 0, _ => rfl
  | k + 1, x => by rw [crcK, crcK_succ k]; rfl
/-- One bit's step as the program takes it. -/
theorem crcL_mul {x : Nat} (h : x < 4294967296) : bits .xor .u32 ((x / 2 : Nat) : Int) ((2197175160 * (x % 2) : Nat) : Int) = ((crcL x : Nat) : Int) := by
  rw [xor32 (by omega) (by omega)]
  unfold crcL
  rcases Nat.mod_two_eq_zero_or_one x with hx | hx <;> rw [hx] <;> simp
end Go.Proofs.Ytchdfdimaopdeaa
