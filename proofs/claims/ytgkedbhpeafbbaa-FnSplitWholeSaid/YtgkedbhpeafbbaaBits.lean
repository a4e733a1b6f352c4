/-
  Bits of 64-bit integers: masks, a bit joined at the low end, exclusive or. Plain arithmetic; no program in sight.
  Conditions: each law states its own ranges.
-/
import Derived.Test.YtgkedbhpeafbbaaBase
set_option linter.unusedSimpArgs false
set_option linter.unusedVariables false
namespace Go.Proofs.Ytgkedbhpeafbbaa
open Go.RowKit

theorem toNat_ofInt_nat (a : Nat) (h : a < 18446744073709551616) : (BitVec.ofInt 64 (a : Int)).toNat = a := by
  rw [BitVec.ofInt_natCast, BitVec.toNat_ofNat]; exact Nat.mod_eq_of_lt (by omega)

theorem wrap_nat (a : Nat) (h : a < 9223372036854775808) : IntKind.i64.wrap (a : Int) = a := by rw [IntKind.wrap_i64]; omega

/-- 'n & (2^k - 1)'. -/
theorem and_mask (n : Int) (k : Nat) (hk : k ≤ 62) : bits .and .i64 n (((2 ^ k - 1 : Nat)) : Int) = n % ((2 ^ k : Nat) : Int) := by
  have hp : 2 ^ k ≤ 2 ^ 62 := Nat.pow_le_pow_right (by decide) hk
  have hpos : 0 < 2 ^ k := Nat.two_pow_pos k
  have hm : (BitVec.ofInt 64 (((2 ^ k - 1 : Nat)) : Int)).toNat = 2 ^ k - 1 := toNat_ofInt_nat _ (by omega)
  have key : (BitVec.ofInt 64 n &&& BitVec.ofInt 64 (((2 ^ k - 1 : Nat)) : Int)).toNat = (n % ((2 ^ 64 : Nat) : Int)).toNat % 2 ^ k := by
    rw [BitVec.toNat_and, BitVec.toNat_ofInt, hm, Nat.and_two_pow_sub_one_eq_mod]
  show IntKind.i64.wrap ((BitVec.ofInt 64 n &&& BitVec.ofInt 64 (((2 ^ k - 1 : Nat)) : Int)).toNat : Nat) = _
  have hlt : (n % ((2 ^ 64 : Nat) : Int)).toNat % 2 ^ k < 2 ^ k := Nat.mod_lt _ hpos
  rw [key, wrap_nat _ (by omega)]
  have hdvd : ((2 ^ k : Nat) : Int) ∣ ((2 ^ 64 : Nat) : Int) := by
    refine Int.natCast_dvd_natCast.2 (Nat.pow_dvd_pow 2 (by omega))
  have e : (((n % ((2 ^ 64 : Nat) : Int)).toNat % 2 ^ k : Nat) : Int) = (n % ((2 ^ 64 : Nat) : Int)) % ((2 ^ k : Nat) : Int) := by
    rw [Int.natCast_emod, Int.toNat_of_nonneg (Int.emod_nonneg _ (by decide))]
  rw [e, Int.emod_emod_of_dvd _ hdvd]

theorem and_1 (n : Int) : bits .and .i64 n 1 = n % 2 := and_mask n 1 (by decide)
theorem and_7 (n : Int) : bits .and .i64 n 7 = n % 8 := and_mask n 3 (by decide)
theorem and_255 (n : Int) : bits .and .i64 n 255 = n % 256 := and_mask n 8 (by decide)
theorem and_low30 (n : Int) : bits .and .i64 n 1073741823 = n % 1073741824 := and_mask n 30 (by decide)
theorem and_low32 (n : Int) : bits .and .i64 n 4294967295 = n % 4294967296 := and_mask n 32 (by decide)

theorem wraps_i64 : ∀ n : Int, 0 ≤ n → n < 2 ^ 63 → IntKind.i64.wrap n = n := fun n h0 h1 => by rw [IntKind.wrap_i64]; omega

/-- 'n << 1 | b': the even number joined by its lowest bit. -/
theorem or_bit (a b : Nat) (ha : 2 * a + b < 9223372036854775808) (hb : b < 2) : bits .or .i64 ((2 * a : Nat) : Int) (b : Int) = ((2 * a + b : Nat) : Int) := by
  have h := bits_join .i64 63 (by decide) wraps_i64 1 ((2 * a : Nat) : Int) (b : Int) (by omega) (by omega) (by omega) (by omega) (by omega) (by omega)
  rw [h]; omega

theorem xor_nat (a b : Nat) (ha : a < 9223372036854775808) (hb : b < 9223372036854775808) : bits .xor .i64 (a : Int) (b : Int) = ((a ^^^ b : Nat) : Int) := by
  have hx : a ^^^ b < 2 ^ 63 := Nat.xor_lt_two_pow (by omega) (by omega)
  show IntKind.i64.wrap ((BitVec.ofInt 64 (a : Int) ^^^ BitVec.ofInt 64 (b : Int)).toNat : Int) = _
  rw [BitVec.toNat_xor, toNat_ofInt_nat a (by omega), toNat_ofInt_nat b (by omega)]
  exact wrap_nat _ (by omega)

theorem and_nat (a b : Nat) (ha : a < 9223372036854775808) (hb : b < 9223372036854775808) : bits .and .i64 (a : Int) (b : Int) = ((a &&& b : Nat) : Int) := by
  have hx : a &&& b ≤ a := Nat.and_le_left
  show IntKind.i64.wrap ((BitVec.ofInt 64 (a : Int) &&& BitVec.ofInt 64 (b : Int)).toNat : Int) = _
  rw [BitVec.toNat_and, toNat_ofInt_nat a (by omega), toNat_ofInt_nat b (by omega)]
  exact wrap_nat _ (by omega)

/-- Whatever is masked lies in the mask's range. -/
theorem xor_and_255 (a b : Int) : 0 ≤ bits .and .i64 (bits .xor .i64 a b) 255 ∧ bits .and .i64 (bits .xor .i64 a b) 255 < 256 := by
  rw [and_255]; omega

end Go.Proofs.Ytgkedbhpeafbbaa
