/- Fields of words as arithmetic on whole numbers: what masking and joining bits of a 64-bit word comes to. -/
import Derived.Laws.BitsLemmas
namespace Go.Proofs.Ytjnikgliecgbdaa.Bt
open Go

theorem and_field (n at_ w : Nat) : n &&& (2 ^ at_ * (2 ^ w - 1)) = n / 2 ^ at_ % 2 ^ w * 2 ^ at_ := by
  apply Nat.eq_of_testBit_eq
  intro i
  rw [Nat.mul_comm (2 ^ at_) _, Nat.testBit_and, Nat.testBit_mul_two_pow, Nat.testBit_mul_two_pow, Nat.testBit_two_pow_sub_one, Nat.testBit_mod_two_pow, Nat.testBit_div_two_pow]
  by_cases h : at_ ≤ i
  · simp only [h, decide_true, Bool.true_and]
    rw [show i - at_ + at_ = i from by omega]
    rw [Bool.and_comm]
  · simp [h]

theorem ofInt_toNat (x : Int) : ((BitVec.ofInt 64 x).toNat : Int) = x % 18446744073709551616 := by
  rw [BitVec.toNat_ofInt]
  have : (0 : Int) ≤ x % ((2 ^ 64 : Nat) : Int) := Int.emod_nonneg _ (by decide)
  rw [Int.toNat_of_nonneg this]
  rfl

theorem wrap_u64 (n : Int) : IntKind.u64.wrap n = n % 18446744073709551616 := by simp [IntKind.wrap, IntKind.bits, IntKind.signed]

theorem wrap_toNat (v : BitVec 64) : IntKind.u64.wrap (v.toNat : Int) = v.toNat := by
  rw [wrap_u64]
  have := v.isLt
  omega

theorem bits_and_eq (x m : Int) : bits .and .u64 x m = ((BitVec.ofInt 64 x &&& BitVec.ofInt 64 m).toNat : Int) := wrap_toNat _
theorem bits_or_eq (x m : Int) : bits .or .u64 x m = ((BitVec.ofInt 64 x ||| BitVec.ofInt 64 m).toNat : Int) := wrap_toNat _
theorem bits_xor_eq (x m : Int) : bits .xor .u64 x m = ((BitVec.ofInt 64 x ^^^ BitVec.ofInt 64 m).toNat : Int) := wrap_toNat _
theorem bits_andNot_eq (x m : Int) : bits .andNot .u64 x m = ((BitVec.ofInt 64 x &&& ~~~BitVec.ofInt 64 m).toNat : Int) := wrap_toNat _

theorem back (v : BitVec 64) : BitVec.ofInt 64 (v.toNat : Int) = v := by
  apply BitVec.eq_of_toNat_eq
  have := ofInt_toNat (v.toNat : Int)
  have := v.isLt
  omega

theorem bits_and_field (x M : Int) (at_ w : Nat) (hM : M % 18446744073709551616 = ((2 ^ at_ * (2 ^ w - 1) : Nat) : Int)) :
    bits .and .u64 x M = x % 18446744073709551616 / 2 ^ at_ % 2 ^ w * 2 ^ at_ := by
  rw [bits_and_eq, BitVec.toNat_and]
  have hm : (BitVec.ofInt 64 M).toNat = 2 ^ at_ * (2 ^ w - 1) := by
    have := ofInt_toNat M
    rw [hM] at this
    exact_mod_cast this
  rw [hm, and_field, ← ofInt_toNat x]
  simp

theorem split_not (a m : BitVec 64) : ((a &&& ~~~m).toNat : Int) = (a.toNat : Int) - ((a &&& m).toNat : Int) := by
  have h0 : (a &&& ~~~m) &&& (a &&& m) = 0#64 := by ext i; simp; intro _ h _; simp [h]
  have h1 : (a &&& ~~~m) + (a &&& m) = a := by
    rw [BitVec.add_eq_or_of_and_eq_zero _ _ h0]
    ext i; simp; cases a[i] <;> cases m[i] <;> rfl
  have h2 := BitVec.toNat_add_of_and_eq_zero h0
  rw [h1] at h2
  omega

/-- A word with a field changed. -/
theorem bits_with (x y M : Int) (at_ w : Nat) (hM : M % 18446744073709551616 = ((2 ^ at_ * (2 ^ w - 1) : Nat) : Int)) :
    bits .or .u64 (bits .andNot .u64 x M) (bits .and .u64 y M) =
      x % 18446744073709551616 - x % 18446744073709551616 / 2 ^ at_ % 2 ^ w * 2 ^ at_ + y % 18446744073709551616 / 2 ^ at_ % 2 ^ w * 2 ^ at_ := by
  rw [bits_or_eq, ← bits_and_field x M at_ w hM, ← bits_and_field y M at_ w hM, bits_andNot_eq, bits_and_eq y, bits_and_eq x, back, back]
  have h0 : (BitVec.ofInt 64 x &&& ~~~BitVec.ofInt 64 M) &&& (BitVec.ofInt 64 y &&& BitVec.ofInt 64 M) = 0#64 := by
    ext i; simp; intro _ h _; simp [h]
  rw [← BitVec.add_eq_or_of_and_eq_zero _ _ h0, BitVec.toNat_add_of_and_eq_zero h0]
  have := split_not (BitVec.ofInt 64 x) (BitVec.ofInt 64 M)
  have h3 := ofInt_toNat x
  push_cast
  rw [this, h3]

/-! ### The fields that the layers have -/
def p50 : Int := 1125899906842624
def p52 : Int := 4503599627370496
def p62 : Int := 4611686018427387904
def p63 : Int := 9223372036854775808
def p64 : Int := 18446744073709551616

/-- An edge's slot. -/
def slot (x : Int) : Int := x % 4096
/-- An edge's generation. -/
def gen (x : Int) : Int := x / 4096 % p50
def flagBit (x : Int) : Int := x / p62 % 2
def tagBit (x : Int) : Int := x / p63 % 2
def flag (x : Int) : Bool := decide (flagBit x = 1)
def tag (x : Int) : Bool := decide (tagBit x = 1)
/-- An edge without its marks. -/
def node (x : Int) : Int := x % p62
/-- The edge to a slot, of a generation. -/
def make (s g : Int) : Int := (if s < 0 ∨ 4095 < s then 0 else s) + 4096 * (g % p50)
/-- The count of a head's changes. -/
def chg (x : Int) : Int := x / 4096 % p52
def head (s c : Int) : Int := (if s < 0 ∨ 4095 < s then 0 else s) + 4096 * (c % p52)

theorem f_0_12 (x : Int) : bits .and .u64 x 4095 = slot x := by
  rw [bits_and_field x 4095 0 12 (by decide)]; unfold slot; simp only [Int.reducePow]; omega
theorem f_12_50 (x : Int) : bits .and .u64 x 4611686018427383808 / 4096 = gen x := by
  rw [bits_and_field x 4611686018427383808 12 50 (by decide)]; unfold gen p50; simp only [Int.reducePow]; omega
theorem f_12_52 (x : Int) : bits .and .u64 x 18446744073709547520 / 4096 = chg x := by
  rw [bits_and_field x 18446744073709547520 12 52 (by decide)]; unfold chg p52; simp only [Int.reducePow]; omega
theorem f_62_1 (x : Int) : bits .and .u64 x 4611686018427387904 / 4611686018427387904 = flagBit x := by
  rw [bits_and_field x 4611686018427387904 62 1 (by decide)]; unfold flagBit p62; simp only [Int.reducePow]; omega
theorem f_63_1 (x : Int) : bits .and .u64 x 9223372036854775808 / 9223372036854775808 = tagBit x := by
  rw [bits_and_field x 9223372036854775808 63 1 (by decide)]; unfold tagBit p63; simp only [Int.reducePow]; omega
theorem f_0_62 (x : Int) : bits .and .u64 x 4611686018427387903 = node x := by
  rw [bits_and_field x 4611686018427387903 0 62 (by decide)]; unfold node p62; simp only [Int.reducePow]; omega
theorem f_0_1 (x : Int) : bits .and .u64 x 1 = x % 2 := by
  rw [bits_and_field x 1 0 1 (by decide)]; simp only [Int.reducePow]; omega
theorem f_1_63 (x : Int) : bits .and .u64 x 18446744073709551614 / 2 = x / 2 % p63 := by
  rw [bits_and_field x 18446744073709551614 1 63 (by decide)]; unfold p63; simp only [Int.reducePow]; omega
theorem f_1_2 (x : Int) : bits .and .u64 x 6 / 2 = x / 2 % 4 := by
  rw [bits_and_field x 6 1 2 (by decide)]; simp only [Int.reducePow]; omega
theorem f_0_3 (x : Int) : bits .and .u64 x 7 = x % 8 := by
  rw [bits_and_field x 7 0 3 (by decide)]; simp only [Int.reducePow]; omega

theorem w_12_50 (x n : Int) (h0 : 0 ≤ x) (h1 : x < 4096) : bits .or .u64 (bits .andNot .u64 x 4611686018427383808) (bits .and .u64 (IntKind.u64.wrap (n * 4096)) 4611686018427383808) = x + 4096 * (n % p50) := by
  rw [bits_with _ _ _ 12 50 (by decide), wrap_u64]; unfold p50; simp only [Int.reducePow]; omega
theorem w_12_52 (x n : Int) (h0 : 0 ≤ x) (h1 : x < 4096) : bits .or .u64 (bits .andNot .u64 x 18446744073709547520) (bits .and .u64 (IntKind.u64.wrap (n * 4096)) 18446744073709547520) = x + 4096 * (n % p52) := by
  rw [bits_with _ _ _ 12 52 (by decide), wrap_u64]; unfold p52; simp only [Int.reducePow]; omega

end Go.Proofs.Ytjnikgliecgbdaa.Bt
