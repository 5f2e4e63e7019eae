/- Plain laws of bits of 64-bit words. -/
import Derived.Laws.BitsAllLaws
import Derived.Laws.Bits64
namespace Go.Proofs.YtlcpcgdecodjfaaDoor.Bits
set_option linter.unusedVariables false
set_option linter.unusedSimpArgs false

theorem and_top_lo (c : Nat) (h : c < 9223372036854775808) : c &&& 9223372036854775808 = 0 := by
  refine Nat.eq_of_testBit_eq fun i => ?_
  rw [Nat.testBit_and, Nat.zero_testBit, show (9223372036854775808 : Nat) = 2 ^ 63 from by decide, Nat.testBit_two_pow]
  by_cases e : 63 = i
  · subst e; rw [Nat.testBit_lt_two_pow (by omega)]; rfl
  · simp [e]

theorem or_top (c : Nat) (h : c < 9223372036854775808) : c ||| 9223372036854775808 = c + 9223372036854775808 := by
  have := Nat.two_pow_add_eq_or_of_lt (i := 63) (b := c) (by omega) 1
  rw [Nat.or_comm]
  simp only [show (2 : Nat) ^ 63 = 9223372036854775808 from by decide, Nat.mul_one] at this
  omega

theorem and_top_hi (c : Nat) (h : 9223372036854775808 ≤ c) (h2 : c < 18446744073709551616) : c &&& 9223372036854775808 = 9223372036854775808 := by
  obtain ⟨d, rfl⟩ : ∃ d, c = d + 9223372036854775808 := ⟨c - 9223372036854775808, by omega⟩
  rw [← or_top d (by omega), Nat.and_or_distrib_right, and_top_lo d (by omega), Nat.and_self, Nat.zero_or]

theorem not_top (c : Nat) : c &&& 9223372036854775807 = c % 9223372036854775808 := by
  have := Nat.and_two_pow_sub_one_eq_mod c 63
  exact this

theorem xor_max (c : Nat) (h : c < 18446744073709551616) : 18446744073709551615 ^^^ c = 18446744073709551615 - c := by
  have e : (BitVec.allOnes 64 ^^^ BitVec.ofNat 64 c).toNat = (~~~ BitVec.ofNat 64 c).toNat := by rw [BitVec.allOnes_xor]
  rw [BitVec.toNat_xor, BitVec.toNat_not, BitVec.toNat_allOnes, BitVec.toNat_ofNat, Nat.mod_eq_of_lt (by omega)] at e
  exact e

theorem xor_top_lo (c : Nat) (h : c < 9223372036854775808) : c ^^^ 9223372036854775808 = c + 9223372036854775808 := by
  rw [← or_top c h]
  refine Nat.eq_of_testBit_eq fun i => ?_
  rw [Nat.testBit_xor, Nat.testBit_or, show (9223372036854775808 : Nat) = 2 ^ 63 from by decide, Nat.testBit_two_pow]
  by_cases e : 63 = i
  · subst e; rw [Nat.testBit_lt_two_pow (by omega)]; rfl
  · simp [e]

theorem xor_top_hi (c : Nat) (h : 9223372036854775808 ≤ c) (h2 : c < 18446744073709551616) : c ^^^ 9223372036854775808 = c - 9223372036854775808 := by
  obtain ⟨d, rfl⟩ : ∃ d, c = d + 9223372036854775808 := ⟨c - 9223372036854775808, by omega⟩
  rw [← xor_top_lo d (by omega), Nat.xor_assoc, Nat.xor_self, Nat.xor_zero, xor_top_lo d (by omega)]; omega

/-! The same as the walk spells it. -/
theorem b_and_top (a : Int) (h0 : 0 ≤ a) (h1 : a < 18446744073709551616) : bits .and .u64 a 9223372036854775808 = if a < 9223372036854775808 then 0 else 9223372036854775808 := by
  rw [u64_and a _ h0 h1 (by decide) (by decide)]
  by_cases h : a < 9223372036854775808
  · rw [if_pos h, show (9223372036854775808 : Int).toNat = 9223372036854775808 from rfl, and_top_lo _ (by omega)]; rfl
  · rw [if_neg h, show (9223372036854775808 : Int).toNat = 9223372036854775808 from rfl, and_top_hi _ (by omega) (by omega)]; rfl

theorem b_or_top (a : Int) (h0 : 0 ≤ a) (h1 : a < 9223372036854775808) : bits .or .u64 a 9223372036854775808 = a + 9223372036854775808 := by
  rw [u64_or a _ h0 (by omega) (by decide) (by decide), show (9223372036854775808 : Int).toNat = 9223372036854775808 from rfl, or_top _ (by omega)]; omega

theorem b_not_top (a : Int) (h0 : 0 ≤ a) (h1 : a < 18446744073709551616) : bits .andNot .u64 a 9223372036854775808 = a % 9223372036854775808 := by
  rw [u64_andNot a _ h0 h1 (by decide) (by decide), show (18446744073709551615 - (9223372036854775808 : Int).toNat) = 9223372036854775807 from rfl, not_top]; omega

theorem b_xor_max (a : Int) (h0 : 0 ≤ a) (h1 : a < 18446744073709551616) : bits .xor .u64 IntKind.u64.max a = 18446744073709551615 - a := by
  rw [show IntKind.u64.max = 18446744073709551615 from rfl, u64_xor _ a (by decide) (by decide) h0 h1, show (18446744073709551615 : Int).toNat = 18446744073709551615 from rfl, xor_max _ (by omega)]; omega

theorem b_xor_top (a : Int) (h0 : 0 ≤ a) (h1 : a < 18446744073709551616) : bits .xor .u64 a 9223372036854775808 = if a < 9223372036854775808 then a + 9223372036854775808 else a - 9223372036854775808 := by
  rw [u64_xor a _ h0 h1 (by decide) (by decide), show (9223372036854775808 : Int).toNat = 9223372036854775808 from rfl]
  by_cases h : a < 9223372036854775808
  · rw [if_pos h, xor_top_lo _ (by omega)]; omega
  · rw [if_neg h, xor_top_hi _ (by omega) (by omega)]; omega

end Go.Proofs.YtlcpcgdecodjfaaDoor.Bits
