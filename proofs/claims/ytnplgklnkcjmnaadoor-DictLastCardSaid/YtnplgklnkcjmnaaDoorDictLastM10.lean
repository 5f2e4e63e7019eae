/- Texts put together: Bits, FltW, FltW2, FltRO, RefW1, RefW2, FltSum, FltP, RefW3, BaseW, StA, KdA, KdB, KdC, KdD, DcA, LwA, LwB, KdE, DcB, DcC, DcD, DcE, DcF, DcG, DcH, DcI, DcJ, DcK. -/
import Derived.Test.YtnplgklnkcjmnaaDoorDictLastM9
import Derived.Laws.BitsAllLaws
import Derived.Laws.Bits64
import Derived.WalkKit
import Derived.WalkLawsBesides
import Derived.Deep.Draws
import Derived.KernelRfl
namespace Go.Proofs.YtnplgklnkcjmnaaDoor.Bits
set_option linter.unusedVariables false
set_option linter.unusedSimpArgs false

theorem and_top_lo (c : Nat) (h : c < 9223372036854775808) : c &&& 9223372036854775808 = 0 := by
  refine Nat.eq_of_testBit_eq fun i => ?_
  rw [Nat.testBit_and, Nat.zero_testBit, show (9223372036854775808 : Nat) = 2 ^ 63 from by decide, Nat.testBit_two_pow]
  by_cases e : 63 = i
  · subst e; rw [Nat.testBit_lt_two_pow (by omega)]; rfl
  · simp [e]

theorem or_top (c : Nat) (h : c < 9223372036854775808) : c ||| 9223372036854775808 = c + 9223372036854775808 := by
  have := Nat.two_pow_add_eq_or_of_lt (i := 63) (b := c) (by omega) 1
  rw [Nat.or_comm]
  simp only [show (2 : Nat) ^ 63 = 9223372036854775808 from by decide, Nat.mul_one] at this
  omega

theorem and_top_hi (c : Nat) (h : 9223372036854775808 ≤ c) (h2 : c < 18446744073709551616) : c &&& 9223372036854775808 = 9223372036854775808 := by
  obtain ⟨d, rfl⟩ : ∃ d, c = d + 9223372036854775808 := ⟨c - 9223372036854775808, by omega⟩
  rw [← or_top d (by omega), Nat.and_or_distrib_right, and_top_lo d (by omega), Nat.and_self, Nat.zero_or]

theorem not_top (c : Nat) : c &&& 9223372036854775807 = c % 9223372036854775808 := by
  have := Nat.and_two_pow_sub_one_eq_mod c 63
  exact this

theorem xor_max (c : Nat) (h : c < 18446744073709551616) : 18446744073709551615 ^^^ c = 18446744073709551615 - c := by
  have e : (BitVec.allOnes 64 ^^^ BitVec.ofNat 64 c).toNat = (~~~ BitVec.ofNat 64 c).toNat := by rw [BitVec.allOnes_xor]
  rw [BitVec.toNat_xor, BitVec.toNat_not, BitVec.toNat_allOnes, BitVec.toNat_ofNat, Nat.mod_eq_of_lt (by omega)] at e
  exact e

theorem xor_top_lo (c : Nat) (h : c < 9223372036854775808) : c ^^^ 9223372036854775808 = c + 9223372036854775808 := by
  rw [← or_top c h]
  refine Nat.eq_of_testBit_eq fun i => ?_
  rw [Nat.testBit_xor, Nat.testBit_or, show (9223372036854775808 : Nat) = 2 ^ 63 from by decide, Nat.testBit_two_pow]
  by_cases e : 63 = i
  · subst e; rw [Nat.testBit_lt_two_pow (by omega)]; rfl
  · simp [e]

theorem xor_top_hi (c : Nat) (h : 9223372036854775808 ≤ c) (h2 : c < 18446744073709551616) : c ^^^ 9223372036854775808 = c - 9223372036854775808 := by
  obtain ⟨d, rfl⟩ : ∃ d, c = d + 9223372036854775808 := ⟨c - 9223372036854775808, by omega⟩
  rw [← xor_top_lo d (by omega), Nat.xor_assoc, Nat.xor_self, Nat.xor_zero, xor_top_lo d (by omega)]; omega

/-! The same as the walk spells it. -/
theorem b_and_top (a : Int) (h0 : 0 ≤ a) (h1 : a < 18446744073709551616) : bits .and .u64 a 9223372036854775808 = if a < 9223372036854775808 then 0 else 9223372036854775808 := by
  rw [u64_and a _ h0 h1 (by decide) (by decide)]
  by_cases h : a < 9223372036854775808
  · rw [if_pos h, show (9223372036854775808 : Int).toNat = 9223372036854775808 from rfl, and_top_lo _ (by omega)]; rfl
  · rw [if_neg h, show (9223372036854775808 : Int).toNat = 9223372036854775808 from rfl, and_top_hi _ (by omega) (by omega)]; rfl

theorem b_or_top (a : Int) (h0 : 0 ≤ a) (h1 : a < 9223372036854775808) : bits .or .u64 a 9223372036854775808 = a + 9223372036854775808 := by
  rw [u64_or a _ h0 (by omega) (by decide) (by decide), show (9223372036854775808 : Int).toNat = 9223372036854775808 from rfl, or_top _ (by omega)]; omega

theorem b_not_top (a : Int) (h0 : 0 ≤ a) (h1 : a < 18446744073709551616) : bits .andNot .u64 a 9223372036854775808 = a % 9223372036854775808 := by
  rw [u64_andNot a _ h0 h1 (by decide) (by decide), show (18446744073709551615 - (9223372036854775808 : Int).toNat) = 9223372036854775807 from rfl, not_top]; omega

theorem b_xor_max (a : Int) (h0 : 0 ≤ a) (h1 : a < 18446744073709551616) : bits .xor .u64 IntKind.u64.max a = 18446744073709551615 - a := by
  rw [show IntKind.u64.max = 18446744073709551615 from rfl, u64_xor _ a (by decide) (by decide) h0 h1, show (18446744073709551615 : Int).toNat = 18446744073709551615 from rfl, xor_max _ (by omega)]; omega

theorem b_xor_top (a : Int) (h0 : 0 ≤ a) (h1 : a < 18446744073709551616) : bits .xor .u64 a 9223372036854775808 = if a < 9223372036854775808 then a + 9223372036854775808 else a - 9223372036854775808 := by
  rw [u64_xor a _ h0 h1 (by decide) (by decide), show (9223372036854775808 : Int).toNat = 9223372036854775808 from rfl]
  by_cases h : a < 9223372036854775808
  · rw [if_pos h, xor_top_lo _ (by omega)]; omega
  · rw [if_neg h, xor_top_hi _ (by omega) (by omega)]; omega

end Go.Proofs.YtnplgklnkcjmnaaDoor.Bits
namespace Go.Proofs.YtnplgklnkcjmnaaDoor
open Go.RowKit
set_option linter.unusedVariables false
set_option linter.unusedSimpArgs false

def iCanon (a : Int) : Int := (Flt.canon a.toNat : Nat)
def iKind (a : Int) : Int := (Flt.kind a.toNat : Nat)
def iRank (a : Int) : Int := (Flt.rank a.toNat : Nat)
def bLess (a b : Int) : Bool := decide (iRank a < iRank b)
def iTop (a b : Int) : Int := (Flt.top a.toNat b.toNat : Nat)
def iSum (a b : Int) : Int := (Flt.sum a.toNat b.toNat : Nat)
def iWord (a : Int) : Int := (Flt.word a.toNat : Nat)
def bWordOk (a : Int) : Bool := Flt.wordOk a.toNat
def iBack (a : Int) : Int := (Flt.back a.toNat : Nat)

theorem u64_nat {a : Int} (h : U64 a) : a.toNat < Flt.maxW := by
  have : Flt.maxW = 18446744073709551616 := rfl
  unfold U64 at h; omega
theorem canon_lt (w : Nat) (h : w < Flt.maxW) : Flt.canon w < Flt.maxW := by
  unfold Flt.canon
  split
  · decide
  · split
    · decide
    · exact h
theorem rank_lt (w : Nat) (h : w < Flt.maxW) : Flt.rank w < Flt.maxW := by
  have := canon_lt w h
  have : Flt.maxW = 18446744073709551616 := rfl
  have : Flt.sgnW = 9223372036854775808 := rfl
  unfold Flt.rank
  split <;> omega
theorem u64_canon {a : Int} (h : U64 a) : U64 (iCanon a) := by
  have h1 := canon_lt _ (u64_nat h)
  have : Flt.maxW = 18446744073709551616 := rfl
  unfold U64 iCanon; omega
theorem ord_nan (a : Nat) (b : Bool) (h : (FloatKind.f64.format.order a a != some .eq) = b) : decide (Flt.infR < Flt.mag a) = b := by
  rw [← Flt.order_self]; exact h
theorem ord_zero (a : Nat) (b : Bool) (h : (FloatKind.f64.format.order a 0 == some .eq) = b) : decide (Flt.mag a = 0) = b := by
  rw [← Flt.order_zero]; exact h

theorem canon_c1 {a : Int} (h : (FloatKind.f64.format.order a.toNat a.toNat != some .eq) = true) : (9221120237041090561 : Int) = iCanon a := by
  have h := of_decide_eq_true (ord_nan _ _ h)
  unfold iCanon Flt.canon; rw [if_pos h]; rfl
theorem canon_c2 {a : Int} (h : (FloatKind.f64.format.order a.toNat a.toNat != some .eq) = false) (h2 : (FloatKind.f64.format.order a.toNat 0 == some .eq) = true) : (0 : Int) = iCanon a := by
  have h := of_decide_eq_false (ord_nan _ _ h)
  have h2 := of_decide_eq_true (ord_zero _ _ h2)
  unfold iCanon Flt.canon; rw [if_neg h, if_pos h2]; rfl
theorem canon_c3 {a : Int} (ha : U64 a) (h : (FloatKind.f64.format.order a.toNat a.toNat != some .eq) = false) (h2 : (FloatKind.f64.format.order a.toNat 0 == some .eq) = false) : a = iCanon a := by
  have h := of_decide_eq_false (ord_nan _ _ h)
  have h2 := of_decide_eq_false (ord_zero _ _ h2)
  unfold iCanon Flt.canon; rw [if_neg h, if_neg h2]
  unfold U64 at ha; omega

theorem ord_big {a : Int} (ha : U64 a) (hn : ¬ Flt.infR < Flt.mag a.toNat) (b : Bool) (h : (FloatKind.f64.format.order (bits BinOp.andNot IntKind.u64 (max a 0) 9223372036854775808).toNat 9218868437227405311 == some Ordering.gt) = b) :
    decide (Flt.mag a.toNat = Flt.infR) = b := by
  rw [← h]
  unfold U64 at ha
  have e : (bits BinOp.andNot IntKind.u64 (max a 0) 9223372036854775808).toNat = Flt.mag a.toNat := by
    rw [show max a 0 = a by omega, Bits.b_not_top a ha.1 ha.2]
    unfold Flt.mag
    have : Flt.sgnW = 9223372036854775808 := rfl
    rw [this]; omega
  rw [e]
  have e1 : Flt.infR = 9218868437227405312 := rfl
  have e2 : Flt.sgnW = 9223372036854775808 := rfl
  have hm : Flt.mag (Flt.mag a.toNat) = Flt.mag a.toNat := by unfold Flt.mag; exact Nat.mod_mod _ _
  have hg : Flt.neg (Flt.mag a.toNat) = false := by
    unfold Flt.neg Flt.mag; rw [e2]
    rw [Nat.div_eq_of_lt (Nat.mod_lt _ (by decide))]; rfl
  have hM : Flt.mag 9218868437227405311 = 9218868437227405311 := by decide
  have hG : Flt.neg 9218868437227405311 = false := by decide
  change _ = (Ieee.double.order _ _ == some Ordering.gt)
  by_cases i : Flt.mag a.toNat = Flt.infR
  · rw [i]; decide
  · have hl : Flt.mag a.toNat < Flt.infR := by omega
    rw [Flt.order_fin _ _ (by rw [hm]; exact hl) (by decide)]
    unfold Flt.sv
    rw [hg, hG, hm, hM]
    have : ¬ Flt.V 9218868437227405311 < Flt.V (Flt.mag a.toNat) := by rw [Flt.V_lt_iff]; omega
    simp only [i, decide_false]
    simp only [compare, compareOfLessAndEq, Bool.false_eq_true, if_false]
    split
    · rfl
    · rename_i hlt
      rw [if_pos (by omega)]; rfl

theorem kind_c1 {a : Int} (h : (FloatKind.f64.format.order a.toNat a.toNat != some .eq) = true) : (3 : Int) = iKind a := by
  have h := of_decide_eq_true (ord_nan _ _ h)
  unfold iKind Flt.kind; rw [if_pos h]; rfl
theorem kind_c2 {a : Int} (ha : U64 a) (h : (FloatKind.f64.format.order a.toNat a.toNat != some .eq) = false)
    (h1 : (FloatKind.f64.format.order (bits BinOp.andNot IntKind.u64 (max a 0) 9223372036854775808).toNat 9218868437227405311 == some Ordering.gt) = true) : (2 : Int) = iKind a := by
  have h := of_decide_eq_false (ord_nan _ _ h)
  have h1 := of_decide_eq_true (ord_big ha h _ h1)
  unfold iKind Flt.kind; rw [if_neg h, if_pos h1]; rfl
theorem kind_c3 {a : Int} (ha : U64 a) (h : (FloatKind.f64.format.order a.toNat a.toNat != some .eq) = false)
    (h1 : (FloatKind.f64.format.order (bits BinOp.andNot IntKind.u64 (max a 0) 9223372036854775808).toNat 9218868437227405311 == some Ordering.gt) = false)
    (h2 : (FloatKind.f64.format.order a.toNat 0 == some .eq) = true) : (0 : Int) = iKind a := by
  have h := of_decide_eq_false (ord_nan _ _ h)
  have h1 := of_decide_eq_false (ord_big ha h _ h1)
  have h2 := of_decide_eq_true (ord_zero _ _ h2)
  unfold iKind Flt.kind; rw [if_neg h, if_neg h1, if_pos h2]; rfl
theorem rank_c1 {a : Int} (ha : U64 a) (h : (bits BinOp.and IntKind.u64 (iCanon a) 9223372036854775808 == 0) = true) : bits BinOp.or IntKind.u64 (iCanon a) 9223372036854775808 = iRank a := by
  have hc := u64_canon ha
  unfold U64 at hc
  rw [Bits.b_and_top _ hc.1 hc.2] at h
  have hl : iCanon a < 9223372036854775808 := by
    by_cases g : iCanon a < 9223372036854775808
    · exact g
    · rw [if_neg g] at h; simp at h
  rw [Bits.b_or_top _ hc.1 hl]
  have e2 : Flt.sgnW = 9223372036854775808 := rfl
  unfold iRank Flt.rank
  unfold iCanon at hl ⊢
  rw [if_pos (by omega)]; omega
theorem rank_c2 {a : Int} (ha : U64 a) (h : (bits BinOp.and IntKind.u64 (iCanon a) 9223372036854775808 == 0) = false) : bits BinOp.xor IntKind.u64 IntKind.u64.max (iCanon a) = iRank a := by
  have hc := u64_canon ha
  unfold U64 at hc
  rw [Bits.b_and_top _ hc.1 hc.2] at h
  have hl : ¬ iCanon a < 9223372036854775808 := by
    intro g
    rw [if_pos g] at h; simp at h
  rw [Bits.b_xor_max _ hc.1 hc.2]
  have e2 : Flt.sgnW = 9223372036854775808 := rfl
  have e3 : Flt.maxW = 18446744073709551616 := rfl
  unfold iRank Flt.rank
  unfold iCanon at hl hc ⊢
  rw [if_neg (by omega)]; omega

end Go.Proofs.YtnplgklnkcjmnaaDoor
namespace Go.Proofs.YtnplgklnkcjmnaaDoor
open Go.RowKit
set_option linter.unusedVariables false
set_option linter.unusedSimpArgs false

theorem back_lt (r : Nat) (h : r < Flt.maxW) : Flt.back r < Flt.maxW := by
  have : Flt.maxW = 18446744073709551616 := rfl
  have : Flt.sgnW = 9223372036854775808 := rfl
  unfold Flt.back
  split <;> omega
theorem u64_back {a : Int} (h : U64 a) : U64 (iBack a) := by
  have h1 := back_lt _ (u64_nat h)
  have : Flt.maxW = 18446744073709551616 := rfl
  unfold U64 iBack; omega
theorem word_lt (r : Nat) (h : r < Flt.maxW) : Flt.word r < Flt.maxW := by
  unfold Flt.word
  split
  · exact back_lt r h
  · decide
theorem u64_word {a : Int} (h : U64 a) : U64 (iWord a) := by
  have h1 := word_lt _ (u64_nat h)
  have : Flt.maxW = 18446744073709551616 := rfl
  unfold U64 iWord; omega

theorem back_c1 {a : Int} (ha : U64 a) (h : a < 9223372036854775808) : bits BinOp.xor IntKind.u64 IntKind.u64.max a = iBack a := by
  unfold U64 at ha
  rw [Bits.b_xor_max _ ha.1 ha.2]
  have : Flt.maxW = 18446744073709551616 := rfl
  have : Flt.sgnW = 9223372036854775808 := rfl
  unfold iBack Flt.back
  rw [if_pos (by omega)]; omega
theorem back_c2 {a : Int} (ha : U64 a) (h : ¬ a < 9223372036854775808) : bits BinOp.andNot IntKind.u64 a 9223372036854775808 = iBack a := by
  unfold U64 at ha
  rw [Bits.b_not_top _ ha.1 ha.2]
  have : Flt.maxW = 18446744073709551616 := rfl
  have : Flt.sgnW = 9223372036854775808 := rfl
  unfold iBack Flt.back
  rw [if_neg (by omega)]; omega
theorem top_r1 {a : Int} (ha : U64 a) (h : (bits BinOp.and IntKind.u64 a 9223372036854775808 == 0) = true) : a < 9223372036854775808 := by
  unfold U64 at ha
  rw [Bits.b_and_top _ ha.1 ha.2] at h
  by_cases g : a < 9223372036854775808
  · exact g
  · rw [if_neg g] at h; simp at h
theorem top_r2 {a : Int} (ha : U64 a) (h : (bits BinOp.and IntKind.u64 a 9223372036854775808 == 0) = false) : ¬ a < 9223372036854775808 := by
  unfold U64 at ha
  rw [Bits.b_and_top _ ha.1 ha.2] at h
  intro g
  rw [if_pos g] at h; simp at h
theorem ok_c {a : Int} (ha : U64 a) (h : iCanon (iBack a) = iBack a) (h2 : (iRank (iBack a) == a) = true) : bWordOk a = true := by
  unfold U64 at ha
  unfold bWordOk Flt.wordOk
  simp only [beq_iff_eq] at h2
  unfold iCanon iRank iBack at *
  simp only [Int.toNat_natCast] at h h2
  refine decide_eq_true ⟨by omega, by omega⟩
theorem notok_c1 {a : Int} (h : ¬ iCanon (iBack a) = iBack a) : bWordOk a = false := by
  unfold bWordOk Flt.wordOk
  unfold iCanon iBack at *
  simp only [Int.toNat_natCast] at h
  refine decide_eq_false (fun g => h (by omega))
theorem notok_c2 {a : Int} (ha : U64 a) (h : (iRank (iBack a) == a) = false) : bWordOk a = false := by
  unfold U64 at ha
  unfold bWordOk Flt.wordOk
  simp only [beq_eq_false_iff_ne] at h
  unfold iRank iBack at *
  simp only [Int.toNat_natCast] at h
  refine decide_eq_false (fun g => h (by omega))
theorem word_yes {a : Int} (h : bWordOk a = true) : iBack a = iWord a := by
  unfold bWordOk at h; unfold iBack iWord Flt.word; rw [if_pos h]
theorem word_no {a : Int} (h : bWordOk a = false) : 0 = iWord a := by
  unfold bWordOk at h; unfold iWord Flt.word; rw [h]; rfl

/-! Ranks and back. -/
theorem canon_canon (w : Nat) : Flt.canon (Flt.canon w) = Flt.canon w := by
  by_cases h : Flt.infR < Flt.mag w
  · have : Flt.canon w = Flt.nanW := by unfold Flt.canon; rw [if_pos h]
    rw [this]; decide
  · by_cases h2 : Flt.mag w = 0
    · have : Flt.canon w = 0 := by unfold Flt.canon; rw [if_neg h, if_pos h2]
      rw [this]; decide
    · have : Flt.canon w = w := by unfold Flt.canon; rw [if_neg h, if_neg h2]
      rw [this, this]
theorem rank_canon (w : Nat) : Flt.rank (Flt.canon w) = Flt.rank w := by
  unfold Flt.rank; rw [canon_canon]
theorem back_rank (w : Nat) (h : w < Flt.maxW) : Flt.back (Flt.rank w) = Flt.canon w := by
  have := canon_lt w h
  have : Flt.maxW = 18446744073709551616 := rfl
  have : Flt.sgnW = 9223372036854775808 := rfl
  unfold Flt.rank
  split
  · unfold Flt.back; rw [if_neg (by omega)]; omega
  · unfold Flt.back; rw [if_pos (by omega)]; omega
theorem wordOk_rank (w : Nat) (h : w < Flt.maxW) : Flt.wordOk (Flt.rank w) = true := by
  unfold Flt.wordOk
  rw [back_rank w h, canon_canon, rank_canon]; simp
theorem word_rank (w : Nat) (h : w < Flt.maxW) : Flt.word (Flt.rank w) = Flt.canon w := by
  unfold Flt.word
  rw [wordOk_rank w h, back_rank w h]; rfl

theorem top_yes {a b : Int} (hb : U64 b) (h : iRank a < iRank b) : iWord (iRank b) = iTop a b := by
  unfold iRank at h
  unfold iWord iTop iRank Flt.top
  rw [if_pos (by omega), Int.toNat_natCast, word_rank _ (u64_nat hb)]
theorem top_no {a b : Int} (ha : U64 a) (h : iRank b ≤ iRank a) : iWord (iRank a) = iTop a b := by
  unfold iRank at h
  unfold iWord iTop iRank Flt.top
  rw [if_neg (by omega), Int.toNat_natCast, word_rank _ (u64_nat ha)]

/-! Sums. -/
theorem add_some {P : Program} (t : TypeId) (x y r : Nat) (h : Ieee.double.add x y = some r) (w : World) : (binOp .add t (.float .f64 x) (.float .f64 y)).run P w = .ok (.float .f64 r) w :=
  run_float_arith w .add t .f64 x y r h
theorem add_none {P : Program} (t : TypeId) (x y : Nat) (h : Ieee.double.add x y = none) (w : World) :
    ∃ r, r < 18446744073709551616 ∧ Flt.infR < Flt.mag r ∧ (binOp .add t (.float .f64 x) (.float .f64 y)).run P w = .ok (.float .f64 r) w.drew := by
  have h' : FloatKind.f64.format.add x y = none := h
  refine ⟨(Question.nanBits .f64 x y).cut (w.tape w.drawn (.nanBits .f64 x y)), ?_, ?_, ?_⟩
  · simp only [Question.cut]; omega
  · simp only [Question.cut]
    unfold Flt.mag
    have e1 : Flt.infR = 9218868437227405312 := rfl
    have e2 : Flt.sgnW = 9223372036854775808 := rfl
    rw [e1, e2]
    generalize w.tape w.drawn (.nanBits .f64 x y) = t
    have : t % 2 = 0 ∨ t % 2 = 1 := by omega
    rcases this with g | g <;> rw [g] <;> omega
  · simp [binOp, Op.floatArith, h', Question.forced]

theorem sum_c1 {a b : Int} {r : Nat} (ha : U64 a) (hb : U64 b) (h : Ieee.double.add a.toNat b.toNat = some r) : iCanon r = iSum a b := by
  unfold iCanon iSum
  rw [Int.toNat_natCast, Flt.sum_of_add _ _ _ (u64_nat ha) (u64_nat hb) h]
theorem sum_c2 {a b : Int} {r : Nat} (hr : Flt.infR < Flt.mag r) (h : Ieee.double.add a.toNat b.toNat = none) : iCanon r = iSum a b := by
  unfold iCanon iSum
  rw [Int.toNat_natCast, Flt.sum_of_none _ _ h]
  unfold Flt.canon; rw [if_pos hr]
theorem u64_nat' {r : Nat} (h : r < 18446744073709551616) : U64 r := by unfold U64; omega

end Go.Proofs.YtnplgklnkcjmnaaDoor
namespace Go.Proofs.YtnplgklnkcjmnaaDoor.Flt
set_option linter.unusedVariables false
set_option linter.unusedSimpArgs false

/-- n / 2^d, its last bit set if anything is lost. -/
def RO (n d : Nat) : Nat := if n % 2 ^ d = 0 then n / 2 ^ d else n / 2 ^ d / 2 * 2 + 1

theorem RO_zero (n : Nat) : RO n 0 = n := by unfold RO; simp [Nat.mod_one]
theorem RO_one (n : Nat) : RO n 1 = if n % 2 = 0 then n / 2 else n / 2 / 2 * 2 + 1 := by unfold RO; rfl
theorem mod_succ_zero (n d : Nat) : n % 2 ^ (d + 1) = 0 ↔ n % 2 ^ d = 0 ∧ n / 2 ^ d % 2 = 0 := by
  have h1 : n % 2 ^ (d + 1) = n % 2 ^ d + 2 ^ d * (n / 2 ^ d % 2) := by rw [Nat.pow_succ, Nat.mod_mul]
  have := pow_pos d
  rw [h1]
  constructor
  · intro h
    have : 2 ^ d * (n / 2 ^ d % 2) = 0 := by omega
    rcases Nat.mul_eq_zero.1 this with g | g <;> omega
  · intro ⟨g1, g2⟩; rw [g1, g2]; simp
theorem div_succ (n d : Nat) : n / 2 ^ (d + 1) = n / 2 ^ d / 2 := by rw [Nat.pow_succ, Nat.div_div_eq_div_mul]

theorem RO_RO (n d : Nat) : RO (RO n d) 1 = RO n (d + 1) := by
  rw [RO_one]
  unfold RO
  simp only [mod_succ_zero, div_succ]
  by_cases h : n % 2 ^ d = 0
  · simp only [h, if_true, true_and]
  · simp only [h, if_false, false_and]
    have e : (n / 2 ^ d / 2 * 2 + 1) % 2 ≠ 0 := by omega
    simp only [e, if_false]; omega

theorem RO_stays {n d : Nat} (h : RO n d ≤ 1) (k : Nat) : RO n (d + k) = RO n d := by
  induction k with
  | zero => rfl
  | succ k ih =>
    rw [← Nat.add_assoc, ← RO_RO, ih, RO_one]
    split <;> omega

/-- RO lies at n / 2^d, or one above. -/
theorem RO_lt (n d m : Nat) : RO n d < 2 * m ↔ n / 2 ^ d < 2 * m := by
  unfold RO; split <;> omega
theorem RO_le (n d : Nat) : n / 2 ^ d ≤ RO n d ∧ RO n d ≤ n / 2 ^ d + 1 := by
  unfold RO; split <;> omega
theorem RO_exact (n d : Nat) : RO (n * 2 ^ d) d = n := by
  unfold RO
  rw [Nat.mul_mod_left, if_pos rfl, Nat.mul_div_cancel _ (pow_pos d)]

theorem RO_add (x y d : Nat) (hx : x % 2 = 0) : x + RO y d = RO (x * 2 ^ d + y) d := by
  unfold RO
  rw [Nat.mul_add_mod', Nat.add_comm (x * 2 ^ d) y, Nat.add_mul_div_right _ _ (pow_pos d)]
  split <;> omega

theorem RO_sub (x y d : Nat) (hx : x % 2 = 0) (h : y ≤ x * 2 ^ d) : x - RO y d = RO (x * 2 ^ d - y) d := by
  have hp := pow_pos d
  have hdm := Nat.div_add_mod y (2 ^ d)
  have hm : y % 2 ^ d < 2 ^ d := Nat.mod_lt _ hp
  generalize hq : y / 2 ^ d = q at *
  generalize hr : y % 2 ^ d = r at *
  by_cases h0 : r = 0
  · subst h0
    have e : x * 2 ^ d - y = (x - q) * 2 ^ d := by rw [Nat.sub_mul, ← hdm]; rw [Nat.mul_comm (2 ^ d) q]; rfl
    rw [e, RO_exact]
    unfold RO; rw [hr, hq]; rfl
  · have hq1 : q < x := by
      refine Nat.lt_of_mul_lt_mul_left (a := 2 ^ d) ?_
      have := Nat.mul_comm x (2 ^ d)
      omega
    have e : x * 2 ^ d - y = (x - q - 1) * 2 ^ d + (2 ^ d - r) := by
      have e1 : x * 2 ^ d = (x - q - 1) * 2 ^ d + q * 2 ^ d + 2 ^ d := by
        rw [← Nat.add_mul, ← Nat.succ_mul]; congr 1; omega
      have := Nat.mul_comm q (2 ^ d)
      omega
    rw [e]
    unfold RO
    rw [hr, hq, Nat.mul_add_mod', Nat.mod_eq_of_lt (show 2 ^ d - r < 2 ^ d by omega), if_neg h0, if_neg (by omega), Nat.add_comm ((x - q - 1) * 2 ^ d), Nat.add_mul_div_right _ _ hp, Nat.div_eq_of_lt (show 2 ^ d - r < 2 ^ d by omega)]
    omega

/-- Rounding at two places or more behind RO is rounding. -/
theorem cut_RO (n d k : Nat) (hk : 2 ≤ k) : cut (RO n d) k = cut n (d + k) := by
  by_cases h : n % 2 ^ d = 0
  · have e : n = n / 2 ^ d * 2 ^ d := by have := Nat.div_add_mod n (2 ^ d); rw [Nat.mul_comm]; omega
    have : cut n (d + k) = cut (n / 2 ^ d) k := by
      rw [e, Nat.add_comm d k, cut_scale, ← e]
    rw [this]; unfold RO; rw [if_pos h]
  · have hp := pow_pos d
    have hf : n % 2 ^ d < 2 ^ d := Nat.mod_lt _ hp
    obtain ⟨j, rfl⟩ : ∃ j, k = j + 2 := ⟨k - 2, by omega⟩
    have hj := pow_pos j
    have hk4 : 2 ^ (j + 2) = 4 * 2 ^ j := by rw [Nat.pow_add, Nat.mul_comm]
    have hdiv : n / 2 ^ (d + (j + 2)) = n / 2 ^ d / 2 ^ (j + 2) := by rw [Nat.pow_add, Nat.div_div_eq_div_mul]
    have hmod : n % 2 ^ (d + (j + 2)) = n % 2 ^ d + 2 ^ d * (n / 2 ^ d % 2 ^ (j + 2)) := by rw [Nat.pow_add, Nat.mod_mul]
    have hpow : 2 ^ (d + (j + 2)) = 2 ^ d * (4 * 2 ^ j) := by rw [Nat.pow_add, hk4]
    unfold cut up RO
    rw [if_neg h, hdiv, hmod, hpow, hk4]
    generalize n / 2 ^ d = q at *
    generalize n % 2 ^ d = f at *
    generalize 2 ^ j = g at *
    generalize 2 ^ d = D at *
    have hqd := Nat.div_add_mod q (4 * g)
    have hql : q % (4 * g) < 4 * g := Nat.mod_lt _ (by omega)
    generalize ht : q % (4 * g) = t at *
    generalize hb : q / (4 * g) = b at *
    have hodd : q / 2 * 2 + 1 = 4 * g * b + (t / 2 * 2 + 1) := by
      have : 4 * g * b = 2 * (2 * (g * b)) := by rw [Nat.mul_assoc]; omega
      omega
    have ht1 : t / 2 * 2 + 1 < 4 * g := by omega
    rw [hodd, Nat.mul_add_mod, Nat.mod_eq_of_lt ht1, Nat.mul_add_div (by omega), Nat.div_eq_of_lt ht1, Nat.add_zero]
    congr 1
    have A : (4 * g < 2 * (t / 2 * 2 + 1)) ↔ 2 * g ≤ t := by omega
    have B1 : ¬ (4 * g = 2 * (t / 2 * 2 + 1)) := by omega
    have C : (D * (4 * g) < 2 * (f + D * t)) ↔ 2 * g ≤ t := by
      constructor
      · intro hh
        refine Nat.le_of_lt_succ (Nat.lt_of_mul_lt_mul_left (a := D) ?_)
        have e1 : D * (4 * g) = 2 * (D * (2 * g)) := by rw [Nat.mul_left_comm 2 D (2 * g), ← Nat.mul_assoc 2 2 g]
        have e2 : D * (t + 1) = D * t + D := by rw [Nat.mul_add, Nat.mul_one]
        have e3 : D * t.succ = D * t + D := e2
        omega
      · intro hh
        have := Nat.mul_le_mul_left D hh
        have e1 : D * (4 * g) = 2 * (D * (2 * g)) := by rw [Nat.mul_left_comm 2 D (2 * g), ← Nat.mul_assoc 2 2 g]
        omega
    have E : ¬ (D * (4 * g) = 2 * (f + D * t)) := by
      intro hh
      have e1 : D * (4 * g) = 2 * (D * (2 * g)) := by rw [Nat.mul_left_comm 2 D (2 * g), ← Nat.mul_assoc 2 2 g]
      have e2 : D * (2 * g) = f + D * t := by omega
      rcases Nat.lt_or_ge t (2 * g) with h1 | h1
      · have := Nat.mul_le_mul_left D (Nat.succ_le_of_lt h1)
        have e3 : D * t.succ = D * t + D := by rw [Nat.succ_eq_add_one, Nat.mul_add, Nat.mul_one]
        omega
      · have := Nat.mul_le_mul_left D h1
        omega
    simp only [A, B1, C, E, false_and, or_false]

/-! ### What the document's 'made' makes -/
def norm1 (e m : Nat) : Nat × Nat := if 72057594037927936 ≤ m then (e + 1, RO m 1) else (e, m)
def norm2 : Nat → Nat → Nat × Nat
  | 0, m => (0, m)
  | 1, m => (1, m)
  | e + 2, m => if m < 36028797018963968 then norm2 (e + 1) (m * 2) else (e + 2, m)
def fin (e m : Nat) : Nat := min ((e - 1) * B + cut m 3) infR
def made (s e m : Nat) : Nat := if m = 0 then 0 else s * sgnW + fin (norm2 (norm1 e m).1 (norm1 e m).2).1 (norm2 (norm1 e m).1 (norm1 e m).2).2

/-- The last step, where nothing is to be shifted any more. -/
theorem fin_RN (N e m : Nat) (hc : cut m 3 = cut N (e - 1)) (hl : N.log2 - 52 = e - 1) : fin e m = RN N := by
  unfold fin RN; rw [hc, hl]

theorem log8 (N : Nat) (h : N ≠ 0) : (8 * N).log2 = N.log2 + 3 := by
  have := log2_mul_pow N 3 h
  rw [Nat.mul_comm]; exact this

theorem norm2_exact (N : Nat) : ∀ (e m : Nat), 1 ≤ e → m * 2 ^ (e - 1) = 8 * N → m < 72057594037927936 → m ≠ 0 → fin (norm2 e m).1 (norm2 e m).2 = RN N := by
  intro e
  induction e with
  | zero => intro m h; omega
  | succ e ih =>
    intro m _ hN hlt hm0
    rw [Nat.add_sub_cancel] at hN
    have hN0 : N ≠ 0 := by
      intro h; subst h
      have := pow_pos e
      rcases Nat.mul_eq_zero.1 hN with g | g <;> omega
    have final : (e = 0 ∨ 36028797018963968 ≤ m) → fin (e + 1) m = RN N := by
      intro hcase
      refine fin_RN N (e + 1) m ?_ ?_
      · rw [Nat.add_sub_cancel]
        have a1 := cut_scale m 3 e
        have a2 := cut_scale N e 3
        rw [hN, Nat.add_comm 3 e] at a1
        rw [Nat.mul_comm N] at a2
        rw [← a1, ← a2]
      · rw [Nat.add_sub_cancel]
        have l1 := log8 N hN0
        rw [← hN, log2_mul_pow m e hm0] at l1
        rcases hcase with h | h
        · subst h
          have := (Nat.log2_lt hm0 (k := 56)).2 (by omega)
          omega
        · have : m.log2 = 55 := (Nat.log2_eq_iff hm0).2 ⟨by omega, by omega⟩
          omega
    match e, ih, final, hN with
    | 0, _, final, _ => exact final (Or.inl rfl)
    | e + 1, ih, final, hN =>
      unfold norm2
      by_cases hb : m < 36028797018963968
      · rw [if_pos hb]
        refine ih (m * 2) (by omega) ?_ (by omega) (by omega)
        rw [Nat.add_sub_cancel, ← hN, Nat.pow_succ, Nat.mul_assoc, Nat.mul_comm 2]
      · rw [if_neg hb]; exact final (Or.inr (by omega))

theorem log_RO (n d j : Nat) (h1 : 2 ^ (j + 1) ≤ RO n d) (h2 : RO n d < 2 ^ (j + 2)) : n ≠ 0 ∧ n.log2 = j + 1 + d := by
  have hp := pow_pos d
  have e1 : (2 : Nat) ^ (j + 1) = 2 * 2 ^ j := by rw [Nat.pow_succ, Nat.mul_comm]
  have e2 : (2 : Nat) ^ (j + 2) = 2 * 2 ^ (j + 1) := by rw [Nat.pow_succ, Nat.mul_comm]
  have g1 : ¬ n / 2 ^ d < 2 ^ (j + 1) := by rw [e1, ← RO_lt, ← e1]; omega
  have g2 : n / 2 ^ d < 2 ^ (j + 2) := by rw [e2, ← RO_lt, ← e2]; exact h2
  rw [Nat.div_lt_iff_lt_mul hp] at g1 g2
  have hn : n ≠ 0 := by
    intro h; subst h
    have := Nat.mul_pos (pow_pos (j + 1)) hp
    omega
  refine ⟨hn, (Nat.log2_eq_iff hn).2 ⟨?_, ?_⟩⟩
  · rw [Nat.pow_add]; omega
  · rw [show j + 1 + d + 1 = (j + 2) + d by omega, Nat.pow_add]; exact g2

theorem norm2_sticky (N n d e f : Nat) (he : e = d + f) (hf : 1 ≤ f) (he2 : 2 ≤ e) (hN : 8 * N = n * 2 ^ (f - 1))
    (h1 : 18014398509481984 ≤ RO n d) (h2 : RO n d < 72057594037927936) : fin (norm2 e (RO n d)).1 (norm2 e (RO n d)).2 = RN N := by
  have hcut : ∀ k, k ≤ 1 → cut (RO n d) (3 - k) = cut N (e - 1 - k) := by
    intro k hk
    rw [cut_RO n d (3 - k) (by omega)]
    have a1 := cut_scale n (d + (3 - k)) (f - 1)
    have a2 := cut_scale N (e - 1 - k) 3
    rw [← a1, ← a2, ← hN, Nat.mul_comm N]
    congr 1; omega
  have hlog : ∀ j, 2 ^ (j + 1) ≤ RO n d → RO n d < 2 ^ (j + 2) → N.log2 + 3 = j + d + f := by
    intro j g1 g2
    obtain ⟨hn, hl⟩ := log_RO n d j g1 g2
    have hN0 : N ≠ 0 := by
      intro h; subst h
      have := pow_pos (f - 1)
      rcases Nat.mul_eq_zero.1 hN.symm with g | g <;> omega
    have l1 := log8 N hN0
    rw [hN, log2_mul_pow n _ hn, hl] at l1
    omega
  obtain ⟨i, rfl⟩ : ∃ i, e = i + 2 := ⟨e - 2, by omega⟩
  unfold norm2
  by_cases hb : RO n d < 36028797018963968
  · rw [if_pos hb]
    have hl := hlog 53 (by omega) (by omega)
    have hs : norm2 (i + 1) (RO n d * 2) = (i + 1, RO n d * 2) := by
      match i with
      | 0 => rfl
      | i + 1 => unfold norm2; rw [if_neg (by omega)]
    rw [hs]
    refine fin_RN N _ _ ?_ (by show N.log2 - 52 = i + 1 - 1; omega)
    show cut (RO n d * 2) 3 = cut N (i + 1 - 1)
    have a := hcut 1 (by omega)
    have b := cut_scale (RO n d) 2 1
    rw [show 3 - 1 = 2 by rfl, ← b] at a
    exact a
  · rw [if_neg hb]
    have hl := hlog 54 (by omega) (by omega)
    have a : cut (RO n d) 3 = cut N (i + 2 - 1) := by
      have := hcut 0 (by omega)
      rw [Nat.sub_zero, Nat.sub_zero] at this
      exact this
    dsimp only
    have b : N.log2 - 52 = i + 2 - 1 := by clear a hcut; omega
    unfold fin RN
    rw [a, b]

/-- What 'made' makes of n / 2^d eighths at exponent d + f: the rung nearest to what that is. -/
theorem made_RN (s N n d f : Nat) (hf : 1 ≤ f) (hN : 8 * N = n * 2 ^ (f - 1)) (h2 : RO n d < 144115188075855872)
    (hx : n % 2 ^ d = 0 ∨ (2 ≤ d + f ∧ 18014398509481984 ≤ RO n d)) : made s (d + f) (RO n d) = if N = 0 then 0 else s * sgnW + RN N := by
  unfold made
  by_cases h0 : N = 0
  · subst h0
    have hn : n = 0 := by
      have := pow_pos (f - 1)
      rcases Nat.mul_eq_zero.1 hN.symm with g | g <;> omega
    subst hn
    have : RO 0 d = 0 := by unfold RO; simp
    rw [if_pos this, if_pos rfl]
  · have hr : RO n d ≠ 0 := by
      intro h
      rcases hx with hx | hx
      · have hn : n = 0 := by
          have := Nat.div_add_mod n (2 ^ d)
          unfold RO at h; rw [if_pos hx] at h; rw [h, hx] at this; simp at this; omega
        subst hn; simp at hN; omega
      · omega
    rw [if_neg hr, if_neg h0]
    refine congrArg (s * sgnW + ·) ?_
    unfold norm1
    by_cases hb : 72057594037927936 ≤ RO n d
    · rw [if_pos hb]
      simp only []
      have hge : 36028797018963968 ≤ RO (RO n d) 1 := by
        have := (RO_le (RO n d) 1).1
        omega
      have hlt : RO (RO n d) 1 < 72057594037927936 := by
        have := (RO_lt (RO n d) 1 36028797018963968).2 (by omega)
        omega
      rw [RO_RO] at hge hlt ⊢
      exact norm2_sticky N n (d + 1) (d + f + 1) f (by omega) hf (by omega) hN (by omega) hlt
    · rw [if_neg hb]
      simp only []
      rcases hx with hx | hx
      · refine norm2_exact N (d + f) (RO n d) (by omega) ?_ (by omega) hr
        have hn : n = RO n d * 2 ^ d := by
          have := Nat.div_add_mod n (2 ^ d)
          unfold RO; rw [if_pos hx, Nat.mul_comm]; omega
        rw [hN]
        have e1 : d + f - 1 = d + (f - 1) := by omega
        rw [e1, Nat.pow_add, ← Nat.mul_assoc, ← hn]
      · exact norm2_sticky N n d (d + f) f rfl hf hx.1 hN hx.2 (by omega)

/-! ### The document's sum is the sum -/
theorem even_of (x : Nat) : 8 * x % 2 = 0 := by omega

def expo (w : Nat) : Nat := w / B % 2048
def frac (w : Nat) : Nat := w % B
/-- exponent and fraction in eighths, as the document writes them -/
def wholeE (w : Nat) : Nat := if expo w = 0 then 1 else expo w
def wholeM (w : Nat) : Nat := if expo w = 0 then frac w * 8 else (frac w + B) * 8
def mant (w : Nat) : Nat := if expo w = 0 then frac w else frac w + B

theorem wholeM_eq (w : Nat) : wholeM w = 8 * mant w := by unfold wholeM mant; split <;> omega
theorem expo_mag (w : Nat) : expo w = mag w / B := by
  have h1 : sgnW = B * 2048 := by decide
  unfold expo mag
  rw [h1, Nat.mod_mul_right_div_self]
theorem frac_mag (w : Nat) : frac w = mag w % B := by
  have h1 : sgnW = B * 2048 := by decide
  unfold frac mag
  rw [h1, Nat.mod_mul_right_mod]
theorem V_mant (w : Nat) : V (mag w) = mant w * 2 ^ (wholeE w - 1) := by
  have hB : 0 < B := by decide
  unfold V mant wholeE
  rw [expo_mag, frac_mag]
  by_cases h : mag w < B
  · rw [if_pos h, if_pos (Nat.div_eq_of_lt h), if_pos (Nat.div_eq_of_lt h), Nat.mod_eq_of_lt h]; simp
  · have : 1 ≤ mag w / B := (Nat.le_div_iff_mul_le hB).2 (by omega)
    rw [if_neg h, if_neg (by omega), if_neg (by omega), Nat.add_comm]
theorem mant_lt (w : Nat) : mant w < 2 * B := by
  have hB : 0 < B := by decide
  have : frac w < B := Nat.mod_lt _ hB
  unfold mant; split <;> omega
theorem wholeE_pos (w : Nat) : 1 ≤ wholeE w := by unfold wholeE; split <;> omega
theorem mant_ge (w : Nat) (h : 2 ≤ wholeE w) : B ≤ mant w := by
  unfold wholeE at h; unfold mant
  split at h
  · omega
  · rw [if_neg (by assumption)]; omega
theorem wholeE_mono {a b : Nat} (h : mag b ≤ mag a) : wholeE b ≤ wholeE a := by
  have hB : 0 < B := by decide
  have := Nat.div_le_div_right (c := B) h
  unfold wholeE
  rw [expo_mag, expo_mag]
  split <;> split <;> omega

/-- The document's way to a sum of two whose signs are the same (plus) or not: of sizes that fall. -/
theorem made_add (s a b : Nat) (h : mag b ≤ mag a) :
    made s (wholeE a) (wholeM a + RO (wholeM b) (wholeE a - wholeE b)) = if V (mag a) + V (mag b) = 0 then 0 else s * sgnW + RN (V (mag a) + V (mag b)) := by
  have he := wholeE_mono h
  have hB : B = 4503599627370496 := rfl
  have ma := mant_lt a
  have mb := mant_lt b
  have pb := wholeE_pos b
  obtain ⟨d, hd⟩ : ∃ d, wholeE a = d + wholeE b := ⟨wholeE a - wholeE b, by omega⟩
  rw [wholeM_eq, wholeM_eq, show wholeE a - wholeE b = d by omega, RO_add _ _ _ (even_of _)]
  have hlt : RO (8 * mant a * 2 ^ d + 8 * mant b) d < 144115188075855872 := by
    rw [← RO_add _ _ _ (even_of _)]
    have := (RO_le (8 * mant b) d).2
    have : 8 * mant b / 2 ^ d ≤ 8 * mant b := Nat.div_le_self _ _
    omega
  rw [hd]
  refine made_RN s _ _ d (wholeE b) pb ?_ hlt ?_
  · rw [V_mant, V_mant, hd, show d + wholeE b - 1 = d + (wholeE b - 1) by omega, Nat.pow_add, ← Nat.mul_assoc, ← Nat.add_mul, ← Nat.mul_assoc, Nat.mul_add, ← Nat.mul_assoc]
  · by_cases h3 : d ≤ 3
    · left
      have e : 8 * mant a * 2 ^ d + 8 * mant b = (8 * mant a + mant b * 2 ^ (3 - d)) * 2 ^ d := by
        rw [Nat.add_mul, Nat.mul_assoc (mant b), ← Nat.pow_add, show 3 - d + d = 3 by omega, Nat.mul_comm (mant b)]
      rw [e, Nat.mul_mod_left]
    · right
      have := mant_ge a (by omega)
      refine ⟨by omega, ?_⟩
      rw [← RO_add _ _ _ (even_of _)]
      omega

theorem made_sub (s a b : Nat) (h : mag b ≤ mag a) :
    made s (wholeE a) (wholeM a - RO (wholeM b) (wholeE a - wholeE b)) = if V (mag a) - V (mag b) = 0 then 0 else s * sgnW + RN (V (mag a) - V (mag b)) := by
  have he := wholeE_mono h
  have hB : B = 4503599627370496 := rfl
  have ma := mant_lt a
  have mb := mant_lt b
  have pb := wholeE_pos b
  obtain ⟨d, hd⟩ : ∃ d, wholeE a = d + wholeE b := ⟨wholeE a - wholeE b, by omega⟩
  have hV : V (mag b) ≤ V (mag a) := by
    rcases Nat.lt_or_ge (mag b) (mag a) with g | g
    · exact Nat.le_of_lt (V_lt g)
    · rw [Nat.le_antisymm h g]; exact Nat.le_refl _
  have hle : 8 * mant b ≤ 8 * mant a * 2 ^ d := by
    rw [V_mant, V_mant, hd, show d + wholeE b - 1 = d + (wholeE b - 1) by omega, Nat.pow_add, ← Nat.mul_assoc] at hV
    have := Nat.le_of_mul_le_mul_right hV (pow_pos _)
    rw [Nat.mul_assoc]; omega
  rw [wholeM_eq, wholeM_eq, show wholeE a - wholeE b = d by omega, RO_sub _ _ _ (even_of _) hle]
  have hsub := RO_sub (8 * mant a) (8 * mant b) d (even_of _) hle
  have hlt : RO (8 * mant a * 2 ^ d - 8 * mant b) d < 144115188075855872 := by
    rw [← hsub]; omega
  rw [hd]
  refine made_RN s _ _ d (wholeE b) pb ?_ hlt ?_
  · rw [V_mant, V_mant, hd, show d + wholeE b - 1 = d + (wholeE b - 1) by omega, Nat.pow_add, ← Nat.mul_assoc, ← Nat.sub_mul, ← Nat.mul_assoc, Nat.mul_sub, ← Nat.mul_assoc]
  · by_cases h3 : d ≤ 3
    · left
      have e : 8 * mant a * 2 ^ d - 8 * mant b = (8 * mant a - mant b * 2 ^ (3 - d)) * 2 ^ d := by
        rw [Nat.sub_mul, Nat.mul_assoc (mant b), ← Nat.pow_add, show 3 - d + d = 3 by omega, Nat.mul_comm (mant b)]
      rw [e, Nat.mul_mod_left]
    · right
      have := mant_ge a (by omega)
      refine ⟨by omega, ?_⟩
      rw [← hsub]
      have r2 := (RO_le (8 * mant b) d).2
      have h16 : 16 ≤ 2 ^ d := by
        have : 2 ^ 4 ≤ 2 ^ d := Nat.pow_le_pow_right (by decide) (by omega)
        omega
      have : 8 * mant b / 2 ^ d ≤ 8 * mant b / 16 := Nat.div_le_div_left h16 (by decide)
      omega

end Go.Proofs.YtnplgklnkcjmnaaDoor.Flt
namespace Go.Proofs.YtnplgklnkcjmnaaDoor
open Go.RowKit
set_option linter.unusedVariables false
set_option linter.unusedSimpArgs false

theorem kind_of {a : Int} (ha : U64 a) : iKind a =
    if a / 4503599627370496 % 2048 = 2047 then (if a % 4503599627370496 = 0 then 2 else 3) else if a / 4503599627370496 % 2048 = 0 ∧ a % 4503599627370496 = 0 then 0 else 1 := by
  unfold U64 at ha
  have e1 : Flt.infR = 9218868437227405312 := rfl
  have e2 : Flt.sgnW = 9223372036854775808 := rfl
  unfold iKind Flt.kind Flt.mag
  rw [e1, e2]
  by_cases g1 : a / 4503599627370496 % 2048 = 2047
  · rw [if_pos g1]
    by_cases g2 : a % 4503599627370496 = 0
    · rw [if_pos g2, if_neg (by omega), if_pos (by omega)]; rfl
    · rw [if_neg g2, if_pos (by omega)]; rfl
  · rw [if_neg g1, if_neg (by omega), if_neg (by omega)]
    by_cases g3 : a / 4503599627370496 % 2048 = 0 ∧ a % 4503599627370496 = 0
    · rw [if_pos g3, if_pos (by omega)]; rfl
    · rw [if_neg g3, if_neg (by omega)]; rfl


theorem shift_or (n : Int) (h0 : 0 ≤ n) (h1 : n < 18446744073709551616) : bits BinOp.or IntKind.u64 (n / 2) (n % 2) = (Flt.RO n.toNat 1 : Nat) := by
  have hor : ∀ q : Nat, q ||| 1 = q / 2 * 2 + 1 := by
    intro q
    have h := Nat.two_pow_add_eq_or_of_lt (i := 1) (b := 1) (by omega) (q / 2)
    rcases Nat.mod_two_eq_zero_or_one q with g | g
    · have : 2 ^ 1 * (q / 2) = q := by omega
      rw [this] at h; omega
    · have hq : q = 2 ^ 1 * (q / 2) + 1 := by omega
      have h2 : q ||| 1 = (2 ^ 1 * (q / 2) ||| 1) ||| 1 := by rw [← h]; rw [← hq]
      rw [h2, Nat.or_assoc, Nat.or_self, ← h]; omega
  obtain ⟨m, rfl⟩ := Int.eq_ofNat_of_zero_le h0
  rw [u64_or _ _ (by omega) (by omega) (by omega) (by omega), Flt.RO_one]
  have e1 : ((m : Int) / 2).toNat = m / 2 := by omega
  have e2 : ((m : Int) % 2).toNat = m % 2 := by omega
  rw [e1, e2, Int.toNat_natCast]
  rcases Nat.mod_two_eq_zero_or_one m with g | g
  · rw [if_pos g, g, Nat.or_zero]
  · rw [if_neg (by omega), g, hor]

theorem RO_u64 (n k : Nat) (h : n < 18446744073709551616) : Flt.RO n k < 18446744073709551616 := by
  cases k with
  | zero => rw [Flt.RO_zero]; exact h
  | succ k =>
    have := (Flt.RO_lt n (k + 1) 9223372036854775808).2 (Nat.lt_of_le_of_lt (Nat.div_le_self _ _) h)
    omega

theorem shifted_end {m k r : Nat} {b v : Int} (hk : (k : Int) ≤ b) (hr : Flt.RO m k = r) (h : (r : Int) ≤ 1 ∨ b ≤ (k : Int)) (hv : v = (r : Int) ∨ (r : Int) = v) : v = (Flt.RO m b.toNat : Nat) := by
  have hv : v = (r : Int) := by omega
  subst hv
  by_cases g : b ≤ (k : Int)
  · have : b.toNat = k := by omega
    rw [this, hr]
  · have h1 := Flt.RO_stays (n := m) (d := k) (by omega) (b.toNat - k)
    rw [show k + (b.toNat - k) = b.toNat by omega, hr] at h1
    rw [h1]

theorem made_zero (s e : Nat) : Flt.made s e 0 = 0 := rfl
theorem shift_or' (n : Int) (h0 : 0 ≤ n) (h1 : n < 18446744073709551616) : ∃ r : Int, r = (Flt.RO n.toNat 1 : Nat) ∧ bits BinOp.or IntKind.u64 (n / 2) (n % 2) = r ∧ n / 2 ≤ r ∧ r ≤ n / 2 + 1 ∧ (n < 144115188075855872 → r < 72057594037927936) := by
  refine ⟨_, rfl, shift_or n h0 h1, ?_⟩
  have e : n.toNat / 2 ^ 1 = (n / 2).toNat := by omega
  have h := Flt.RO_le n.toNat 1
  have h2 := Flt.RO_lt n.toNat 1 36028797018963968
  rw [e] at h h2
  omega
theorem norm1_hi {x y : Int} (h : 72057594037927936 ≤ y) (hx : 0 ≤ x) {r : Int} (hr : r = (Flt.RO y.toNat 1 : Nat)) (hlt : r < 72057594037927936) : Flt.norm1 (x + 1).toNat r.toNat = Flt.norm1 x.toNat y.toNat := by
  have e : r.toNat = Flt.RO y.toNat 1 := by omega
  unfold Flt.norm1
  rw [if_neg (by omega), if_pos (by omega), e, show (x + 1).toNat = x.toNat + 1 by omega]
theorem norm1_lo {x y : Int} (h : y < 72057594037927936) : Flt.norm1 x.toNat y.toNat = (x.toNat, y.toNat) := by
  unfold Flt.norm1; rw [if_neg (by omega)]
theorem norm2_lo {x y : Int} (h : y < 36028797018963968) (hx : 1 < x) (hy : 0 ≤ y) : Flt.norm2 (x - 1).toNat (y * 2).toNat = Flt.norm2 x.toNat y.toNat := by
  obtain ⟨i, hi⟩ : ∃ i, x.toNat = i + 2 := ⟨x.toNat - 2, by omega⟩
  rw [hi, show (x - 1).toNat = i + 1 by omega, show (y * 2).toNat = y.toNat * 2 by omega]
  conv => rhs; unfold Flt.norm2
  rw [if_pos (by omega)]
theorem norm2_end {x y : Int} (hx : 1 ≤ x) (h : x = 1 ∨ 36028797018963968 ≤ y) : Flt.norm2 x.toNat y.toNat = (x.toNat, y.toNat) := by
  rcases h with h | h
  · subst h; rfl
  · match hx : x.toNat with
    | 0 => rfl
    | 1 => rfl
    | i + 2 => unfold Flt.norm2; rw [if_neg (by omega)]

theorem made_eq {s e m x y x1 y1 : Int} (hs0 : 0 ≤ s) (hx1 : 1 ≤ x1) (hy1 : 1 ≤ y1) (h0 : ¬ m = 0) (hm : 0 ≤ m) (h1 : Flt.norm1 e.toNat m.toNat = (x.toNat, y.toNat)) (h2 : Flt.norm2 x.toNat y.toNat = (x1.toNat, y1.toNat)) :
    ∃ q : Int, ((4 < y1 % 8 ∨ y1 % 8 = 4 ∧ y1 / 8 % 2 = 1) → q = y1 / 8 + 1) ∧ (¬ (4 < y1 % 8 ∨ y1 % 8 = 4 ∧ y1 / 8 % 2 = 1) → q = y1 / 8) ∧
    ((Flt.made s.toNat e.toNat m.toNat : Nat) : Int) = s * 9223372036854775808 + min ((x1 - 1) * 4503599627370496 + q) 9218868437227405312 := by
  refine ⟨(Flt.cut y1.toNat 3 : Nat), ?_, ?_, ?_⟩
  · intro h
    unfold Flt.cut Flt.up
    rw [if_pos (by omega)]; omega
  · intro h
    unfold Flt.cut Flt.up
    rw [if_neg (by omega)]; omega
  · unfold Flt.made Flt.fin
    rw [if_neg (by omega), h1]
    simp only []
    rw [h2]
    simp only []
    have e1 : Flt.infR = 9218868437227405312 := rfl
    have e2 : Flt.sgnW = 9223372036854775808 := rfl
    have e3 : Flt.B = 4503599627370496 := rfl
    rw [e1, e2, e3]
    generalize Flt.cut y1.toNat 3 = c
    omega

end Go.Proofs.YtnplgklnkcjmnaaDoor
namespace Go.Proofs.YtnplgklnkcjmnaaDoor
open Go.RowKit
set_option linter.unusedVariables false
set_option linter.unusedSimpArgs false

theorem kind_canon {a : Int} : iCanon a = if iKind a = 3 then 9221120237041090561 else if iKind a = 0 then 0 else (a.toNat : Int) := by
  have e1 : Flt.nanW = 9221120237041090561 := rfl
  have hp : 0 < Flt.infR := by decide
  unfold iCanon iKind Flt.canon Flt.kind
  rw [e1]
  by_cases g1 : Flt.infR < Flt.mag a.toNat
  · simp [g1]
  · by_cases g2 : Flt.mag a.toNat = 0
    · have g3 : ¬ Flt.mag a.toNat = Flt.infR := by rw [g2]; omega
      rw [if_neg g1, if_pos g2, if_neg g1, if_neg g3, if_pos g2]; rfl
    · rw [if_neg g1, if_neg g2, if_neg g1, if_neg g2]
      by_cases g3 : Flt.mag a.toNat = Flt.infR <;> simp [g3]

theorem rank_eq {a : Int} (ha : U64 a) : iRank a = if iCanon a < 9223372036854775808 then iCanon a + 9223372036854775808 else 18446744073709551615 - iCanon a := by
  have hc := u64_canon ha
  have e2 : Flt.sgnW = 9223372036854775808 := rfl
  have e3 : Flt.maxW = 18446744073709551616 := rfl
  unfold U64 iCanon at hc
  unfold iRank Flt.rank iCanon
  rw [e2, e3]
  split <;> split <;> omega

theorem top_eq {a b : Int} : iTop a b = if bLess a b = true then iCanon b else iCanon a := by
  unfold iTop bLess iRank iCanon Flt.top
  by_cases h : Flt.rank a.toNat < Flt.rank b.toNat
  · rw [if_pos h, if_pos (decide_eq_true (by omega))]
  · rw [if_neg h, if_neg (by rw [decide_eq_true_eq]; omega)]

theorem rback_c1 {a : Int} (ha : U64 a) (h : a < 9223372036854775808) : bits BinOp.xor IntKind.u64 IntKind.u64.max a = iBack a := back_c1 ha h
theorem rback_c2 {a : Int} (ha : U64 a) (h : ¬ a < 9223372036854775808) : a - 9223372036854775808 = iBack a := by
  unfold U64 at ha
  have e2 : Flt.sgnW = 9223372036854775808 := rfl
  unfold iBack Flt.back
  rw [if_neg (by omega)]; omega

/-! ### The sum -/
theorem whole_eq {a : Int} (ha : U64 a) : ((Flt.wholeE a.toNat : Nat) : Int) = (if a / 4503599627370496 % 2048 = 0 then 1 else a / 4503599627370496 % 2048) ∧
    ((Flt.wholeM a.toNat : Nat) : Int) = (if a / 4503599627370496 % 2048 = 0 then a % 4503599627370496 * 8 else (a % 4503599627370496 + 4503599627370496) * 8) := by
  unfold U64 at ha
  have e1 : Flt.B = 4503599627370496 := rfl
  unfold Flt.wholeE Flt.wholeM Flt.expo Flt.frac
  rw [e1]
  constructor <;> split <;> split <;> omega

end Go.Proofs.YtnplgklnkcjmnaaDoor
namespace Go.Proofs.YtnplgklnkcjmnaaDoor
set_option linter.unusedVariables false
set_option linter.unusedSimpArgs false
namespace Flt
theorem canon_word (s r : Nat) (hs : s ≤ 1) (h0 : 0 < r) (h1 : r ≤ infR) : canon (s * sgnW + r) = s * sgnW + r := by
  have e1 : infR = 9218868437227405312 := rfl
  have e2 : sgnW = 9223372036854775808 := rfl
  unfold canon mag
  rw [e1] at h1; rw [e1, e2]
  rw [if_neg (by omega), if_neg (by omega)]
theorem mag_canon_nan (a : Nat) : infR < mag (canon a) ↔ infR < mag a := by
  unfold canon
  by_cases h : infR < mag a
  · rw [if_pos h]; exact ⟨fun _ => h, fun _ => by decide⟩
  · rw [if_neg h]
    by_cases g : mag a = 0
    · rw [if_pos g]; exact ⟨fun k => absurd k (by decide), fun k => absurd k h⟩
    · rw [if_neg g]
theorem canon_self (a : Nat) (h : ¬ infR < mag a) (g : mag a ≠ 0) : canon a = a := by unfold canon; rw [if_neg h, if_neg g]
theorem sv_canon (a : Nat) (h : ¬ infR < mag a) : sv (canon a) = sv a ∧ mag (canon a) = mag a := by
  by_cases g : mag a = 0
  · have : canon a = 0 := by unfold canon; rw [if_neg h, if_pos g]
    rw [this, (sv_zero a).2 g, g]; decide
  · rw [canon_self a h g]; exact ⟨rfl, rfl⟩
theorem sum_canon (a b : Nat) : sum (canon a) (canon b) = sum a b := by
  unfold sum
  simp only [mag_canon_nan]
  by_cases hn : infR < mag a ∨ infR < mag b
  · rw [if_pos hn, if_pos hn]
  · rw [if_neg hn, if_neg hn]
    obtain ⟨a1, a2⟩ := sv_canon a (by omega)
    obtain ⟨b1, b2⟩ := sv_canon b (by omega)
    have hi : infR ≠ 0 := by decide
    rw [a2, b2]
    unfold sumFin
    rw [a1, b1]
    by_cases ha : mag a = infR
    · have ea : canon a = a := canon_self a (by omega) (by omega)
      by_cases hb : mag b = infR
      · have eb : canon b = b := canon_self b (by omega) (by omega)
        rw [ea, eb]
      · rw [ea, if_pos ha, if_pos ha, if_neg (fun g => hb g.1), if_neg (fun g => hb g.1)]
    · rw [if_neg ha, if_neg ha]
      by_cases hb : mag b = infR
      · have eb : canon b = b := canon_self b (by omega) (by omega)
        rw [eb]
      · rw [if_neg hb, if_neg hb]
theorem same_inf (a b : Nat) (ha : a < maxW) (hb : b < maxW) (h1 : mag a = infR) (h2 : mag b = infR) : neg a = neg b ↔ a = b := by
  constructor
  · intro h
    have self : ∀ w, w < maxW → w = (if neg w then sgnW else 0) + mag w := by
      intro w hw
      unfold neg mag
      have e1 : sgnW = 9223372036854775808 := rfl
      have e2 : maxW = 18446744073709551616 := rfl
      rw [e2] at hw; rw [e1]
      by_cases g : w / 9223372036854775808 % 2 = 1
      · simp [g]; omega
      · simp [g]; omega
    rw [self a ha, self b hb, h1, h2, h]
  · intro h; rw [h]
theorem sum_comm (a b : Nat) (ha : a < maxW) (hb : b < maxW) : sum a b = sum b a := by
  unfold sum
  by_cases hn : infR < mag a ∨ infR < mag b
  · rw [if_pos hn, if_pos (Or.comm.1 hn)]
  · rw [if_neg hn, if_neg (fun h => hn (Or.comm.1 h))]
    by_cases h1 : mag a = infR
    · by_cases h2 : mag b = infR
      · have := same_inf a b ha hb h1 h2
        simp only [h1, h2, if_true, true_and]
        by_cases e : a = b
        · subst e; rfl
        · have n1 : neg a ≠ neg b := fun h => e (this.1 h)
          simp [n1, Ne.symm n1]
      · simp [h1, h2]
    · by_cases h2 : mag b = infR
      · simp [h1, h2]
      · simp only [h1, h2, if_false]
        unfold sumFin
        rw [Int.add_comm]

/-- What the document makes of two canonical finite words, the first one's size not less, is their sum. -/
theorem made_sum (x y : Nat) (hx : x < maxW) (hy : y < maxW) (h1 : mag x < infR) (h2 : mag y < infR) (h : mag y ≤ mag x) :
    canon (if x / sgnW = y / sgnW then made (x / sgnW) (wholeE x) (wholeM x + RO (wholeM y) (wholeE x - wholeE y))
      else made (x / sgnW) (wholeE x) (wholeM x - RO (wholeM y) (wholeE x - wholeE y))) = sum x y := by
  have e2 : sgnW = 9223372036854775808 := rfl
  have e3 : maxW = 18446744073709551616 := rfl
  have sx : x / sgnW = if neg x then 1 else 0 := by
    unfold neg; rw [e2]; rw [e3] at hx
    by_cases g : x / 9223372036854775808 % 2 = 1
    · simp [g]; omega
    · simp [g]; omega
  have sy : y / sgnW = if neg y then 1 else 0 := by
    unfold neg; rw [e2]; rw [e3] at hy
    by_cases g : y / 9223372036854775808 % 2 = 1
    · simp [g]; omega
    · simp [g]; omega
  have hV : V (mag y) ≤ V (mag x) := by
    rcases Nat.lt_or_ge (mag y) (mag x) with g | g
    · exact Nat.le_of_lt (V_lt g)
    · rw [Nat.le_antisymm h g]; exact Nat.le_refl _
  have hc0 : canon 0 = 0 := by decide
  have close : ∀ s n, s ≤ 1 → canon (if n = 0 then 0 else s * sgnW + RN n) = if n = 0 then 0 else s * sgnW + RN n := by
    intro s n hs
    by_cases g : n = 0
    · rw [if_pos g, hc0]
    · rw [if_neg g, canon_word s _ hs (RN_pos n (by omega)) (RN_le n)]
  have hsum : sum x y = sumFin x y := by
    unfold sum; rw [if_neg (by omega), if_neg (by omega), if_neg (by omega)]
  rw [hsum, made_add _ _ _ h, made_sub _ _ _ h]
  have hs1 : x / sgnW ≤ 1 := by rw [sx]; split <;> omega
  unfold sumFin sv
  by_cases hs : x / sgnW = y / sgnW
  · rw [if_pos hs, close _ _ hs1]
    have hn : neg x = neg y := by
      rw [sx, sy] at hs
      cases h1 : neg x <;> cases h2 : neg y <;> rw [h1, h2] at hs <;> simp at hs <;> rfl
    rw [sx, ← hn]
    cases neg x
    · simp only [Bool.false_eq_true, if_false]
      rw [show ((V (mag x) : Nat) : Int) + (V (mag y) : Nat) = ((V (mag x) + V (mag y) : Nat) : Int) by omega]
      generalize V (mag x) + V (mag y) = t
      rw [Int.natAbs_natCast]
      by_cases g : t = 0
      · subst g; rfl
      · rw [if_neg g, if_neg (by omega), if_neg (by omega)]; omega
    · simp only [if_true]
      rw [show -((V (mag x) : Nat) : Int) + -((V (mag y) : Nat) : Int) = -((V (mag x) + V (mag y) : Nat) : Int) by omega]
      generalize V (mag x) + V (mag y) = t
      rw [Int.natAbs_neg, Int.natAbs_natCast]
      by_cases g : t = 0
      · subst g; rfl
      · rw [if_neg g, if_neg (by omega), if_pos (by omega)]; omega
  · rw [if_neg hs, close _ _ hs1]
    have hn : neg y = !neg x := by
      rw [sx, sy] at hs
      cases h1 : neg x <;> cases h2 : neg y <;> rw [h1, h2] at hs <;> simp at hs <;> rfl
    rw [sx, hn]
    cases neg x
    · simp only [Bool.false_eq_true, if_false, Bool.not_false, if_true]
      rw [show ((V (mag x) : Nat) : Int) + -((V (mag y) : Nat) : Int) = ((V (mag x) - V (mag y) : Nat) : Int) by omega]
      generalize V (mag x) - V (mag y) = t
      rw [Int.natAbs_natCast]
      by_cases g : t = 0
      · subst g; rfl
      · rw [if_neg g, if_neg (by omega), if_neg (by omega)]; omega
    · simp only [if_true, Bool.not_true, Bool.false_eq_true, if_false]
      rw [show -((V (mag x) : Nat) : Int) + ((V (mag y) : Nat) : Int) = -((V (mag x) - V (mag y) : Nat) : Int) by omega]
      generalize V (mag x) - V (mag y) = t
      rw [Int.natAbs_neg, Int.natAbs_natCast]
      by_cases g : t = 0
      · subst g; rfl
      · rw [if_neg g, if_neg (by omega), if_pos (by omega)]; omega
end Flt
end Go.Proofs.YtnplgklnkcjmnaaDoor
namespace Go.Proofs.YtnplgklnkcjmnaaDoor
open Go.RowKit
set_option linter.unusedVariables false
set_option linter.unusedSimpArgs false
namespace Flt
theorem self_eq (w : Nat) (hw : w < maxW) : w = (if neg w then sgnW else 0) + mag w := by
  unfold neg mag
  have e1 : sgnW = 9223372036854775808 := rfl
  have e2 : maxW = 18446744073709551616 := rfl
  rw [e2] at hw; rw [e1]
  by_cases g : w / 9223372036854775808 % 2 = 1
  · simp [g]; omega
  · simp [g]; omega
theorem mag_lt (w : Nat) : mag w < sgnW := Nat.mod_lt _ (by decide)
theorem word_eq (w : Nat) (hw : w < maxW) : (neg w = true ∧ w = sgnW + mag w) ∨ (neg w = false ∧ w = mag w) := by
  have := self_eq w hw
  cases h : neg w <;> rw [h] at this <;> simp at this
  · exact Or.inr ⟨rfl, this⟩
  · exact Or.inl ⟨rfl, this⟩
theorem sv_neg {w : Nat} (h : neg w = true) : sv w = -((V (mag w) : Nat) : Int) := by unfold sv; rw [h]; rfl
theorem sv_pos {w : Nat} (h : neg w = false) : sv w = ((V (mag w) : Nat) : Int) := by unfold sv; rw [h]; rfl
theorem rank_self (w : Nat) (h : canon w = w) : rank w = if w < sgnW then w + sgnW else maxW - 1 - w := by unfold rank; rw [h]
/-- Of a canonical word that is negative the size is not 0. -/
theorem canon_neg {w : Nat} (h : canon w = w) (hn : w = sgnW + mag w) : 0 < mag w := by
  have e1 : sgnW = 9223372036854775808 := rfl
  rcases Nat.eq_zero_or_pos (mag w) with g | g
  · exfalso
    unfold canon at h
    have : 0 < infR := by decide
    rw [if_neg (by omega), if_pos g] at h
    omega
  · exact g
theorem rank_sv (x y : Nat) (hx : x < maxW) (hy : y < maxW) (cx : canon x = x) (cy : canon y = y) : rank x < rank y ↔ sv x < sv y := by
  have e1 : sgnW = 9223372036854775808 := rfl
  have e2 : maxW = 18446744073709551616 := rfl
  have mx := mag_lt x
  have my := mag_lt y
  rw [rank_self x cx, rank_self y cy]
  rcases word_eq x hx with ⟨nx, ex⟩ | ⟨nx, ex⟩ <;> rcases word_eq y hy with ⟨ny, ey⟩ | ⟨ny, ey⟩
  · rw [sv_neg nx, sv_neg ny, if_neg (by omega), if_neg (by omega)]
    have := V_lt_iff (mag y) (mag x)
    omega
  · rw [sv_neg nx, sv_pos ny, if_neg (by omega), if_pos (by omega)]
    have p := canon_neg cx ex
    have := V_lt p
    omega
  · rw [sv_pos nx, sv_neg ny, if_pos (by omega), if_neg (by omega)]
    omega
  · rw [sv_pos nx, sv_pos ny, if_pos (by omega), if_pos (by omega)]
    have := V_lt_iff (mag x) (mag y)
    omega
theorem sv_inj (x y : Nat) (hx : x < maxW) (hy : y < maxW) (cx : canon x = x) (cy : canon y = y) (h : sv x = sv y) : x = y := by
  rcases word_eq x hx with ⟨nx, ex⟩ | ⟨nx, ex⟩ <;> rcases word_eq y hy with ⟨ny, ey⟩ | ⟨ny, ey⟩
  · rw [sv_neg nx, sv_neg ny] at h
    have := V_inj (r := mag x) (s := mag y) (by omega)
    omega
  · rw [sv_neg nx, sv_pos ny] at h
    have p := canon_neg cx ex
    have := V_lt p
    omega
  · rw [sv_pos nx, sv_neg ny] at h
    have p := canon_neg cy ey
    have := V_lt p
    omega
  · rw [sv_pos nx, sv_pos ny] at h
    have := V_inj (r := mag x) (s := mag y) (by omega)
    omega

theorem rank_inj (x y : Nat) (hx : x < maxW) (hy : y < maxW) : rank x = rank y ↔ canon x = canon y := by
  constructor
  · intro h; rw [← back_rank x hx, ← back_rank y hy, h]
  · intro h; rw [← rank_canon x, ← rank_canon y, h]

/-- A canonical word's size is at most that of what is infinite, but for the one that is no number. -/
theorem canon_cases (w : Nat) (hw : w < maxW) : canon w = nanW ∨ (canon w = 0) ∨ (canon w = w ∧ mag w ≤ infR) := by
  unfold canon
  by_cases h : infR < mag w
  · left; rw [if_pos h]
  · rw [if_neg h]
    by_cases g : mag w = 0
    · right; left; rw [if_pos g]
    · right; right; rw [if_neg g]; exact ⟨rfl, by omega⟩
theorem rank_ge (w : Nat) (hw : w < maxW) : 4503599627370495 ≤ rank w := by
  have e1 : sgnW = 9223372036854775808 := rfl
  have e2 : maxW = 18446744073709551616 := rfl
  have e3 : nanW = 9221120237041090561 := rfl
  have e4 : infR = 9218868437227405312 := rfl
  unfold rank
  rcases canon_cases w hw with h | h | ⟨h, g⟩
  · rw [h, e3, e1]; decide
  · rw [h, e1]; decide
  · rw [h]
    rcases word_eq w hw with ⟨nx, ex⟩ | ⟨nx, ex⟩
    · rw [if_neg (by omega)]; omega
    · rw [if_pos (by omega)]; omega
theorem rank_le (w : Nat) (hw : w < maxW) : rank w ≤ 18444492273895866369 ∧ (rank w = 18444492273895866369 ↔ infR < mag w) := by
  have e1 : sgnW = 9223372036854775808 := rfl
  have e2 : maxW = 18446744073709551616 := rfl
  have e3 : nanW = 9221120237041090561 := rfl
  have e4 : infR = 9218868437227405312 := rfl
  have hc : infR < mag w ↔ canon w = nanW := by
    constructor
    · intro h; unfold canon; rw [if_pos h]
    · intro h
      rw [← mag_canon_nan, h]; decide
  rw [hc]
  unfold rank
  rcases canon_cases w hw with h | h | ⟨h, g⟩
  · rw [h, e3, e1]; decide
  · rw [h, e3, e1]; decide
  · rw [h, e3]
    rcases word_eq w hw with ⟨nx, ex⟩ | ⟨nx, ex⟩
    · rw [if_neg (by omega)]; omega
    · rw [if_pos (by omega)]; omega

theorem top_rank (a b : Nat) : rank (top a b) = max (rank a) (rank b) := by
  unfold top
  split
  · rw [rank_canon]; omega
  · rw [rank_canon]; omega
theorem top_canon (a b : Nat) : canon (top a b) = top a b := by
  unfold top; split <;> rw [canon_canon]
theorem top_lt (a b : Nat) (ha : a < maxW) (hb : b < maxW) : top a b < maxW := by
  unfold top
  split
  · exact canon_lt b hb
  · exact canon_lt a ha
theorem canon_ext (x y : Nat) (hx : x < maxW) (hy : y < maxW) (cx : canon x = x) (cy : canon y = y) (h : rank x = rank y) : x = y := by
  have := (rank_inj x y hx hy).1 h
  rw [cx, cy] at this; exact this
theorem top_comm (a b : Nat) (ha : a < maxW) (hb : b < maxW) : top a b = top b a :=
  canon_ext _ _ (top_lt a b ha hb) (top_lt b a hb ha) (top_canon _ _) (top_canon _ _) (by rw [top_rank, top_rank]; omega)
theorem top_assoc (a b c : Nat) (ha : a < maxW) (hb : b < maxW) (hc : c < maxW) : top (top a b) c = top a (top b c) :=
  canon_ext _ _ (top_lt _ c (top_lt a b ha hb) hc) (top_lt a _ ha (top_lt b c hb hc)) (top_canon _ _) (top_canon _ _) (by rw [top_rank, top_rank, top_rank, top_rank]; omega)
theorem top_one (a b : Nat) : top a b = canon a ∨ top a b = canon b := by
  unfold top; split
  · exact Or.inr rfl
  · exact Or.inl rfl
theorem top_self (a : Nat) : top a a = canon a := by unfold top; rw [if_neg (by omega)]

theorem sum_lt (a b : Nat) (ha : a < maxW) (hb : b < maxW) : sum a b < maxW := by
  have e1 : sgnW = 9223372036854775808 := rfl
  have e2 : maxW = 18446744073709551616 := rfl
  have e4 : infR = 9218868437227405312 := rfl
  unfold sum
  split
  · decide
  · split
    · split
      · decide
      · exact ha
    · split
      · exact hb
      · unfold sumFin
        have := RN_le (sv a + sv b).natAbs
        split
        · decide
        · split <;> omega
/-- Every sum is canonical. -/
theorem sum_is_canon (a b : Nat) (ha : a < maxW) (hb : b < maxW) : canon (sum a b) = sum a b := by
  have hp : 0 < infR := by decide
  unfold sum
  split
  · decide
  · rename_i hn
    split
    · rename_i h1
      split
      · decide
      · exact canon_self a (by omega) (by omega)
    · split
      · exact canon_self b (by omega) (by omega)
      · unfold sumFin
        split
        · decide
        · rename_i h3
          have q1 := RN_pos (sv a + sv b).natAbs (by omega)
          have q2 := RN_le (sv a + sv b).natAbs
          split
          · have := canon_word 1 _ (by omega) q1 q2
            rw [Nat.one_mul] at this; exact this
          · have := canon_word 0 _ (by omega) q1 q2
            rw [Nat.zero_mul] at this; exact this

/-! ### A sum with the opposite -/
theorem mag_flip (y : Nat) (s : Nat) (h : y = s * sgnW + mag y) (t : Nat) : mag (t * sgnW + mag y) = mag y := by
  unfold mag
  rw [Nat.mul_add_mod_self_right, Nat.mod_mod]
def flip (y : Nat) : Nat := if y < sgnW then y + sgnW else y - sgnW
theorem flip_neg (y : Nat) (hy : y < maxW) : neg (flip y) = !neg y ∧ mag (flip y) = mag y ∧ flip y < maxW := by
  have e1 : sgnW = 9223372036854775808 := rfl
  have e2 : maxW = 18446744073709551616 := rfl
  unfold flip neg mag
  rw [e2] at hy; rw [e1, e2]
  by_cases h : y < 9223372036854775808
  · rw [if_pos h]
    have h1 : (y + 9223372036854775808) / 9223372036854775808 % 2 = 1 := by omega
    have h2 : y / 9223372036854775808 % 2 = 0 := by omega
    rw [h1, h2]
    refine ⟨rfl, by omega, by omega⟩
  · rw [if_neg h]
    have h1 : (y - 9223372036854775808) / 9223372036854775808 % 2 = 0 := by omega
    have h2 : y / 9223372036854775808 % 2 = 1 := by omega
    rw [h1, h2]
    refine ⟨rfl, by omega, by omega⟩
theorem sv_flip (y : Nat) (hy : y < maxW) : sv (flip y) = - sv y := by
  obtain ⟨h1, h2, _⟩ := flip_neg y hy
  cases g : neg y
  · rw [g] at h1
    rw [sv_neg h1, sv_pos g, h2]
  · rw [g] at h1
    rw [sv_pos h1, sv_neg g, h2]; omega

theorem sum_diff (x y : Nat) (hx : x < maxW) (hy : y < maxW) (cx : canon x = x) (cy : canon y = y) (nx : ¬ infR < mag x) (ny : ¬ infR < mag y) :
    (mag x = infR → x = y → sum x (canon (flip y)) = nanW) ∧
    (¬ (mag x = infR ∧ x = y) → (rank x < rank y ↔ rank (sum x (canon (flip y))) < rank 0) ∧ (x = y ↔ sum x (canon (flip y)) = 0)) := by
  have e1 : sgnW = 9223372036854775808 := rfl
  have e2 : maxW = 18446744073709551616 := rfl
  have e4 : infR = 9218868437227405312 := rfl
  obtain ⟨f1, f2, f3⟩ := flip_neg y hy
  have hsum : sum x (canon (flip y)) = sum x (flip y) := by
    have := sum_canon x (flip y)
    rw [cx] at this; exact this
  have hr0 : rank 0 = sgnW := by decide
  rw [hsum, hr0]
  have c2 := sum_is_canon x (flip y) hx f3
  have l2 := sum_lt x (flip y) hx f3
  -- a canonical word's rank is below that of 0 just if its highest bit is set
  have rk : ∀ d, d < maxW → canon d = d → (rank d < sgnW ↔ sgnW ≤ d) := by
    intro d hd hc
    rw [rank_self d hc]
    split <;> omega
  rw [rk _ l2 c2]
  constructor
  · intro h1 h2
    subst h2
    unfold sum
    rw [f2, if_neg (by omega), if_pos h1, if_pos ⟨h1, by rw [f1]; cases neg x <;> simp⟩]
  · intro hne
    unfold sum
    rw [f2, if_neg (by omega)]
    by_cases ix : mag x = infR
    · rw [if_pos ix]
      by_cases iy : mag y = infR
      · have hxy : x ≠ y := fun h => hne ⟨ix, h⟩
        have hn : neg x ≠ neg y := fun h => hxy ((same_inf x y hx hy ix iy).1 h)
        have hn2 : neg x = neg (flip y) := by rw [f1]; cases h1 : neg x <;> cases h2 : neg y <;> simp_all
        rw [if_neg (fun h => h.2 hn2)]
        rw [rank_self x cx, rank_self y cy]
        rcases word_eq x hx with ⟨a1, a2⟩ | ⟨a1, a2⟩ <;> rcases word_eq y hy with ⟨b1, b2⟩ | ⟨b1, b2⟩
        · exact absurd (a1.trans b1.symm) hn
        · rw [if_neg (by omega), if_pos (by omega)]; omega
        · rw [if_pos (by omega), if_neg (by omega)]; omega
        · exact absurd (a1.trans b1.symm) hn
      · rw [if_neg (fun h => iy h.1)]
        rw [rank_self x cx, rank_self y cy]
        have my := mag_lt y
        rcases word_eq x hx with ⟨a1, a2⟩ | ⟨a1, a2⟩ <;> rcases word_eq y hy with ⟨b1, b2⟩ | ⟨b1, b2⟩
        · rw [if_neg (by omega), if_neg (by omega)]; omega
        · rw [if_neg (by omega), if_pos (by omega)]; omega
        · rw [if_pos (by omega), if_neg (by omega)]; omega
        · rw [if_pos (by omega), if_pos (by omega)]; omega
    · rw [if_neg ix]
      by_cases iy : mag y = infR
      · rw [if_pos iy]
        rw [rank_self x cx, rank_self y cy]
        have mx := mag_lt x
        unfold flip
        rcases word_eq x hx with ⟨a1, a2⟩ | ⟨a1, a2⟩ <;> rcases word_eq y hy with ⟨b1, b2⟩ | ⟨b1, b2⟩
        · rw [if_neg (by omega), if_neg (by omega), if_neg (by omega)]; omega
        · rw [if_neg (by omega), if_pos (by omega), if_pos (by omega)]; omega
        · rw [if_pos (by omega), if_neg (by omega), if_neg (by omega)]; omega
        · rw [if_pos (by omega), if_pos (by omega), if_pos (by omega)]; omega
      · rw [if_neg iy, rank_sv x y hx hy cx cy]
        unfold sumFin
        rw [sv_flip y hy]
        have hxy : x = y ↔ sv x + -sv y = 0 := ⟨fun h => by rw [h]; omega, fun h => sv_inj x y hx hy cx cy (by omega)⟩
        rw [hxy]
        by_cases z : sv x + -sv y = 0
        · rw [if_pos z]; omega
        · rw [if_neg z]
          have q1 := RN_pos (sv x + -sv y).natAbs (by omega)
          have q2 := RN_le (sv x + -sv y).natAbs
          by_cases z2 : sv x + -sv y < 0
          · rw [if_pos z2]; omega
          · rw [if_neg z2]; omega

theorem sum_zero (x : Nat) (hx : x < maxW) (cx : canon x = x) (nx : ¬ infR < mag x) : sum x 0 = x := by
  have e4 : infR = 9218868437227405312 := rfl
  have m0 : mag 0 = 0 := by decide
  have s0 : sv 0 = 0 := by decide
  unfold sum
  rw [m0, if_neg (by omega)]
  by_cases ix : mag x = infR
  · rw [if_pos ix, if_neg (fun h => by omega)]
  · rw [if_neg ix, if_neg (by omega)]
    unfold sumFin
    rw [s0, Int.add_zero]
    rcases word_eq x hx with ⟨a1, a2⟩ | ⟨a1, a2⟩
    · have p := canon_neg cx a2
      have := V_lt p
      rw [sv_neg a1, if_neg (by omega), if_pos (by omega), Int.natAbs_neg, Int.natAbs_natCast, RN_V]
      omega
    · rw [sv_pos a1, Int.natAbs_natCast, RN_V]
      have := V_zero (mag x)
      by_cases z : ((V (mag x) : Nat) : Int) = 0
      · rw [if_pos z]; omega
      · rw [if_neg z, if_neg (by omega)]; omega

theorem sum_inf_right (x : Nat) (hx : x < maxW) (nx : mag x < infR) : sum x infR = infR ∧ sum 18442240474082181120 x = 18442240474082181120 := by
  have e4 : infR = 9218868437227405312 := rfl
  have m0 : mag infR = infR := by decide
  have m1 : mag 18442240474082181120 = infR := by decide
  unfold sum
  rw [m0, m1]
  constructor
  · rw [if_neg (by omega), if_neg (by omega), if_pos rfl]
  · rw [if_neg (by omega), if_pos rfl, if_neg (fun h => by omega)]

theorem sum_nan_right (x y : Nat) (h : infR < mag y) : sum x y = nanW := by unfold sum; rw [if_pos (Or.inr h)]

/-- Twice. -/
theorem sum_twice (a : Nat) (ha : a < maxW) : sum a a =
    if infR < mag a then nanW else if 9214364837600034816 ≤ mag a then (if neg a then sgnW else 0) + infR
    else if mag a = 0 then 0 else if mag a < B then (if neg a then sgnW else 0) + 2 * mag a else a + B := by
  have e1 : sgnW = 9223372036854775808 := rfl
  have e4 : infR = 9218868437227405312 := rfl
  have e5 : B = 4503599627370496 := rfl
  unfold sum
  by_cases hn : infR < mag a
  · rw [if_pos (Or.inl hn), if_pos hn]
  · rw [if_neg (by omega), if_neg hn]
    by_cases ix : mag a = infR
    · rw [if_pos ix, if_neg (fun h => h.2 rfl), if_pos (by omega), ← ix]
      exact self_eq a ha
    · rw [if_neg ix, if_neg ix]
      unfold sumFin
      have hV2 : ∀ n : Nat, n = V (mag a) + V (mag a) → (mag a ≠ 0 → n ≠ 0 ∧ RN n = if 9214364837600034816 ≤ mag a then infR else if mag a < B then 2 * mag a else mag a + B) := by
        intro n hn h0
        have hp : 0 < V (mag a) := by have := V_lt (r := 0) (s := mag a) (by omega); omega
        refine ⟨by omega, ?_⟩
        by_cases hb : mag a < B
        · rw [V_low _ (by omega)] at hn
          rw [if_neg (by omega), if_pos hb, RN_low n (by omega)]; omega
        · have := V_step (mag a) (by omega)
          have e : n = V (mag a + B) := by omega
          rw [e, RN_V]
          split <;> omega
      by_cases h0 : mag a = 0
      · have := (sv_zero a).2 h0
        rw [this, if_pos (by omega), if_neg (by omega), if_pos h0]
      · obtain ⟨g1, g2⟩ := hV2 _ rfl h0
        rcases word_eq a ha with ⟨a1, a2⟩ | ⟨a1, a2⟩
        · rw [sv_neg a1, show -((V (mag a) : Nat) : Int) + -((V (mag a) : Nat) : Int) = -((V (mag a) + V (mag a) : Nat) : Int) by omega, Int.natAbs_neg, Int.natAbs_natCast, if_neg (by omega), if_pos (by omega), g2, a1]
          simp only [if_true]
          split
          · rfl
          · split <;> omega
        · rw [sv_pos a1, show ((V (mag a) : Nat) : Int) + ((V (mag a) : Nat) : Int) = ((V (mag a) + V (mag a) : Nat) : Int) by omega, Int.natAbs_natCast, if_neg (by omega), if_neg (by omega), g2, a1]
          simp only [Bool.false_eq_true, if_false]
          split
          · rfl
          · split <;> omega
end Flt

/-! ### As the walks spell them -/
theorem kind3 {a : Int} : iKind a = 3 ↔ Flt.infR < Flt.mag a.toNat := by
  unfold iKind Flt.kind
  by_cases g1 : Flt.infR < Flt.mag a.toNat
  · simp [g1]
  · rw [if_neg g1]
    by_cases g2 : Flt.mag a.toNat = Flt.infR <;> by_cases g3 : Flt.mag a.toNat = 0 <;> simp [g1, g2, g3] <;> split <;> omega
theorem kind2 {a : Int} : iKind a = 2 ↔ Flt.mag a.toNat = Flt.infR := by
  unfold iKind Flt.kind
  by_cases g1 : Flt.infR < Flt.mag a.toNat
  · rw [if_pos g1]; omega
  · rw [if_neg g1]
    by_cases g2 : Flt.mag a.toNat = Flt.infR
    · rw [if_pos g2]; simp [g2]
    · rw [if_neg g2]; split <;> omega

theorem p_wordOk {a : Int} (ha : U64 a) : bWordOk (iRank a) = true := by
  unfold bWordOk iRank; rw [Int.toNat_natCast]; exact wordOk_rank _ (u64_nat ha)
theorem p_word {a : Int} (ha : U64 a) : iWord (iRank a) = iCanon a := by
  unfold iWord iRank iCanon; rw [Int.toNat_natCast, word_rank _ (u64_nat ha)]
theorem p_canon2 (a : Int) : iCanon (iCanon a) = iCanon a := by
  unfold iCanon; rw [Int.toNat_natCast, canon_canon]
theorem p_rank_canon (a : Int) : iRank (iCanon a) = iRank a := by
  unfold iRank iCanon; rw [Int.toNat_natCast, rank_canon]
theorem p_kind_canon (a : Int) : iKind (iCanon a) = iKind a := by
  unfold iKind iCanon; rw [Int.toNat_natCast]
  have hp : 0 < Flt.infR := by decide
  unfold Flt.kind
  by_cases h : Flt.infR < Flt.mag a.toNat
  · rw [if_pos h, if_pos ((Flt.mag_canon_nan _).2 h)]
  · rw [if_neg h, if_neg (fun g => h ((Flt.mag_canon_nan _).1 g)), (Flt.sv_canon _ h).2]
theorem p_rank_inj {a b : Int} (ha : U64 a) (hb : U64 b) : iRank a = iRank b ↔ iCanon a = iCanon b := by
  have := Flt.rank_inj a.toNat b.toNat (u64_nat ha) (u64_nat hb)
  unfold iRank iCanon; omega
theorem p_rank_eq {a b : Int} (ha : U64 a) (hb : U64 b) : (iRank a == iRank b) = (iCanon a == iCanon b) := by
  rw [Bool.eq_iff_iff, beq_iff_eq, beq_iff_eq, p_rank_inj ha hb]
theorem p_less {a b : Int} : bLess a b = true ↔ iRank a < iRank b := by unfold bLess; exact decide_eq_true_iff
theorem p_less_no {a b : Int} : bLess a b = false ↔ ¬ iRank a < iRank b := by unfold bLess; exact decide_eq_false_iff_not
theorem p_neginf : iRank 18442240474082181120 = 4503599627370495 := by decide +kernel
theorem p_nan : iRank 9221120237041090561 = 18444492273895866369 := by decide +kernel
theorem p_rank_ge {a : Int} (ha : U64 a) : 4503599627370495 ≤ iRank a := by
  have := Flt.rank_ge a.toNat (u64_nat ha)
  unfold iRank; omega
theorem p_rank_le {a : Int} (ha : U64 a) : iRank a ≤ 18444492273895866369 ∧ (iRank a = 18444492273895866369 ↔ iKind a = 3) := by
  have h := Flt.rank_le a.toNat (u64_nat ha)
  have k := @kind3 a
  rw [k, ← h.2]
  unfold iRank; omega
theorem u64_top {a b : Int} (ha : U64 a) (hb : U64 b) : U64 (iTop a b) := by
  have h1 := Flt.top_lt _ _ (u64_nat ha) (u64_nat hb)
  have e2 : Flt.maxW = 18446744073709551616 := rfl
  unfold U64 iTop; omega
theorem u64_sum {a b : Int} (ha : U64 a) (hb : U64 b) : U64 (iSum a b) := by
  have h1 := Flt.sum_lt _ _ (u64_nat ha) (u64_nat hb)
  have e2 : Flt.maxW = 18446744073709551616 := rfl
  unfold U64 iSum; omega
theorem p_sum_canon {a b : Int} (ha : U64 a) (hb : U64 b) : iCanon (iSum a b) = iSum a b := by
  unfold iCanon iSum; rw [Int.toNat_natCast, Flt.sum_is_canon _ _ (u64_nat ha) (u64_nat hb)]
theorem p_top_comm {a b : Int} (ha : U64 a) (hb : U64 b) : iTop a b = iTop b a := by
  unfold iTop; rw [Flt.top_comm _ _ (u64_nat ha) (u64_nat hb)]
theorem p_top_assoc {a b c : Int} (ha : U64 a) (hb : U64 b) (hc : U64 c) : iTop (iTop a b) c = iTop a (iTop b c) := by
  unfold iTop; rw [Int.toNat_natCast, Int.toNat_natCast, Flt.top_assoc _ _ _ (u64_nat ha) (u64_nat hb) (u64_nat hc)]
theorem p_top_one {a b : Int} : iTop a b = iCanon a ∨ iTop a b = iCanon b := by
  unfold iTop iCanon
  rcases Flt.top_one a.toNat b.toNat with h | h <;> rw [h]
  · exact Or.inl rfl
  · exact Or.inr rfl
theorem p_top_self {a : Int} : iTop a a = iCanon a := by unfold iTop iCanon; rw [Flt.top_self]
theorem p_top_rank {a b : Int} : iRank (iTop a b) = max (iRank a) (iRank b) := by
  unfold iRank iTop; rw [Int.toNat_natCast, Flt.top_rank]; omega
end Go.Proofs.YtnplgklnkcjmnaaDoor
namespace Go.Proofs.YtnplgklnkcjmnaaDoor
open Go.RowKit
set_option linter.unusedVariables false
set_option linter.unusedSimpArgs false


/-- What is known of a finite word's parts. -/
theorem whole_bounds {x : Int} (hx : U64 x) (hf : Flt.mag x.toNat < Flt.infR) : ∃ e m : Int, ((Flt.wholeE x.toNat : Nat) : Int) = e ∧ ((Flt.wholeM x.toNat : Nat) : Int) = m ∧
    1 ≤ e ∧ e ≤ 2046 ∧ 0 ≤ m ∧ m < 72057594037927936 := by
  refine ⟨_, _, rfl, rfl, ?_⟩
  obtain ⟨h1, h2⟩ := whole_eq hx
  rw [h1, h2]
  have e1 : Flt.infR = 9218868437227405312 := rfl
  have e2 : Flt.sgnW = 9223372036854775808 := rfl
  unfold Flt.mag at hf
  rw [e1, e2] at hf
  unfold U64 at hx
  split <;> omega

theorem top_bits {x y : Int} (hx : 0 ≤ x) (hy : 0 ≤ y) : x / 9223372036854775808 = y / 9223372036854775808 ↔ x.toNat / 9223372036854775808 = y.toNat / 9223372036854775808 := by omega

theorem made_sum_int {x y e m f n r : Int} (hx : U64 x) (hy : U64 y) (h1 : Flt.mag x.toNat < Flt.infR) (h2 : Flt.mag y.toNat < Flt.infR) (h : y % 9223372036854775808 ≤ x % 9223372036854775808)
    (he : ((Flt.wholeE x.toNat : Nat) : Int) = e) (hm : ((Flt.wholeM x.toNat : Nat) : Int) = m) (hf : ((Flt.wholeE y.toNat : Nat) : Int) = f) (hn : ((Flt.wholeM y.toNat : Nat) : Int) = n)
    (hr : ((Flt.RO n.toNat (e - f).toNat : Nat) : Int) = r) :
    (x / 9223372036854775808 = y / 9223372036854775808 → iCanon ((Flt.made (x / 9223372036854775808).toNat e.toNat (m + r).toNat : Nat) : Int) = iSum x y) ∧
    (¬ x / 9223372036854775808 = y / 9223372036854775808 → iCanon ((Flt.made (x / 9223372036854775808).toNat e.toNat (m - r).toNat : Nat) : Int) = iSum x y) := by
  have hx' := u64_nat hx
  have hy' := u64_nat hy
  unfold U64 at hx hy
  have e2 : Flt.sgnW = 9223372036854775808 := rfl
  have key := Flt.made_sum x.toNat y.toNat hx' hy' h1 h2 (by unfold Flt.mag; rw [e2]; omega)
  have a1 : (x / 9223372036854775808).toNat = x.toNat / Flt.sgnW := by rw [e2]; omega
  have a2 : e.toNat = Flt.wholeE x.toNat := by omega
  have a3 : n.toNat = Flt.wholeM y.toNat := by omega
  have a4 : (e - f).toNat = Flt.wholeE x.toNat - Flt.wholeE y.toNat := by omega
  rw [a3, a4] at hr
  generalize Flt.RO (Flt.wholeM y.toNat) (Flt.wholeE x.toNat - Flt.wholeE y.toNat) = R at hr key
  have a5 : (m + r).toNat = Flt.wholeM x.toNat + R := by omega
  have a6 : (m - r).toNat = Flt.wholeM x.toNat - R := by omega
  have a7 : x / 9223372036854775808 = y / 9223372036854775808 ↔ x.toNat / Flt.sgnW = y.toNat / Flt.sgnW := top_bits hx.1 hy.1
  unfold iCanon iSum
  rw [Int.toNat_natCast, Int.toNat_natCast, a1, a2, a5, a6, a7]
  constructor
  · intro g; rw [if_pos g] at key; rw [key]
  · intro g; rw [if_neg g] at key; rw [key]

theorem shifted_bounds {n r : Int} {k : Nat} (h0 : 0 ≤ n) (hn : n < 72057594037927936) (hr : ((Flt.RO n.toNat k : Nat) : Int) = r) : 0 ≤ r ∧ r < 72057594037927936 := by
  have h1 := (Flt.RO_lt n.toNat k 36028797018963968).2 (Nat.lt_of_le_of_lt (Nat.div_le_self _ _) (by omega))
  omega
/-- Of two that fall in size the shifted one is no greater. -/
theorem shifted_le {x y e m f n r : Int} (hx : U64 x) (hy : U64 y) (h1 : Flt.mag x.toNat < Flt.infR) (h2 : Flt.mag y.toNat < Flt.infR) (h : y % 9223372036854775808 ≤ x % 9223372036854775808)
    (he : ((Flt.wholeE x.toNat : Nat) : Int) = e) (hm : ((Flt.wholeM x.toNat : Nat) : Int) = m) (hf : ((Flt.wholeE y.toNat : Nat) : Int) = f) (hn : ((Flt.wholeM y.toNat : Nat) : Int) = n)
    (hr : ((Flt.RO n.toNat (e - f).toNat : Nat) : Int) = r) : f ≤ e ∧ r ≤ m := by
  have e2 : Flt.sgnW = 9223372036854775808 := rfl
  unfold U64 at hx hy
  have hmag : Flt.mag y.toNat ≤ Flt.mag x.toNat := by unfold Flt.mag; rw [e2]; omega
  have g1 := Flt.wholeE_mono hmag
  refine ⟨by omega, ?_⟩
  have a3 : n.toNat = Flt.wholeM y.toNat := by omega
  have a4 : (e - f).toNat = Flt.wholeE x.toNat - Flt.wholeE y.toNat := by omega
  rw [a3, a4] at hr
  have hV : Flt.V (Flt.mag y.toNat) ≤ Flt.V (Flt.mag x.toNat) := by
    rcases Nat.lt_or_ge (Flt.mag y.toNat) (Flt.mag x.toNat) with g | g
    · exact Nat.le_of_lt (Flt.V_lt g)
    · rw [Nat.le_antisymm hmag g]; exact Nat.le_refl _
  have pb := Flt.wholeE_pos y.toNat
  obtain ⟨d, hd⟩ : ∃ d, Flt.wholeE x.toNat = d + Flt.wholeE y.toNat := ⟨Flt.wholeE x.toNat - Flt.wholeE y.toNat, by omega⟩
  rw [show Flt.wholeE x.toNat - Flt.wholeE y.toNat = d by omega] at hr
  have hle : 8 * Flt.mant y.toNat ≤ 8 * Flt.mant x.toNat * 2 ^ d := by
    rw [Flt.V_mant, Flt.V_mant, hd, show d + Flt.wholeE y.toNat - 1 = d + (Flt.wholeE y.toNat - 1) by omega, Nat.pow_add, ← Nat.mul_assoc] at hV
    have := Nat.le_of_mul_le_mul_right hV (Flt.pow_pos _)
    rw [Nat.mul_assoc]; omega
  have hq : Flt.wholeM y.toNat / 2 ^ d ≤ Flt.wholeM x.toNat := by
    rw [Flt.wholeM_eq, Flt.wholeM_eq]
    exact Nat.div_le_of_le_mul (by rw [Nat.mul_comm (2 ^ d)]; exact hle)
  have h8 := Flt.wholeM_eq x.toNat
  -- both even: 'RO' may add one only where something is left
  have : Flt.RO (Flt.wholeM y.toNat) d ≤ Flt.wholeM x.toNat := by
    rcases Nat.lt_or_ge (Flt.wholeM y.toNat / 2 ^ d) (Flt.wholeM x.toNat) with g | g
    · have := (Flt.RO_lt (Flt.wholeM y.toNat) d (4 * Flt.mant x.toNat)).2 (by omega)
      omega
    · have e : Flt.wholeM y.toNat / 2 ^ d = Flt.wholeM x.toNat := by omega
      have hdm := Nat.div_add_mod (Flt.wholeM y.toNat) (2 ^ d)
      have hz : Flt.wholeM y.toNat % 2 ^ d = 0 := by
        rw [e, Nat.mul_comm] at hdm
        rw [← Flt.wholeM_eq, ← Flt.wholeM_eq] at hle
        omega
      unfold Flt.RO; rw [if_pos hz, e]; exact Nat.le_refl _
  omega

theorem sum_nan {a b : Int} (h : iKind (iCanon a) = 3 ∨ iKind (iCanon b) = 3) : (9221120237041090561 : Int) = iSum a b := by
  rw [kind3, kind3] at h
  unfold iCanon at h; rw [Int.toNat_natCast, Int.toNat_natCast, Flt.mag_canon_nan, Flt.mag_canon_nan] at h
  unfold iSum Flt.sum; rw [if_pos h]; rfl
theorem sum_via {a b : Int} : iSum (iCanon a) (iCanon b) = iSum a b := by
  unfold iSum iCanon; rw [Int.toNat_natCast, Int.toNat_natCast, Flt.sum_canon]
theorem sum_swap {a b : Int} (ha : U64 a) (hb : U64 b) : iSum a b = iSum b a := by
  unfold iSum; rw [Flt.sum_comm _ _ (u64_nat ha) (u64_nat hb)]
theorem sum_inf {x y : Int} (hx : U64 x) (hy : U64 y) (h1 : ¬ iKind x = 3) (h2 : ¬ iKind y = 3) :
    (iKind x = 2 → iKind y = 2 → ¬ x = y → (9221120237041090561 : Int) = iSum x y) ∧ (iKind x = 2 → (iKind y = 2 → x = y) → x = iSum x y) ∧ (¬ iKind x = 2 → iKind y = 2 → y = iSum x y) := by
  have hx' := u64_nat hx
  have hy' := u64_nat hy
  rw [kind3] at h1 h2
  rw [kind2, kind2]
  unfold U64 at hx hy
  have e : iSum x y = (Flt.sum x.toNat y.toNat : Nat) := rfl
  rw [e]
  unfold Flt.sum
  rw [if_neg (by omega)]
  refine ⟨?_, ?_, ?_⟩
  · intro g1 g2 g3
    have := (Flt.same_inf _ _ hx' hy' g1 g2)
    rw [if_pos g1, if_pos ⟨g2, fun g => g3 (by have := this.1 g; omega)⟩]; rfl
  · intro g1 g2
    rw [if_pos g1, if_neg (fun g => g.2 (by rw [g2 g.1]))]; omega
  · intro g1 g2
    rw [if_neg g1, if_pos g2]; omega

theorem made_u64 {s e m : Int} (h0 : 0 ≤ s) (h1 : s ≤ 1) (h2 : 1 ≤ e) : U64 ((Flt.made s.toNat e.toNat m.toNat : Nat) : Int) := by
  have e1 : Flt.infR = 9218868437227405312 := rfl
  have e2 : Flt.sgnW = 9223372036854775808 := rfl
  unfold U64 Flt.made
  refine ⟨by omega, ?_⟩
  split
  · decide
  · unfold Flt.fin
    rw [e1, e2]
    generalize (_ : Nat) + Flt.cut _ _ = t
    omega

end Go.Proofs.YtnplgklnkcjmnaaDoor
namespace Go.Proofs.YtnplgklnkcjmnaaDoor
open Go.RowKit Go.Proofs.YtnplgklnkcjmnaaDoor.Am
set_option linter.unusedVariables false
set_option linter.unusedSimpArgs false

def ipick (c n : Int) : Int := (if c < 0 then -(c + 1) else c) % n
theorem ipick_bounds (c : Int) {n : Int} (hn : 0 < n) : 0 ≤ ipick c n ∧ ipick c n < n := ⟨Int.emod_nonneg _ (by omega), Int.emod_lt_of_pos _ hn⟩
theorem ipick_val (c n : Int) (hc : I64 c) : (if c < 0 then IntKind.i64.wrap (0 - IntKind.i64.wrap (c + 1)) else c).tmod n = ipick c n := by
  obtain ⟨c1, c2⟩ := hc
  have e : (if c < 0 then IntKind.i64.wrap (0 - IntKind.i64.wrap (c + 1)) else c) = if c < 0 then -(c + 1) else c := by
    split
    · rw [wrap64 (a := c + 1) (by omega) (by omega), wrap64 (by omega) (by omega)]; omega
    · rfl
  rw [e]; unfold ipick
  exact Int.tmod_eq_emod_of_nonneg (by split <;> omega)
/-! ### floats -/
/-! ### slices -/
set_option maxRecDepth 100000 in
theorem clone_pure (n : Nat) (xs : List Int) (hn : n ≤ 1000000) : Pure Tryd.prog glR 40 [.fl [.u64] n xs] (.ow 0 1 n) [(0, .fl [.u64] xs)] := by
  refine pure_wf fun hw => ?_
  obtain ⟨⟨w1, w2⟩, -⟩ := hw
  refine pure_of (C := ctx0 Tryd.prog) ctx0_good Tryd.func40 (c := bodyOf Tryd.f40) (by rfl) (Nat.le_of_ble_eq_true (by rfl)) 4 0 [0, 2, 4] ?_
  conv => whnf
  intro b hb
  cases b
  · conv => whnf
    repeat' (first | (refine ifB_t (by assumption) ?_; conv => whnf) | (refine ifB_f (by assumption) ?_; conv => whnf) | (refine ifB_dec (fun h => ?_) (fun h => ?_) <;> (first | (exfalso; omega) | (conv => whnf))) | (refine ifB_eq (fun h => ?_) (fun h => ?_) <;> (first | (exfalso; omega) | (conv => whnf))) | (refine ifB_ne (fun h => ?_) (fun h => ?_) <;> (first | (exfalso; omega) | (conv => whnf))) | (refine ifB_not ?_; conv => whnf) | (refine ifB_and ?_; conv => whnf) | (refine ifB_or ?_; conv => whnf) | (refine And.intro ?_ ?_; (first | omega | assumption | (exact allU_getD (by assumption) _) | (simp only [cutL]; omega) | (refine And.intro ?_ ?_ <;> first | assumption | exact allU_getD (by assumption) _) | (simp only [cutL, IntKind.wrap_u64, IntKind.wrap_i64] at *; omega) | decide); conv => whnf))
    repeat' (first | exact trivial | exact rfl | (refine And.intro ?_ ?_) | ((conv => whnf); done) | ((conv => whnf); (first | rfl | (refine congrArg (fun b => T.v (Value.bool b)) ?_; first | rfl | exact (decide_eq_true (by omega)).symm | exact (decide_eq_false (by omega)).symm | exact decide_eq_decide.2 (by omega)) | (refine congrArg (fun b => T.v (Value.int _ b)) ?_; first | rfl | omega) | omega)) | (first | rfl | (refine congrArg (fun b => T.v (Value.bool b)) ?_; first | rfl | exact (decide_eq_true (by omega)).symm | exact (decide_eq_false (by omega)).symm | exact decide_eq_decide.2 (by omega)) | (refine congrArg (fun b => T.v (Value.int _ b)) ?_; first | rfl | omega) | omega))
  · have := hb rfl
    subst this
    obtain rfl : xs = [] := List.eq_nil_of_length_eq_zero (by simpa using w1)
    conv => whnf
    repeat' (first | exact trivial | exact rfl | (refine And.intro ?_ ?_) | ((conv => whnf); done) | ((conv => whnf); (first | rfl | (refine congrArg (fun b => T.v (Value.bool b)) ?_; first | rfl | exact (decide_eq_true (by omega)).symm | exact (decide_eq_false (by omega)).symm | exact decide_eq_decide.2 (by omega)) | (refine congrArg (fun b => T.v (Value.int _ b)) ?_; first | rfl | omega) | omega)) | (first | rfl | (refine congrArg (fun b => T.v (Value.bool b)) ?_; first | rfl | exact (decide_eq_true (by omega)).symm | exact (decide_eq_false (by omega)).symm | exact decide_eq_decide.2 (by omega)) | (refine congrArg (fun b => T.v (Value.int _ b)) ?_; first | rfl | omega) | omega))
set_option maxRecDepth 100000 in
theorem equal_pure (n m : Nat) (xs ys : List Int) : Pure Tryd.prog glR 74 [.fl [.u64] n xs, .fl [.u64] m ys] (.v (.bool (decide (xs = ys)))) := by
  refine pure_wf fun hw => ?_
  obtain ⟨⟨w1, w2⟩, ⟨w3, w4⟩, -⟩ := hw
  simp only [List.length_cons, List.length_nil, Nat.zero_add, Nat.mul_one] at w1 w3
  refine pure_of (C := ctx0 Tryd.prog) ctx0_good Tryd.func74 (c := bodyOf Tryd.f74) (by rfl) (Nat.le_of_ble_eq_true (by rfl)) 4 0 [0, 1, 4, 5, 10, 12, 13, 14, 24] ?_
  conv => whnf
  repeat' (first | (refine ifB_t (by assumption) ?_; conv => whnf) | (refine ifB_f (by assumption) ?_; conv => whnf) | (refine ifB_dec (fun h => ?_) (fun h => ?_) <;> (first | (exfalso; omega) | (conv => whnf))) | (refine ifB_eq (fun h => ?_) (fun h => ?_) <;> (first | (exfalso; omega) | (conv => whnf))) | (refine ifB_ne (fun h => ?_) (fun h => ?_) <;> (first | (exfalso; omega) | (conv => whnf))) | (refine ifB_not ?_; conv => whnf) | (refine ifB_and ?_; conv => whnf) | (refine ifB_or ?_; conv => whnf) | (refine And.intro ?_ ?_; (first | omega | assumption | (exact allU_getD (by assumption) _) | (simp only [cutL]; omega) | (refine And.intro ?_ ?_ <;> first | assumption | exact allU_getD (by assumption) _) | (simp only [cutL, IntKind.wrap_u64, IntKind.wrap_i64] at *; omega) | decide); conv => whnf))
  · exact congrArg (fun b => T.v (Value.bool b)) (decide_eq_false (fun e => by subst e; omega)).symm
  · refine TW.loopD ctx0_good 0 (base := 0) (lv := [0, 1, 4, 5, 10, 12, 13, 14, 24]) [13] [] [] (fun j : Nat => [.v (.int .i64 j)]) (fun _ => []) (fun j => j ≤ n ∧ xs.take j = ys.take j) (fun j => n - j) ?_
    conv => whnf
    refine ⟨⟨0, ⟨rfl, rfl, rfl⟩, by omega, rfl⟩, fun j ⟨hj, ht⟩ => ?_⟩
    conv => whnf
    repeat' (first | (refine ifB_t (by assumption) ?_; conv => whnf) | (refine ifB_f (by assumption) ?_; conv => whnf) | (refine ifB_dec (fun h => ?_) (fun h => ?_) <;> (first | (exfalso; omega) | (conv => whnf))) | (refine ifB_eq (fun h => ?_) (fun h => ?_) <;> (first | (exfalso; omega) | (conv => whnf))) | (refine ifB_ne (fun h => ?_) (fun h => ?_) <;> (first | (exfalso; omega) | (conv => whnf))) | (refine ifB_not ?_; conv => whnf) | (refine ifB_and ?_; conv => whnf) | (refine ifB_or ?_; conv => whnf) | (refine And.intro ?_ ?_; (first | omega | assumption | (exact allU_getD (by assumption) _) | (simp only [cutL]; omega) | (refine And.intro ?_ ?_ <;> first | assumption | exact allU_getD (by assumption) _) | (simp only [cutL, IntKind.wrap_u64, IntKind.wrap_i64] at *; omega) | decide); conv => whnf))
    · simp only [Nat.zero_add, Nat.mul_one, Int.toNat_natCast] at h
      exact congrArg (fun b => T.v (Value.bool b)) (decide_eq_false (fun e => by subst e; exact h rfl)).symm
    · simp only [Nat.zero_add, Nat.mul_one, Int.toNat_natCast] at h
      rw [wsucc (n := n) (by omega) w2]
      exact ⟨j + 1, [], ⟨rfl, rfl, rfl⟩, ⟨by omega, take_same (by omega) (by omega) ht h⟩, by (try dsimp only); omega⟩
    · have e : j = n := by omega
      rw [e, List.take_of_length_le (by omega), List.take_of_length_le (by omega)] at ht
      exact congrArg (fun b => T.v (Value.bool b)) (decide_eq_true ht).symm
def eClone : Entry := ⟨40, 3, fun l => match l with | [.fl [.u64] n xs] => some (some (n ≤ 1000000), .ow 0 1 n, [(0, .fl [.u64] xs)]) | _ => none⟩
theorem eClone_ok : eClone.ok Tryd.prog glR := ⟨Am.enters_of Tryd.func40 (by kernel_rfl) (by kernel_rfl), by
  intro args c t bs h hc
  simp only [eClone] at h
  split at h <;> cases h
  replace hc := hc _ rfl
  exact clone_pure _ _ hc⟩
def eEqual : Entry := ⟨74, 3, fun l => match l with | [.fl [.u64] n xs, .fl [.u64] m ys] => some (none, .v (.bool (decide (xs = ys))), []) | _ => none⟩
theorem eEqual_ok : eEqual.ok Tryd.prog glR := ⟨Am.enters_of Tryd.func74 (by kernel_rfl) (by kernel_rfl), by
  intro args c t bs h hc
  simp only [eEqual] at h
  split at h <;> cases h
  exact equal_pure _ _ _ _⟩
set_option maxRecDepth 100000 in
theorem words_pure (n m : Nat) (xs ys : List Int) : Pure Tryd.prog glR 12 [.fl [.u64] n xs, .fl [.u64] m ys] (.v (.bool (decide (xs = ys)))) := by
  refine pure_wf fun hw => ?_
  obtain ⟨⟨w1, w2⟩, ⟨w3, w4⟩, -⟩ := hw
  simp only [List.length_cons, List.length_nil, Nat.zero_add, Nat.mul_one] at w1 w3
  refine pure_of (C := ctx0 Tryd.prog) ctx0_good Tryd.func12 (c := bodyOf Tryd.f12) (by rfl) (Nat.le_of_ble_eq_true (by rfl)) 4 0 [0, 1, 4, 5, 10, 14, 25] ?_
  conv => whnf
  repeat' (first | (refine ifB_t (by assumption) ?_; conv => whnf) | (refine ifB_f (by assumption) ?_; conv => whnf) | (refine ifB_dec (fun h => ?_) (fun h => ?_) <;> (first | (exfalso; omega) | (conv => whnf))) | (refine ifB_eq (fun h => ?_) (fun h => ?_) <;> (first | (exfalso; omega) | (conv => whnf))) | (refine ifB_ne (fun h => ?_) (fun h => ?_) <;> (first | (exfalso; omega) | (conv => whnf))) | (refine ifB_not ?_; conv => whnf) | (refine ifB_and ?_; conv => whnf) | (refine ifB_or ?_; conv => whnf) | (refine And.intro ?_ ?_; (first | omega | assumption | (exact allU_getD (by assumption) _) | (simp only [cutL]; omega) | (refine And.intro ?_ ?_ <;> first | assumption | exact allU_getD (by assumption) _) | (simp only [cutL, IntKind.wrap_u64, IntKind.wrap_i64] at *; omega) | decide); conv => whnf))
  · exact congrArg (fun b => T.v (Value.bool b)) (decide_eq_false (fun e => by subst e; omega)).symm
  · refine TW.loopD ctx0_good 0 (base := 0) (lv := [0, 1, 4, 5, 10, 14, 25]) [5] [] [] (fun j : Nat => [.v (.int .i64 j)]) (fun _ => []) (fun j => j ≤ n ∧ xs.take j = ys.take j) (fun j => n - j) ?_
    conv => whnf
    refine ⟨⟨0, ⟨rfl, rfl, rfl⟩, by omega, rfl⟩, fun j ⟨hj, ht⟩ => ?_⟩
    conv => whnf
    repeat' (first | (refine ifB_t (by assumption) ?_; conv => whnf) | (refine ifB_f (by assumption) ?_; conv => whnf) | (refine ifB_dec (fun h => ?_) (fun h => ?_) <;> (first | (exfalso; omega) | (conv => whnf))) | (refine ifB_eq (fun h => ?_) (fun h => ?_) <;> (first | (exfalso; omega) | (conv => whnf))) | (refine ifB_ne (fun h => ?_) (fun h => ?_) <;> (first | (exfalso; omega) | (conv => whnf))) | (refine ifB_not ?_; conv => whnf) | (refine ifB_and ?_; conv => whnf) | (refine ifB_or ?_; conv => whnf) | (refine And.intro ?_ ?_; (first | omega | assumption | (exact allU_getD (by assumption) _) | (simp only [cutL]; omega) | (refine And.intro ?_ ?_ <;> first | assumption | exact allU_getD (by assumption) _) | (simp only [cutL, IntKind.wrap_u64, IntKind.wrap_i64] at *; omega) | decide); conv => whnf))
    · simp only [Nat.zero_add, Nat.mul_one, Int.toNat_natCast] at h
      exact congrArg (fun b => T.v (Value.bool b)) (decide_eq_false (fun e => by subst e; exact h rfl)).symm
    · simp only [Nat.zero_add, Nat.mul_one, Int.toNat_natCast] at h
      rw [wsucc (n := n) (by omega) w2]
      exact ⟨j + 1, [], ⟨rfl, rfl, rfl⟩, ⟨by omega, take_same (by omega) (by omega) ht h⟩, by (try dsimp only); omega⟩
    · have e : j = n := by omega
      rw [e, List.take_of_length_le (by omega), List.take_of_length_le (by omega)] at ht
      exact congrArg (fun b => T.v (Value.bool b)) (decide_eq_true ht).symm
def eWords : Entry := ⟨12, 3, fun l => match l with | [.fl [.u64] n xs, .fl [.u64] m ys] => some (none, .v (.bool (decide (xs = ys))), []) | _ => none⟩
theorem eWords_ok : eWords.ok Tryd.prog glR := ⟨Am.enters_of Tryd.func12 (by kernel_rfl) (by kernel_rfl), by
  intro args c t bs h hc
  simp only [eWords] at h
  split at h <;> cases h
  exact words_pure _ _ _ _⟩
/-! ### what fits -/
def fitsB (k p n : Int) : Bool := decide (1 ≤ k ∧ k ≤ 5 ∧ 1 ≤ p ∧ p ≤ 16 ∧ 1 ≤ n ∧ n ≤ 256)
def homeI (k n : Int) : Int := if k = 1 then 1 else if k = 2 then 1 + 2 * n else if k = 3 then 1 + 4 * n else if k = 4 then 2 + 4 * n else 9 + n
set_option maxRecDepth 100000 in
theorem fits_pure (k p n : Int) : Pure Tryd.prog glR 38 [.agg [.v (.int .i64 k), .v (.int .i64 p), .v (.int .i64 n)]] (.v (.bool (fitsB k p n))) := by
  refine pure_of (C := ctx0 Tryd.prog) ctx0_good Tryd.func38 (c := bodyOf Tryd.f38) (by rfl) (Nat.le_of_ble_eq_true (by rfl)) 4 0 [0, 1, 2] ?_
  conv => whnf
  repeat' (first | (refine ifB_t (by assumption) ?_; conv => whnf) | (refine ifB_f (by assumption) ?_; conv => whnf) | (refine ifB_dec (fun h => ?_) (fun h => ?_) <;> (first | (exfalso; omega) | (conv => whnf))) | (refine ifB_eq (fun h => ?_) (fun h => ?_) <;> (first | (exfalso; omega) | (conv => whnf))) | (refine ifB_ne (fun h => ?_) (fun h => ?_) <;> (first | (exfalso; omega) | (conv => whnf))) | (refine ifB_not ?_; conv => whnf) | (refine ifB_and ?_; conv => whnf) | (refine ifB_or ?_; conv => whnf) | (refine And.intro ?_ ?_; (first | omega | assumption | (exact allU_getD (by assumption) _) | (simp only [cutL]; omega) | (refine And.intro ?_ ?_ <;> first | assumption | exact allU_getD (by assumption) _) | (simp only [cutL, IntKind.wrap_u64, IntKind.wrap_i64] at *; omega) | decide); conv => whnf))
  all_goals (first | rfl | (refine congrArg (fun b => T.v (Value.bool b)) ?_; first | rfl | exact (decide_eq_true (by omega)).symm | exact (decide_eq_false (by omega)).symm | exact decide_eq_decide.2 (by omega)) | (refine congrArg (fun b => T.v (Value.int _ b)) ?_; first | rfl | omega) | omega)
def eFits : Entry := ⟨38, 3, fun l => match l with | [.agg [.v (.int .i64 k), .v (.int .i64 p), .v (.int .i64 n)]] => some (none, .v (.bool (fitsB k p n)), []) | _ => none⟩
theorem eFits_ok : eFits.ok Tryd.prog glR := ⟨Am.enters_of Tryd.func38 (by kernel_rfl) (by kernel_rfl), by
  intro args c t bs h hc
  simp only [eFits] at h
  split at h <;> cases h
  exact fits_pure _ _ _⟩
def ctxHomeP (P : Program) : Ctx := ctx P glR [eFits] [] (noEq P) [] (fun _ h => by cases h)
theorem ctxHomeP_good : (ctxHomeP Tryd.prog).good := ctx_good (by kernel_rfl) (AllOk.mem ⟨eFits_ok, trivial⟩) glR_two
set_option maxRecDepth 100000 in
theorem home_pure (k p n : Int) (hf : fitsB k p n = true) : Pure Tryd.prog glR 29 [.agg [.v (.int .i64 k), .v (.int .i64 p), .v (.int .i64 n)]] (.v (.int .i64 (homeI k n))) := by
  have hf' := of_decide_eq_true hf
  refine pure_of (C := ctxHomeP Tryd.prog) ctxHomeP_good Tryd.func29 (c := bodyOf Tryd.f29) (by rfl) (Nat.le_of_ble_eq_true (by rfl)) 4 0 [0, 1, 2, 3, 6] ?_
  conv => whnf
  refine ifB_not (ifB_mk (fun _ => ?_) (fun h => by rw [hf] at h; cases h))
  conv => whnf
  obtain ⟨h1, h2, h3, h4, h5, h6⟩ := hf'
  have : k = 1 ∨ k = 2 ∨ k = 3 ∨ k = 4 ∨ k = 5 := by omega
  rcases this with rfl | rfl | rfl | rfl | rfl <;> repeat' (first | (refine ifB_t (by assumption) ?_; conv => whnf) | (refine ifB_f (by assumption) ?_; conv => whnf) | (refine ifB_dec (fun h => ?_) (fun h => ?_) <;> (first | (exfalso; omega) | (conv => whnf))) | (refine ifB_eq (fun h => ?_) (fun h => ?_) <;> (first | (exfalso; omega) | (conv => whnf))) | (refine ifB_ne (fun h => ?_) (fun h => ?_) <;> (first | (exfalso; omega) | (conv => whnf))) | (refine ifB_not ?_; conv => whnf) | (refine ifB_and ?_; conv => whnf) | (refine ifB_or ?_; conv => whnf) | (refine And.intro ?_ ?_; (first | omega | assumption | (exact allU_getD (by assumption) _) | (simp only [cutL]; omega) | (refine And.intro ?_ ?_ <;> first | assumption | exact allU_getD (by assumption) _) | (simp only [cutL, IntKind.wrap_u64, IntKind.wrap_i64] at *; omega) | decide); conv => whnf))
  all_goals (refine congrArg (fun b => T.v (Value.int _ b)) ?_; simp [objX, homeI, idxN, IntKind.wrap_i64] <;> omega)
def eHome : Entry := ⟨29, 3, fun l => match l with | [.agg [.v (.int .i64 k), .v (.int .i64 p), .v (.int .i64 n)]] => some (some (fitsB k p n = true), .v (.int .i64 (homeI k n)), []) | _ => none⟩
theorem eHome_ok : eHome.ok Tryd.prog glR := ⟨Am.enters_of Tryd.func29 (by kernel_rfl) (by kernel_rfl), by
  intro args c t bs h hc
  simp only [eHome] at h
  split at h <;> cases h
  replace hc := hc _ rfl
  exact home_pure _ _ _ hc⟩
end Go.Proofs.YtnplgklnkcjmnaaDoor
namespace Go.Proofs.YtnplgklnkcjmnaaDoor
open Go.RowKit Go.Proofs.YtnplgklnkcjmnaaDoor.Am
set_option linter.unusedVariables false
set_option linter.unusedSimpArgs false

/-- nil, where a list of numbers is looked for. -/
def fx (k : IntKind) (t : T) : T := match t with
  | .v (.slice none 0 0) => .fl [k] 0 []
  | t => t
/-- A state whose lists may be nil. -/
def fixS (t : T) : T := match t with
  | .agg [a, b, c, d, e] => .agg [a, fx .u64 b, fx .u64 c, fx .i64 d, e]
  | t => t
theorem fx_ok {w : World} {I : Nat → Prop} {m : Nat → Option Nat} {L : Nat → Option (Option Nat)} {k : IntKind} {t : T} {v : Value} (h : TV w I m L t v) : TV w I m L (fx k t) v := by
  unfold fx
  split
  · obtain ⟨rfl, -⟩ := h.v_inv; exact .fl0
  · exact h
theorem fixS_ok {w : World} {I : Nat → Prop} {m : Nat → Option Nat} {L : Nat → Option (Option Nat)} {t : T} {v : Value} (h : TV w I m L t v) : TV w I m L (fixS t) v := by
  unfold fixS
  split
  · obtain ⟨⟨vs⟩, rfl, hv⟩ := h.agg_inv
    change TVs _ _ _ _ _ vs at hv
    cases hv with | cons h1 hv => cases hv with | cons h2 hv => cases hv with | cons h3 hv => cases hv with | cons h4 hv =>
      exact .agg (.cons h1 (.cons (fx_ok h2) (.cons (fx_ok h3) (.cons (fx_ok h4) hv))))
  · exact h
theorem fixSs_ok {w : World} {I : Nat → Prop} {m : Nat → Option Nat} {L : Nat → Option (Option Nat)} {ts : List T} {vs : List Value} (h : TVs w I m L ts vs) : TVs w I m L (ts.map fixS) vs := by
  induction ts generalizing vs with
  | nil => exact h
  | cons t ts ih => cases h with | cons a b => exact .cons (fixS_ok a) (ih b)
theorem pure_fixS {P : Program} {gl : Nat → T} {f : FuncId} {args : List T} {t : T} {bs : Hp} (h : Pure P gl f (args.map fixS) t bs) : Pure P gl f args t bs := fun w vs hg ha => h w vs hg (fixSs_ok ha)
/-- A state that came in; one of its own. -/
abbrev ST (r : Int) (n1 : Nat) (ks : List Int) (n2 : Nat) (vs : List Int) (n3 : Nat) (ws : List Int) (c : Bool) : T := .agg [.v (.int .u64 r), .fl [.u64] n1 ks, .fl [.u64] n2 vs, .fl [.i64] n3 ws, .v (.bool c)]
abbrev SO (r : Int) (n1 n2 n3 : Nat) (c : Bool) : T := .agg [.v (.int .u64 r), .ow 0 1 n1, .ow 1 1 n2, .ow 2 1 n3, .v (.bool c)]
abbrev SH (ks vs ws : List Int) : Hp := [(0, .fl [.u64] ks), (1, .fl [.u64] vs), (2, .fl [.i64] ws)]

def keyedB (k : Int) : Bool := decide (k = 2 ∨ k = 3 ∨ k = 4)

def bitI (b : Bool) : Int := if b then 1 else 0
end Go.Proofs.YtnplgklnkcjmnaaDoor
namespace Go.Proofs.YtnplgklnkcjmnaaDoor
open Go.RowKit Go.Proofs.YtnplgklnkcjmnaaDoor.Am
set_option linter.unusedVariables false
set_option linter.unusedSimpArgs false

def valB (k : Int) : Bool := decide (k = 3 ∨ k = 4)
def lssK (k a b : Int) : Bool := if k = 4 then bLess a b else decide (a < b)
def mntV (k x : Int) : Int := if k = 4 then iCanon x else x
def mntB (k x : Int) : Bool := if k = 4 then true else decide (x ≤ 4611686018427387904)
/-- Are so many keys right? -/
def okKs (k : Int) (ks : List Int) : Nat → Bool
  | 0 => true
  | i + 1 => okKs k ks i && (mntB k (ks.getD i 0) && (decide (mntV k (ks.getD i 0) = ks.getD i 0) && (decide (i = 0) || lssK k (ks.getD (i - 1) 0) (ks.getD i 0))))
theorem okKs_mono {k : Int} {ks : List Int} {i n : Nat} (hi : i ≤ n) (h : okKs k ks n = true) : okKs k ks i = true := by
  induction n with
  | zero => obtain rfl : i = 0 := by omega
            exact h
  | succ n ih =>
    by_cases e : i = n + 1
    · subst e; exact h
    · simp only [okKs, Bool.and_eq_true] at h
      exact ih (by omega) h.1
def keysOk (k n : Int) (ks vs : List Int) : Bool := decide ((ks.length : Int) ≤ n) && ((if valB k = true then decide (vs.length = ks.length) else decide (vs.length = 0)) && okKs k ks ks.length)
theorem keysOk_no {k n : Int} {ks vs : List Int} {i : Nat} (hi : i < ks.length) (h : (mntB k (ks.getD i 0) && (decide (mntV k (ks.getD i 0) = ks.getD i 0) && (decide (i = 0) || lssK k (ks.getD (i - 1) 0) (ks.getD i 0)))) = false) : keysOk k n ks vs = false := by
  have : okKs k ks ks.length = false := by
    cases hq : okKs k ks ks.length with
    | false => rfl
    | true =>
      have := okKs_mono (i := i + 1) (by omega) hq
      simp only [okKs] at this
      rw [h, Bool.and_false] at this; cases this
  unfold keysOk; rw [this, Bool.and_false, Bool.and_false]
attribute [local irreducible] lssK mntV mntB valB


end Go.Proofs.YtnplgklnkcjmnaaDoor
namespace Go.Proofs.YtnplgklnkcjmnaaDoor
open Go.RowKit Go.Proofs.YtnplgklnkcjmnaaDoor.Am
set_option linter.unusedVariables false
set_option linter.unusedSimpArgs false

/-- A list with one more at a place, without that at a place. -/
def insK (ks : List Int) (a : Nat) (w : Int) : List Int := ks.take a ++ w :: ks.drop a
def delK (ks : List Int) (a : Nat) : List Int := ks.take a ++ ks.drop (a + 1)
/-- Is a state of a Set, a Dict or an Order right? -/
def rightT (k p n r : Int) (ks vs ws : List Int) (c : Bool) : Bool := fitsB k p n && (decide (r = 0) && (decide (ws.length = 0) && (!c && keysOk k n ks vs)))
attribute [local irreducible] fitsB keysOk


end Go.Proofs.YtnplgklnkcjmnaaDoor
namespace Go.Proofs.YtnplgklnkcjmnaaDoor
open Go.RowKit Go.Proofs.YtnplgklnkcjmnaaDoor.Am
set_option linter.unusedVariables false
set_option linter.unusedSimpArgs false

/-- Where a key is, or would be; is it there? -/
def atK (k : Int) (ks : List Int) (x : Int) : Nat := ks.findIdx fun y => !lssK k y x
def hereK (k : Int) (ks : List Int) (x : Int) : Bool := decide (atK k ks x < ks.length ∧ ks.getD (atK k ks x) 0 = x)
theorem atK_le (k : Int) (ks : List Int) (x : Int) : atK k ks x ≤ ks.length := List.findIdx_le_length
theorem atK_is {k : Int} {ks : List Int} {x : Int} {j : Nat} (hj : j ≤ ks.length) (h1 : ∀ i, i < j → lssK k (ks.getD i 0) x = true) (h2 : j < ks.length → lssK k (ks.getD j 0) x = false) : atK k ks x = j := by
  have hg : ∀ i (h : i < ks.length), ks[i] = ks.getD i 0 := fun i h => by rw [List.getD_eq_getElem?_getD, List.getElem?_eq_getElem h]; rfl
  rcases Nat.lt_trichotomy (atK k ks x) j with h | h | h
  · have hl : atK k ks x < ks.length := by omega
    have h3 := List.findIdx_getElem (xs := ks) (p := fun y => !lssK k y x) (w := hl)
    have h4 := h1 _ h
    have h5 : (!lssK k (ks[atK k ks x]'hl) x) = true := h3
    rw [hg, h4] at h5; cases h5
  · exact h
  · have h3 := List.not_of_lt_findIdx (xs := ks) (p := fun y => !lssK k y x) h
    have hl := atK_le k ks x
    have h4 : (!lssK k (ks[j]'(by omega)) x) = false := by simpa using h3
    rw [hg, h2 (by omega)] at h4; cases h4
/-- Where Next looks. -/
def nxK (k : Int) (ks : List Int) (x v : Int) : Nat := if hereK k ks x = true ∧ v ≠ 0 then atK k ks x + 1 else atK k ks x
/-- What a call makes of keys and values, and tells: of a key that is meant. -/
def plcD (k n : Int) (ks vs : List Int) (code x v : Int) : List Int × List Int × Int × Int :=
  if code = 7 then
    if hereK k ks x = true then (delK ks (atK k ks x), (if valB k = true then delK vs (atK k ks x) else vs), 0, if valB k = true then vs.getD (atK k ks x) 0 else 0) else (ks, vs, 12, 0)
  else if code = 8 then
    if nxK k ks x v = ks.length then (ks, vs, 12, 0) else (ks, vs, 0, ks.getD (nxK k ks x v) 0)
  else if code = 5 ∧ valB k = false then (ks, vs, 0, bitI (hereK k ks x))
  else if code = 10 ∧ valB k = true then
    if hereK k ks x = true then (ks, vs, 0, vs.getD (atK k ks x) 0) else (ks, vs, 12, 0)
  else if code = 6 ∧ valB k = false then
    if hereK k ks x = true then (ks, vs, 0, 0)
    else if (ks.length : Int) = n then (ks, vs, 11, 0)
    else (insK ks (atK k ks x) x, vs, 0, 1)
  else if code = 11 ∧ valB k = true then
    if hereK k ks x = true then (ks, vs.set (atK k ks x) v, 0, vs.getD (atK k ks x) 0)
    else if (ks.length : Int) = n then (ks, vs, 11, 0)
    else (insK ks (atK k ks x) x, insK vs (atK k ks x) v, 0, 0)
  else (ks, vs, 10, 0)
section
variable {k n : Int} {ks vs : List Int} {code x v : Int}
theorem plcTT (hv : valB k = true) (hh : hereK k ks x = true) : plcD k n ks vs code x v = if code = 7 then (delK ks (atK k ks x), delK vs (atK k ks x), 0, vs.getD (atK k ks x) 0) else if code = 8 then (if nxK k ks x v = ks.length then (ks, vs, 12, 0) else (ks, vs, 0, ks.getD (nxK k ks x v) 0))
    else if code = 10 then (ks, vs, 0, vs.getD (atK k ks x) 0) else if code = 11 then (ks, vs.set (atK k ks x) v, 0, vs.getD (atK k ks x) 0) else (ks, vs, 10, 0) := by simp [plcD, hv, hh]
theorem plcTF (hv : valB k = true) (hh : hereK k ks x = false) : plcD k n ks vs code x v = if code = 7 then (ks, vs, 12, 0) else if code = 8 then (if nxK k ks x v = ks.length then (ks, vs, 12, 0) else (ks, vs, 0, ks.getD (nxK k ks x v) 0))
    else if code = 10 then (ks, vs, 12, 0) else if code = 11 then (if (ks.length : Int) = n then (ks, vs, 11, 0) else (insK ks (atK k ks x) x, insK vs (atK k ks x) v, 0, 0)) else (ks, vs, 10, 0) := by simp [plcD, hv, hh]
theorem plcFT (hv : valB k = false) (hh : hereK k ks x = true) : plcD k n ks vs code x v = if code = 7 then (delK ks (atK k ks x), vs, 0, 0) else if code = 8 then (if nxK k ks x v = ks.length then (ks, vs, 12, 0) else (ks, vs, 0, ks.getD (nxK k ks x v) 0))
    else if code = 5 then (ks, vs, 0, 1) else if code = 6 then (ks, vs, 0, 0) else (ks, vs, 10, 0) := by simp [plcD, hv, hh, bitI]
theorem plcFF (hv : valB k = false) (hh : hereK k ks x = false) : plcD k n ks vs code x v = if code = 7 then (ks, vs, 12, 0) else if code = 8 then (if nxK k ks x v = ks.length then (ks, vs, 12, 0) else (ks, vs, 0, ks.getD (nxK k ks x v) 0))
    else if code = 5 then (ks, vs, 0, 0) else if code = 6 then (if (ks.length : Int) = n then (ks, vs, 11, 0) else (insK ks (atK k ks x) x, vs, 0, 1)) else (ks, vs, 10, 0) := by simp [plcD, hv, hh, bitI]
theorem nxK_T (hh : hereK k ks x = true) : (v ≠ 0 → nxK k ks x v = atK k ks x + 1) ∧ (v = 0 → nxK k ks x v = atK k ks x) := ⟨fun h => by simp [nxK, hh, h], fun h => by simp [nxK, hh, h]⟩
theorem nxK_F (hh : hereK k ks x = false) : nxK k ks x v = atK k ks x := by simp [nxK, hh]
theorem delK_len {l : List Int} {a : Nat} (h : a < l.length) : (delK l a).length = l.length - 1 := by simp [delK]; omega
theorem insK_len {l : List Int} {a : Nat} {w : Int} (h : a ≤ l.length) : (insK l a w).length = l.length + 1 := by simp [insK]; omega
end
def tabD (k n : Int) (ks vs : List Int) (code key v : Int) : List Int × List Int × Int × Int :=
  if code = 9 then (ks, vs, 0, (ks.length : Int))
  else if mntB k key = false then (ks, vs, 10, 0)
  else plcD k n ks vs code (mntV k key) v
/-- A state that is right, of what has keys. -/
structure TabH (k p n : Int) (n1 : Nat) (ks : List Int) (n2 : Nat) (vs : List Int) : Prop where
  kd : k = 2 ∨ k = 3 ∨ k = 4
  fits : fitsB k p n = true
  right : rightT k p n 0 ks vs [] false = true
  l1 : ks.length = n1
  l2 : vs.length = n2
  ln : n1 ≤ 256 ∧ (n1 : Int) ≤ n
  u1 : AllU ks
  u2 : AllU vs
  v : n2 = if valB k = true then n1 else 0
attribute [local irreducible] fitsB rightT lssK mntV mntB valB atK hereK keyedB nxK plcD delK insK
end Go.Proofs.YtnplgklnkcjmnaaDoor
namespace Go.Proofs.YtnplgklnkcjmnaaDoor
open Go.RowKit Go.Proofs.YtnplgklnkcjmnaaDoor.Am
set_option linter.unusedVariables false
set_option linter.unusedSimpArgs false

/-- By what keys are put in order. -/
def rkK (k x : Int) : Int := if k = 4 then iRank x else x
theorem lssK_rk (k a b : Int) : lssK k a b = decide (rkK k a < rkK k b) := by unfold lssK rkK bLess; split <;> rfl
theorem mntV2 (k x : Int) : mntV k (mntV k x) = mntV k x := by unfold mntV; split; exact p_canon2 x; rfl
theorem rkK_mnt (k x : Int) : rkK k (mntV k x) = rkK k x := by unfold rkK mntV; split; exact p_rank_canon x; rfl
theorem rkK_inj {k a b : Int} (ha : U64 a) (hb : U64 b) (ca : mntV k a = a) (cb : mntV k b = b) (h : rkK k a = rkK k b) : a = b := by
  unfold rkK at h; unfold mntV at ca cb
  split at h
  · rename_i e
    rw [if_pos e] at ca cb
    rw [← ca, ← cb]; exact (p_rank_inj ha hb).1 h
  · exact h
theorem mntB_mnt {k x : Int} (h : mntB k x = true) : mntB k (mntV k x) = true := by
  unfold mntB mntV at *
  split
  · rfl
  · rename_i e; rw [if_neg e] at h; exact h
theorem u64_mnt {k x : Int} (h : U64 x) : U64 (mntV k x) := by unfold mntV; split; exact u64_canon h; exact h
/-- Keys and values that are right. -/
structure TabV (k : Int) (m : Nat) (ks vs : List Int) : Prop where
  len : ks.length ≤ m
  vlen : vs.length = if valB k = true then ks.length else 0
  u1 : AllU ks
  u2 : AllU vs
  mn : ∀ i, i < ks.length → mntB k (ks.getD i 0) = true ∧ mntV k (ks.getD i 0) = ks.getD i 0
  inc : ∀ i, i + 1 < ks.length → rkK k (ks.getD i 0) < rkK k (ks.getD (i + 1) 0)
section
variable {k : Int} {m : Nat} {ks vs : List Int}
theorem TabV.lt (h : TabV k m ks vs) {i j : Nat} (hij : i < j) (hj : j < ks.length) : rkK k (ks.getD i 0) < rkK k (ks.getD j 0) := by
  induction j with
  | zero => omega
  | succ j ih =>
    have h1 := h.inc j hj
    by_cases e : i = j
    · subst e; exact h1
    · have := ih (by omega) (by omega); omega
theorem okKs_of (h : TabV k m ks vs) : ∀ n, n ≤ ks.length → okKs k ks n = true
  | 0, _ => rfl
  | n + 1, hn => by
    simp only [okKs, okKs_of h n (by omega), (h.mn n (by omega)).1, (h.mn n (by omega)).2, decide_true, Bool.true_and]
    by_cases e : n = 0
    · simp [e]
    · rw [decide_eq_false e, Bool.false_or, lssK_rk]
      have := h.inc (n - 1) (by omega)
      rw [show n - 1 + 1 = n by omega] at this
      exact decide_eq_true this
theorem TabV.right (h : TabV k m ks vs) {p : Int} (hf : fitsB k p m = true) : rightT k p m 0 ks vs [] false = true := by
  have hl := h.len
  unfold rightT keysOk
  rw [hf, okKs_of h _ (Nat.le_refl _), decide_eq_true (show (ks.length : Int) ≤ m by omega)]
  have := h.vlen
  cases hv : valB k
  · rw [hv] at this; simp at this; simp [this]
  · rw [hv] at this; simp at this; simp [this]
theorem okKs_at {n i : Nat} (h : okKs k ks n = true) (hi : i < n) : mntB k (ks.getD i 0) = true ∧ mntV k (ks.getD i 0) = ks.getD i 0 ∧ (i = 0 ∨ lssK k (ks.getD (i - 1) 0) (ks.getD i 0) = true) := by
  have := okKs_mono (i := i + 1) hi h
  simp only [okKs, Bool.and_eq_true, Bool.or_eq_true, decide_eq_true_eq] at this
  exact this.2
theorem rightT_v {p r : Int} {n : Int} {ws : List Int} {c : Bool} (h : rightT k p n r ks vs ws c = true) (u1 : AllU ks) (u2 : AllU vs) : fitsB k p n = true ∧ r = 0 ∧ ws = [] ∧ c = false ∧ TabV k n.toNat ks vs := by
  unfold rightT keysOk at h
  simp only [Bool.and_eq_true, decide_eq_true_eq, Bool.not_eq_true'] at h
  obtain ⟨h1, h2, h3, h4, h5, h6, h7⟩ := h
  refine ⟨h1, h2, List.eq_nil_of_length_eq_zero h3, h4, by omega, ?_, u1, u2, fun i hi => ⟨(okKs_at h7 hi).1, (okKs_at h7 hi).2.1⟩, fun i hi => ?_⟩
  · split at h6 <;> rename_i e
    · rw [if_pos e]; simpa using h6
    · rw [if_neg e]; simpa using h6
  · have := (okKs_at h7 hi).2.2
    rcases this with h | h
    · omega
    · rw [Nat.add_sub_cancel, lssK_rk] at h; exact of_decide_eq_true h
theorem insK_at {l : List Int} {a : Nat} {w : Int} (h : a ≤ l.length) (i : Nat) : (insK l a w).getD i 0 = if i < a then l.getD i 0 else if i = a then w else l.getD (i - 1) 0 := by
  unfold insK
  rw [List.getD_eq_getElem?_getD]
  by_cases h1 : i < a
  · rw [if_pos h1, List.getElem?_append_left (by simp; omega), List.getElem?_take_of_lt h1, ← List.getD_eq_getElem?_getD]
  · rw [if_neg h1, List.getElem?_append_right (by simp; omega), List.length_take, Nat.min_eq_left h]
    by_cases h2 : i = a
    · rw [if_pos h2, h2, Nat.sub_self]; rfl
    · rw [if_neg h2, show i - a = (i - 1 - a) + 1 by omega, List.getElem?_cons_succ, List.getElem?_drop, show a + (i - 1 - a) = i - 1 by omega, ← List.getD_eq_getElem?_getD]
theorem delK_at {l : List Int} {a : Nat} (h : a < l.length) (i : Nat) : (delK l a).getD i 0 = if i < a then l.getD i 0 else l.getD (i + 1) 0 := by
  unfold delK
  rw [List.getD_eq_getElem?_getD]
  by_cases h1 : i < a
  · rw [if_pos h1, List.getElem?_append_left (by simp; omega), List.getElem?_take_of_lt h1, ← List.getD_eq_getElem?_getD]
  · rw [if_neg h1, List.getElem?_append_right (by simp; omega), List.length_take, Nat.min_eq_left (by omega), List.getElem?_drop, show a + 1 + (i - a) = i + 1 by omega, ← List.getD_eq_getElem?_getD]
theorem allU_insK {l : List Int} {a : Nat} {w : Int} (h : AllU l) (hw : U64 w) : AllU (insK l a w) := by
  intro x hx
  unfold insK at hx
  rcases List.mem_append.1 hx with hx | hx
  · exact h x (List.mem_of_mem_take hx)
  · rcases List.mem_cons.1 hx with rfl | hx
    · exact hw
    · exact h x (List.mem_of_mem_drop hx)
theorem allU_delK {l : List Int} {a : Nat} (h : AllU l) : AllU (delK l a) := by
  intro x hx
  unfold delK at hx
  rcases List.mem_append.1 hx with hx | hx
  · exact h x (List.mem_of_mem_take hx)
  · exact h x (List.mem_of_mem_drop hx)
theorem atK_lo {x : Int} {i : Nat} (h : i < atK k ks x) : rkK k (ks.getD i 0) < rkK k x := by
  have h3 := List.not_of_lt_findIdx (xs := ks) (p := fun y => !lssK k y x) h
  have hl := atK_le k ks x
  have hg : ks[i]'(by omega) = ks.getD i 0 := by rw [List.getD_eq_getElem?_getD, List.getElem?_eq_getElem (by omega)]; rfl
  have h4 : (!lssK k (ks[i]'(by omega)) x) = false := by simpa using h3
  rw [hg, lssK_rk] at h4
  simpa using h4
theorem atK_hi (h : TabV k m ks vs) {x : Int} {i : Nat} (h1 : atK k ks x ≤ i) (h2 : i < ks.length) : rkK k x ≤ rkK k (ks.getD i 0) := by
  have hl : atK k ks x < ks.length := by omega
  have h3 := List.findIdx_getElem (xs := ks) (p := fun y => !lssK k y x) (w := hl)
  have h5 : (!lssK k (ks[atK k ks x]'hl) x) = true := h3
  have hg : ks[atK k ks x]'hl = ks.getD (atK k ks x) 0 := by rw [List.getD_eq_getElem?_getD, List.getElem?_eq_getElem hl]; rfl
  rw [hg, lssK_rk] at h5
  have h6 : ¬ rkK k (ks.getD (atK k ks x) 0) < rkK k x := by simpa using h5
  by_cases e : atK k ks x = i
  · rw [e] at h6; omega
  · have := h.lt (i := atK k ks x) (j := i) (by omega) h2; omega
theorem atK_gt (h : TabV k m ks vs) {x : Int} (hx : U64 x) (cx : mntV k x = x) (hno : hereK k ks x = false) {i : Nat} (h1 : atK k ks x ≤ i) (h2 : i < ks.length) : rkK k x < rkK k (ks.getD i 0) := by
  have h3 := atK_hi h h1 h2
  have hl : atK k ks x < ks.length := by omega
  have h4 := atK_hi h (Nat.le_refl (atK k ks x)) hl
  have h5 : rkK k x ≠ rkK k (ks.getD (atK k ks x) 0) := fun e => by
    have := rkK_inj (k := k) hx (allU_getD h.u1 _) cx (h.mn _ hl).2 e
    unfold hereK at hno
    exact of_decide_eq_false hno ⟨hl, this.symm⟩
  by_cases e : atK k ks x = i
  · rw [e] at h5 h4; omega
  · have := h.lt (i := atK k ks x) (j := i) (by omega) h2; omega
theorem hereK_t {x : Int} (h : hereK k ks x = true) : atK k ks x < ks.length ∧ ks.getD (atK k ks x) 0 = x := by unfold hereK at h; exact of_decide_eq_true h
theorem TabV.ins (h : TabV k m ks vs) {x : Int} (hx : U64 x) (bx : mntB k x = true) (cx : mntV k x = x) (hno : hereK k ks x = false) (hm : ks.length < m) {vs' : List Int} (hv : vs'.length = if valB k = true then ks.length + 1 else 0) (hu : AllU vs') : TabV k m (insK ks (atK k ks x) x) vs' := by
  have ha := atK_le k ks x
  refine ⟨by rw [insK_len ha]; omega, by rw [insK_len ha]; exact hv, allU_insK h.u1 hx, hu, fun i hi => ?_, fun i hi => ?_⟩
  · rw [insK_len ha] at hi
    rw [insK_at ha]
    split
    · exact h.mn i (by omega)
    · split
      · exact ⟨bx, cx⟩
      · exact h.mn (i - 1) (by omega)
  · rw [insK_len ha] at hi
    rw [insK_at ha, insK_at ha]
    by_cases c1 : i + 1 < atK k ks x
    · rw [if_pos (by omega), if_pos c1]; exact h.inc i (by omega)
    · by_cases c2 : i + 1 = atK k ks x
      · rw [if_pos (by omega), if_neg (by omega), if_pos c2]; exact atK_lo (by omega)
      · by_cases c3 : i = atK k ks x
        · rw [if_neg (by omega), if_pos c3, if_neg (by omega), if_neg (by omega), Nat.add_sub_cancel]; exact atK_gt h hx cx hno (by omega) (by omega)
        · rw [if_neg (by omega), if_neg c3, if_neg (by omega), if_neg (by omega), Nat.add_sub_cancel]
          have := h.inc (i - 1) (by omega)
          rwa [show i - 1 + 1 = i by omega] at this
theorem TabV.del (h : TabV k m ks vs) {a : Nat} (ha : a < ks.length) {vs' : List Int} (hv : vs'.length = if valB k = true then ks.length - 1 else 0) (hu : AllU vs') : TabV k m (delK ks a) vs' := by
  have hl := h.len
  refine ⟨by rw [delK_len ha]; omega, by rw [delK_len ha]; exact hv, allU_delK h.u1, hu, fun i hi => ?_, fun i hi => ?_⟩
  · rw [delK_len ha] at hi
    rw [delK_at ha]
    split
    · exact h.mn i (by omega)
    · exact h.mn (i + 1) (by omega)
  · rw [delK_len ha] at hi
    rw [delK_at ha, delK_at ha]
    by_cases c1 : i + 1 < a
    · rw [if_pos (by omega), if_pos c1]; exact h.inc i (by omega)
    · by_cases c2 : i < a
      · rw [if_pos c2, if_neg (by omega)]; exact h.lt (by omega) (by omega)
      · rw [if_neg c2, if_neg (by omega)]; exact h.inc (i + 1) (by omega)
theorem plcD_v (h : TabV k m ks vs) {x v code : Int} (hx : U64 x) (hv : U64 v) (bx : mntB k x = true) (cx : mntV k x = x) : TabV k m (plcD k m ks vs code x v).1 (plcD k m ks vs code x v).2.1 := by
  have hl := h.len
  have hvl := h.vlen
  have ha := atK_le k ks x
  cases hb : valB k <;> cases hh : hereK k ks x <;> rw [hb] at hvl <;> simp only [if_true, Bool.false_eq_true, if_false] at hvl
  · rw [plcFF hb hh]
    repeat' split
    all_goals first | exact h | skip
    rename_i hne
    exact h.ins hx bx cx hh (by omega) (by rw [hb]; simpa using hvl) h.u2
  · rw [plcFT hb hh]
    repeat' split
    all_goals first | exact h | exact h.del (hereK_t hh).1 (by rw [hb]; simpa using hvl) h.u2
  · rw [plcTF hb hh]
    repeat' split
    all_goals first | exact h | skip
    rename_i hne
    exact h.ins hx bx cx hh (by omega) (by rw [hb, insK_len (by omega)]; simp; omega) (allU_insK h.u2 hv)
  · have hat := (hereK_t hh).1
    rw [plcTT hb hh]
    repeat' split
    all_goals first | exact h | exact h.del hat (by rw [hb, delK_len (by omega)]; simp; omega) (allU_delK h.u2) | exact ⟨h.len, by rw [List.length_set, hb]; simpa using hvl, h.u1, allU_set h.u2 _ hv, h.mn, h.inc⟩
theorem tabD_v (h : TabV k m ks vs) {key v code : Int} (hk : U64 key) (hv : U64 v) : TabV k m (tabD k m ks vs code key v).1 (tabD k m ks vs code key v).2.1 := by
  unfold tabD
  split
  · exact h
  · split
    · exact h
    · rename_i hb
      exact plcD_v h (u64_mnt hk) hv (mntB_mnt (by simpa using hb)) (mntV2 _ _)
end
theorem tabV_nil (k : Int) (m : Nat) : TabV k m [] [] := ⟨Nat.zero_le _, by split <;> rfl, (fun x hx => by cases hx), (fun x hx => by cases hx), (fun i hi => by cases hi), fun i hi => by cases hi⟩
theorem TabV.tabH {k p : Int} {m n1 n2 : Nat} {ks vs : List Int} (h : TabV k m ks vs) (hk : k = 2 ∨ k = 3 ∨ k = 4) (hf : fitsB k p m = true) (hm : m ≤ 256) (l1 : ks.length = n1) (l2 : vs.length = n2) : TabH k p m n1 ks n2 vs :=
  ⟨hk, hf, h.right hf, l1, l2, by have := h.len; omega, h.u1, h.u2, by rw [← l2, ← l1]; exact h.vlen⟩
theorem fitsK {k p m : Int} (h : fitsB k p m = true) : 1 ≤ k ∧ k ≤ 5 ∧ 1 ≤ p ∧ p ≤ 16 ∧ 1 ≤ m ∧ m ≤ 256 := by unfold fitsB at h; exact of_decide_eq_true h
end Go.Proofs.YtnplgklnkcjmnaaDoor
namespace Go.Proofs.YtnplgklnkcjmnaaDoor.PrT
open Go.RowKit Go.Proofs.YtnplgklnkcjmnaaDoor.Am Go.Proofs.YtnplgklnkcjmnaaDoor
set_option linter.unusedVariables false
set_option linter.unusedSimpArgs false
/-- The records of keys and values. -/
def rsK (v : Nat) (ks vs : List Int) : List R := (List.range ks.length).map fun i => (ks.getD i 0 + 1, if v = 1 then 0 else vs.getD i 0)
theorem rsK_len (v : Nat) (ks vs : List Int) : (rsK v ks vs).length = ks.length := by simp [rsK]
theorem rsK_get (v : Nat) (ks vs : List Int) {i : Nat} (h : i < ks.length) : gR (rsK v ks vs) i = (ks.getD i 0 + 1, if v = 1 then 0 else vs.getD i 0) := by
  unfold gR rsK; rw [List.getD_eq_getElem?_getD, List.getElem?_map, List.getElem?_range h]; rfl
theorem rsK_mem (v : Nat) (ks vs : List Int) (x : R) : x ∈ rsK v ks vs ↔ ∃ i, i < ks.length ∧ x = (ks.getD i 0 + 1, if v = 1 then 0 else vs.getD i 0) := by
  unfold rsK
  rw [List.mem_map]
  constructor
  · rintro ⟨i, h, rfl⟩; exact ⟨i, List.mem_range.1 h, rfl⟩
  · rintro ⟨i, h, rfl⟩; exact ⟨i, List.mem_range.2 h, rfl⟩
/-- Which kinds have which slots. -/
def KV (v : Nat) (k : Int) : Prop := (v = 1 ∧ k = 2) ∨ (v = 2 ∧ k = 3)
theorem KV.v {v : Nat} {k : Int} (h : KV v k) : v = 1 ∨ v = 2 := by rcases h with ⟨h, -⟩ | ⟨h, -⟩ <;> omega
theorem KV.n4 {v : Nat} {k : Int} (h : KV v k) : k ≠ 4 := by rcases h with ⟨-, h⟩ | ⟨-, h⟩ <;> omega
theorem KV.val {v : Nat} {k : Int} (h : KV v k) : valB k = decide (v = 2) := by rcases h with ⟨rfl, rfl⟩ | ⟨rfl, rfl⟩ <;> rfl
theorem KV.rk {v : Nat} {k : Int} (h : KV v k) (x : Int) : rkK k x = x := by unfold rkK; rw [if_neg h.n4]
theorem KV.mv {v : Nat} {k : Int} (h : KV v k) (x : Int) : mntV k x = x := by unfold mntV; rw [if_neg h.n4]
theorem KV.mb {v : Nat} {k : Int} (h : KV v k) (x : Int) : mntB k x = decide (x ≤ 4611686018427387904) := by unfold mntB; rw [if_neg h.n4]
theorem KV.kd {v : Nat} {k : Int} (h : KV v k) : k = 2 ∨ k = 3 ∨ k = 4 := by rcases h with ⟨-, h⟩ | ⟨-, h⟩ <;> omega
section
variable {v m : Nat} {k : Int} {ks vs : List Int}
theorem _root_.Go.Proofs.YtnplgklnkcjmnaaDoor.TabV.k_u (h : TabV k m ks vs) (hk : KV v k) {i : Nat} (hi : i < ks.length) : 0 ≤ ks.getD i 0 ∧ ks.getD i 0 ≤ 4611686018427387904 := by
  have h1 := (h.mn i hi).1
  rw [hk.mb] at h1
  exact ⟨(h.u1.at hi).1, of_decide_eq_true h1⟩
theorem _root_.Go.Proofs.YtnplgklnkcjmnaaDoor.TabV.k_lt (h : TabV k m ks vs) (hk : KV v k) {i j : Nat} (hij : i < j) (hj : j < ks.length) : ks.getD i 0 < ks.getD j 0 := by
  have := h.lt hij hj
  rwa [hk.rk, hk.rk] at this
theorem _root_.Go.Proofs.YtnplgklnkcjmnaaDoor.TabV.k_inj (h : TabV k m ks vs) (hk : KV v k) {i j : Nat} (hi : i < ks.length) (hj : j < ks.length) (e : ks.getD i 0 = ks.getD j 0) : i = j := by
  rcases Nat.lt_trichotomy i j with q | q | q
  · have := h.k_lt hk q hj; omega
  · exact q
  · have := h.k_lt hk q hi; omega
theorem _root_.Go.Proofs.YtnplgklnkcjmnaaDoor.TabV.sorted (h : TabV k m ks vs) (hk : KV v k) : (rsK v ks vs).Pairwise fun a b => a.1 < b.1 := by
  rw [List.pairwise_iff_getElem]
  intro i j hi hj hij
  rw [rsK_len] at hi hj
  have e : ∀ q (hq : q < (rsK v ks vs).length), (rsK v ks vs)[q] = gR (rsK v ks vs) q := fun q hq => by
    unfold gR; rw [List.getD_eq_getElem?_getD, List.getElem?_eq_getElem hq]; rfl
  rw [e, e, rsK_get v ks vs hi, rsK_get v ks vs hj]
  have := h.k_lt hk hij hj
  dsimp only; omega
theorem _root_.Go.Proofs.YtnplgklnkcjmnaaDoor.TabV.recs (h : TabV k m ks vs) (hk : KV v k) : Recs sP (rsK v ks vs) := by
  refine ⟨fun r hr => ?_, fun r hr => ?_, (h.sorted hk).imp fun h => by omega⟩
  · obtain ⟨i, hi, rfl⟩ := (rsK_mem _ _ _ _).1 hr
    have := h.k_u hk hi
    rw [sP_U]; unfold U64; dsimp only; omega
  · obtain ⟨i, hi, rfl⟩ := (rsK_mem _ _ _ _).1 hr
    have := h.k_u hk hi
    dsimp only; omega
theorem _root_.Go.Proofs.YtnplgklnkcjmnaaDoor.TabV.nv (h : TabV k m ks vs) : v = 1 → ∀ r ∈ rsK v ks vs, r.2 = 0 := by
  rintro rfl r hr
  obtain ⟨i, hi, rfl⟩ := (rsK_mem _ _ _ _).1 hr
  rfl
theorem _root_.Go.Proofs.YtnplgklnkcjmnaaDoor.TabV.vu (h : TabV k m ks vs) : ∀ r ∈ rsK v ks vs, U64 r.2 := by
  intro r hr
  obtain ⟨i, hi, rfl⟩ := (rsK_mem _ _ _ _).1 hr
  dsimp only
  split
  · exact ⟨by decide, by decide⟩
  · exact allU_getD h.u2 _
theorem _root_.Go.Proofs.YtnplgklnkcjmnaaDoor.TabV.rlen (h : TabV k m ks vs) : (rsK v ks vs).length ≤ 2 * m := by rw [rsK_len]; have := h.len; omega
/-- The table of keys and values. -/
noncomputable def tabT (v m : Nat) (ks vs : List Int) : List Int := flat v (laid sP (2 * m) (rsK v ks vs))
theorem _root_.Go.Proofs.YtnplgklnkcjmnaaDoor.TabV.tb (h : TabV k m ks vs) (hk : KV v k) : Tb (2 * m) v (tabT v m ks vs) := tb_laid hk.v (h.recs hk) h.rlen h.nv h.vu
theorem _root_.Go.Proofs.YtnplgklnkcjmnaaDoor.TabV.trecs (h : TabV k m ks vs) (hk : KV v k) : recs (2 * m) v (tabT v m ks vs) = laid sP (2 * m) (rsK v ks vs) := laid_recs hk.v (h.recs hk) h.rlen h.nv
theorem _root_.Go.Proofs.YtnplgklnkcjmnaaDoor.TabV.tmem (h : TabV k m ks vs) (hk : KV v k) (x : R) : x ∈ nzs (Go.Proofs.YtnplgklnkcjmnaaDoor.PrT.recs (2 * m) v (tabT v m ks vs)) ↔ x ∈ rsK v ks vs := by
  obtain ⟨g1, g2⟩ := laid_ok (h.recs hk) h.rlen
  rw [h.trecs hk, ← In_nzs g1.len, g2]
theorem sort_is {l l' : List R} (h : l.Pairwise fun a b => a.1 ≠ b.1) (h' : l'.Pairwise fun a b => a.1 < b.1) (hm : ∀ x, x ∈ l ↔ x ∈ l') : sortI byK l = l' :=
  sorted_ext (f := fun r => r.1) (sortI_sorted (fun a b => rfl) h) h' fun x => (sortI_mem _ _ _).trans (hm x)
/-- Its list. -/
theorem _root_.Go.Proofs.YtnplgklnkcjmnaaDoor.TabV.lst (h : TabV k m ks vs) (hk : KV v k) (hm0 : 0 < m) (hm : m ≤ 256) : lstP v (tabT v m ks vs) = rsK v ks vs := by
  obtain ⟨hr, f2, f3⟩ := (h.tb hk).facts hk.v (by omega) (by omega)
  unfold lstP
  rw [if_pos hr, f2, Int.toNat_natCast]
  exact sort_is (h.tb hk).ok.recs.nd (h.sorted hk) (h.tmem hk)
theorem laid_ext {n : Nat} {l l' : List R} (hr : Recs sP l) (hl : l.length ≤ n) (hr' : Recs sP l') (hl' : l'.length ≤ n) (hm : ∀ x, x ∈ l ↔ x ∈ l') : laid sP n l = laid sP n l' :=
  laid_is hr hl (laid_ok hr' hl').1 fun x => ((laid_ok hr' hl').2 x).trans (hm x).symm
theorem here_iff (h : TabV k m ks vs) (hk : KV v k) (x : Int) : hereK k ks x = true ↔ ∃ i, i < ks.length ∧ ks.getD i 0 = x := by
  constructor
  · intro q; obtain ⟨h1, h2⟩ := hereK_t q; exact ⟨_, h1, h2⟩
  · rintro ⟨i, hi, rfl⟩
    have ha : atK k ks (ks.getD i 0) = i := by
      refine atK_is (Nat.le_of_lt hi) (fun j hj => ?_) (fun _ => ?_)
      · rw [lssK_rk, hk.rk, hk.rk]; exact decide_eq_true (h.k_lt hk hj hi)
      · rw [lssK_rk]; exact decide_eq_false (Int.lt_irrefl _)
    unfold hereK
    rw [ha]
    exact decide_eq_true ⟨hi, rfl⟩
theorem here_at (h : TabV k m ks vs) (hk : KV v k) {i : Nat} (hi : i < ks.length) : atK k ks (ks.getD i 0) = i := by
  refine atK_is (Nat.le_of_lt hi) (fun j hj => ?_) (fun _ => ?_)
  · rw [lssK_rk, hk.rk, hk.rk]; exact decide_eq_true (h.k_lt hk hj hi)
  · rw [lssK_rk]; exact decide_eq_false (Int.lt_irrefl _)
/-- What is found. -/
theorem _root_.Go.Proofs.YtnplgklnkcjmnaaDoor.TabV.fnd (h : TabV k m ks vs) (hk : KV v k) (hm0 : 0 < m) (hm : m ≤ 256) (x : Int) (hx : x + 1 ≠ 0) :
    (hereK k ks x = true → ∃ p : Nat, p < 2 * m ∧ fndP v (tabT v m ks vs) (x + 1) = p ∧ (tabT v m ks vs).getD (p * v) 0 = x + 1 ∧ (v = 2 → (tabT v m ks vs).getD (p * v + 1) 0 = vs.getD (atK k ks x) 0)) ∧
    (hereK k ks x = false → fndP v (tabT v m ks vs) (x + 1) = -1) := by
  have hT := h.tb hk
  obtain ⟨hr, f2, f3⟩ := hT.facts hk.v (by omega) (by omega)
  have e : fndP v (tabT v m ks vs) (x + 1) = findF sP (2 * m) (Go.Proofs.YtnplgklnkcjmnaaDoor.PrT.recs (2 * m) v (tabT v m ks vs)) (x + 1) (2 * m) (sP.hm (2 * m) (x + 1)) := by
    unfold fndP; rw [if_pos ⟨hr, hx⟩, f2, Int.toNat_natCast]
  constructor
  · intro hh
    obtain ⟨a1, a2⟩ := hereK_t hh
    obtain ⟨q1, p, hp, hg⟩ := (In_nzs hT.ok.len _).2 ((h.tmem hk _).2 ((rsK_mem v ks vs (ks.getD (atK k ks x) 0 + 1, if v = 1 then 0 else vs.getD (atK k ks x) 0)).2 ⟨_, a1, rfl⟩))
    have hkp : kR (Go.Proofs.YtnplgklnkcjmnaaDoor.PrT.recs (2 * m) v (tabT v m ks vs)) p = x + 1 := by unfold kR; rw [hg, a2]
    refine ⟨p, hp, ?_, ?_, fun hv2 => ?_⟩
    · rw [e]
      exact findF_in hT.ok hp hkp hx _ _ (sP.hlt (2 * m) (x + 1) (by omega)) (by rw [dist_self]; exact Nat.zero_le _) (dist_lt (sP.hlt (2 * m) (x + 1) (by omega)) hp)
    · unfold kR at hkp; rw [recs_get _ hp] at hkp; exact hkp
    · rw [recs_get _ hp] at hg
      have := congrArg Prod.snd hg
      dsimp only at this
      rwa [if_neg (by omega), if_neg (by omega)] at this
  · intro hh
    rw [e]
    refine findF_out (fun j hj hkj => ?_) _ _ (sP.hlt (2 * m) (x + 1) (by omega))
    have : gR (Go.Proofs.YtnplgklnkcjmnaaDoor.PrT.recs (2 * m) v (tabT v m ks vs)) j ∈ rsK v ks vs := (h.tmem hk _).1 ((In_nzs hT.ok.len _).1 ⟨by unfold kR at hkj; rw [hkj]; exact hx, j, hj, rfl⟩)
    obtain ⟨i, hi, he⟩ := (rsK_mem _ _ _ _).1 this
    unfold kR at hkj
    rw [he] at hkj
    dsimp only at hkj
    rw [(here_iff h hk x).2 ⟨i, hi, by omega⟩] at hh
    cases hh
theorem full_len {n : Nat} {T : List R} (hl : T.length = n) (l : List R) (hd : l.Nodup) (hm : ∀ x, x ∈ l → x ∈ T) : l.length ≤ n := by
  rw [← hl]; exact nodup_sub_len hd hm
theorem nd_of {l : List R} (h : l.Pairwise fun a b => a.1 ≠ b.1) : l.Nodup := h.imp fun h e => h (by rw [e])
/-- What Put makes of the table: keys and values that have these records. -/
theorem _root_.Go.Proofs.YtnplgklnkcjmnaaDoor.TabV.put (h : TabV k m ks vs) (hk : KV v k) (hm0 : 0 < m) (hm : m ≤ 256) {x val : Int} (hx : 0 ≤ x ∧ x ≤ 4611686018427387904) (hvu : U64 val) (hv1 : v = 1 → val = 0)
    {ks' vs' : List Int} (h' : TabV k m ks' vs') (hmem : ∀ r, r ∈ rsK v ks' vs' ↔ r = (x + 1, val) ∨ (r ∈ rsK v ks vs ∧ r.1 ≠ x + 1)) :
    putE v (tabT v m ks vs) (x + 1) val = 0 ∧ putL v (tabT v m ks vs) (x + 1) val = tabT v m ks' vs' := by
  have hT := h.tb hk
  have hU : U64 (x + 1) := by unfold U64; omega
  have hn0 : x + 1 ≠ 0 := by omega
  have hP := put_recs hT.ok hU hn0 (val := val)
  have hmm : ∀ r, r ∈ oth (nzs (Go.Proofs.YtnplgklnkcjmnaaDoor.PrT.recs (2 * m) v (tabT v m ks vs))) (x + 1) ++ [(x + 1, val)] ↔ r ∈ rsK v ks' vs' := by
    intro r
    rw [List.mem_append, oth_mem, h.tmem hk, hmem, List.mem_singleton]
    exact or_comm
  have hl : (oth (nzs (Go.Proofs.YtnplgklnkcjmnaaDoor.PrT.recs (2 * m) v (tabT v m ks vs))) (x + 1) ++ [(x + 1, val)]).length ≤ 2 * m :=
    Nat.le_trans (nodup_sub_len (nd_of hP.nd) fun r hr => (hmm r).1 hr) h'.rlen
  have he := laid_ext hP hl (h'.recs hk) h'.rlen hmm
  obtain ⟨-, q⟩ := hT.put hk.v (by omega) (by omega) hU hn0 hvu hv1
  rw [List.length_append] at hl
  simp only [List.length_cons, List.length_nil] at hl
  rcases q with ⟨-, -, q⟩ | ⟨q1, q2, -⟩
  · omega
  · refine ⟨q1, q2.trans ?_⟩
    rw [he]; rfl
/-- What Del makes of it. -/
theorem _root_.Go.Proofs.YtnplgklnkcjmnaaDoor.TabV.dele (h : TabV k m ks vs) (hk : KV v k) (hm0 : 0 < m) (hm : m ≤ 256) {x : Int} (hx : 0 ≤ x) (hh : hereK k ks x = true)
    {ks' vs' : List Int} (h' : TabV k m ks' vs') (hmem : ∀ r, r ∈ rsK v ks' vs' ↔ (r ∈ rsK v ks vs ∧ r.1 ≠ x + 1)) :
    delE v (tabT v m ks vs) (x + 1) = 0 ∧ delL v (tabT v m ks vs) (x + 1) = tabT v m ks' vs' := by
  have hT := h.tb hk
  obtain ⟨q0, q⟩ := hT.del hk.v (by omega) (by omega) (key := x + 1) (by omega)
  obtain ⟨a1, a2⟩ := hereK_t hh
  rcases q with ⟨-, -, q⟩ | ⟨q1, -, q2⟩
  · refine absurd ⟨_, (h.tmem hk _).2 ((rsK_mem v ks vs _).2 ⟨_, a1, rfl⟩), ?_⟩ q
    dsimp only; rw [a2]
  · refine ⟨q1, ?_⟩
    have hP : Recs sP (oth (nzs (Go.Proofs.YtnplgklnkcjmnaaDoor.PrT.recs (2 * m) v (tabT v m ks vs))) (x + 1)) := hT.ok.recs.of_mem (fun x hx => (oth_mem.1 hx).1) (hT.ok.recs.nd.sublist List.filter_sublist)
    have hmm : ∀ r, r ∈ oth (nzs (Go.Proofs.YtnplgklnkcjmnaaDoor.PrT.recs (2 * m) v (tabT v m ks vs))) (x + 1) ↔ r ∈ rsK v ks' vs' := by
      intro r
      rw [oth_mem, h.tmem hk, hmem]
    have hl : (oth (nzs (Go.Proofs.YtnplgklnkcjmnaaDoor.PrT.recs (2 * m) v (tabT v m ks vs))) (x + 1)).length ≤ 2 * m :=
      Nat.le_trans (nodup_sub_len (nd_of hP.nd) fun r hr => (hmm r).1 hr) h'.rlen
    have he := laid_ext hP hl (h'.recs hk) h'.rlen hmm
    have := flat_recs hk.v q0.len
    rw [q2, he] at this
    exact this.symm
theorem _root_.Go.Proofs.YtnplgklnkcjmnaaDoor.TabV.delno (h : TabV k m ks vs) (hk : KV v k) (hm0 : 0 < m) (hm : m ≤ 256) {x : Int} (hx : 0 ≤ x) (hh : hereK k ks x = false) : delE v (tabT v m ks vs) (x + 1) = 12 := by
  obtain ⟨q0, q⟩ := (h.tb hk).del hk.v (by omega) (by omega) (key := x + 1) (by omega)
  rcases q with ⟨q, -⟩ | ⟨-, ⟨r, hr, e⟩, -⟩
  · exact q
  · obtain ⟨i, hi, rfl⟩ := (rsK_mem _ _ _ _).1 ((h.tmem hk _).1 hr)
    dsimp only at e
    rw [(here_iff h hk x).2 ⟨i, hi, by omega⟩] at hh
    cases hh
/-- Records behind a key that is new, that is there, that goes. -/
theorem mem_ins (h : TabV k m ks vs) (hk : KV v k) {x val : Int} (hno : hereK k ks x = false) (hv1 : v = 1 → val = 0) (vs' : List Int) (hvs : v = 2 → vs' = insK vs (atK k ks x) val) (r : R) :
    r ∈ rsK v (insK ks (atK k ks x) x) vs' ↔ r = (x + 1, val) ∨ (r ∈ rsK v ks vs ∧ r.1 ≠ x + 1) := by
  have ha := atK_le k ks x
  have hne : ∀ i, i < ks.length → ks.getD i 0 ≠ x := fun i hi e => by
    rw [(here_iff h hk x).2 ⟨i, hi, e⟩] at hno; cases hno
  have hvl : v = 2 → vs.length = ks.length := fun e => by have := h.vlen; rwa [hk.val, if_pos (decide_eq_true e)] at this
  have hat : ∀ i, i < ks.length + 1 → ((insK ks (atK k ks x) x).getD i 0 + 1, if v = 1 then (0 : Int) else vs'.getD i 0) =
      if i < atK k ks x then (ks.getD i 0 + 1, if v = 1 then 0 else vs.getD i 0) else if i = atK k ks x then (x + 1, val) else (ks.getD (i - 1) 0 + 1, if v = 1 then 0 else vs.getD (i - 1) 0) := by
    intro i hi
    rw [insK_at ha]
    rcases hk.v with e | e
    · have := hv1 e
      subst this
      simp only [if_pos e]
      split
      · rfl
      · split <;> rfl
    · rw [hvs e, insK_at (by rw [hvl e]; exact ha)]; simp only [if_neg (show ¬ v = 1 by omega)]
      split
      · rfl
      · split <;> rfl
  rw [rsK_mem, rsK_mem, insK_len ha]
  constructor
  · rintro ⟨i, hi, rfl⟩
    rw [hat i hi]
    by_cases h1 : i < atK k ks x
    · rw [if_pos h1]
      exact .inr ⟨⟨i, by omega, rfl⟩, by have := hne i (by omega); dsimp only; omega⟩
    · rw [if_neg h1]
      by_cases h2 : i = atK k ks x
      · rw [if_pos h2]; exact .inl rfl
      · rw [if_neg h2]
        exact .inr ⟨⟨i - 1, by omega, rfl⟩, by have := hne (i - 1) (by omega); dsimp only; omega⟩
  · rintro (rfl | ⟨⟨i, hi, rfl⟩, -⟩)
    · exact ⟨atK k ks x, by omega, by rw [hat _ (by omega), if_neg (Nat.lt_irrefl _), if_pos rfl]⟩
    · by_cases h1 : i < atK k ks x
      · exact ⟨i, by omega, by rw [hat _ (by omega), if_pos h1]⟩
      · exact ⟨i + 1, by omega, by rw [hat _ (by omega), if_neg (show ¬ i + 1 < atK k ks x by omega), if_neg (show ¬ i + 1 = atK k ks x by omega), Nat.add_sub_cancel]⟩
theorem mem_set (h : TabV k m ks vs) (hk : KV v k) (hv2 : v = 2) {x val : Int} (hh : hereK k ks x = true) (r : R) :
    r ∈ rsK v ks (vs.set (atK k ks x) val) ↔ r = (x + 1, val) ∨ (r ∈ rsK v ks vs ∧ r.1 ≠ x + 1) := by
  obtain ⟨a1, a2⟩ := hereK_t hh
  have hvl : vs.length = ks.length := by have := h.vlen; rwa [hk.val, if_pos (decide_eq_true hv2)] at this
  have hg : ∀ i, (vs.set (atK k ks x) val).getD i 0 = if i = atK k ks x then val else vs.getD i 0 := fun i => by
    rw [List.getD_eq_getElem?_getD, List.getElem?_set]
    by_cases e : i = atK k ks x
    · rw [if_pos e.symm, if_pos (by omega), if_pos e]; rfl
    · rw [if_neg (fun q => e q.symm), if_neg e, ← List.getD_eq_getElem?_getD]
  rw [rsK_mem, rsK_mem]
  simp only [hg, if_neg (show ¬ v = 1 by omega)]
  constructor
  · rintro ⟨i, hi, rfl⟩
    by_cases e : i = atK k ks x
    · rw [if_pos e, e, a2]; exact .inl rfl
    · rw [if_neg e]
      refine .inr ⟨⟨i, hi, rfl⟩, fun q => e ?_⟩
      dsimp only at q
      exact h.k_inj hk hi a1 (by omega)
  · rintro (rfl | ⟨⟨i, hi, rfl⟩, hn⟩)
    · exact ⟨_, a1, by rw [if_pos rfl, a2]⟩
    · refine ⟨i, hi, ?_⟩
      rw [if_neg]
      rintro rfl
      exact hn (by dsimp only; rw [a2])
theorem mem_del (h : TabV k m ks vs) (hk : KV v k) {x : Int} (hh : hereK k ks x = true) (vs' : List Int) (hvs : v = 2 → vs' = delK vs (atK k ks x)) (r : R) :
    r ∈ rsK v (delK ks (atK k ks x)) vs' ↔ (r ∈ rsK v ks vs ∧ r.1 ≠ x + 1) := by
  obtain ⟨a1, a2⟩ := hereK_t hh
  have hvl : v = 2 → vs.length = ks.length := fun e => by have := h.vlen; rwa [hk.val, if_pos (decide_eq_true e)] at this
  have hat : ∀ i, ((delK ks (atK k ks x)).getD i 0 + 1, if v = 1 then (0 : Int) else vs'.getD i 0) =
      if i < atK k ks x then (ks.getD i 0 + 1, if v = 1 then 0 else vs.getD i 0) else (ks.getD (i + 1) 0 + 1, if v = 1 then 0 else vs.getD (i + 1) 0) := by
    intro i
    rw [delK_at a1]
    rcases hk.v with e | e
    · simp only [if_pos e]
      split <;> rfl
    · rw [hvs e, delK_at (by rw [hvl e]; exact a1)]; simp only [if_neg (show ¬ v = 1 by omega)]
      split <;> rfl
  rw [rsK_mem, rsK_mem, delK_len a1]
  constructor
  · rintro ⟨i, hi, rfl⟩
    rw [hat i]
    by_cases h1 : i < atK k ks x
    · rw [if_pos h1]
      refine ⟨⟨i, by omega, rfl⟩, fun q => ?_⟩
      dsimp only at q
      have := h.k_inj hk (i := i) (by omega) a1 (by omega)
      omega
    · rw [if_neg h1]
      refine ⟨⟨i + 1, by omega, rfl⟩, fun q => ?_⟩
      dsimp only at q
      have := h.k_inj hk (i := i + 1) (by omega) a1 (by omega)
      omega
  · rintro ⟨⟨i, hi, rfl⟩, hn⟩
    by_cases h1 : i < atK k ks x
    · exact ⟨i, by omega, by rw [hat, if_pos h1]⟩
    · have h2 : i ≠ atK k ks x := by rintro rfl; exact hn (by dsimp only; rw [a2])
      exact ⟨i - 1, by omega, by rw [hat, if_neg (show ¬ i - 1 < atK k ks x by omega), show i - 1 + 1 = i by omega]⟩
end
/-! ### words of states -/
noncomputable def encT (v m : Nat) (ks vs : List Int) : List Int := (ks.length : Int) :: tabT v m ks vs
def ksT (v : Nat) (t : List Int) : List Int := []
open Classical in
/-- Are words those of a state? -/
noncomputable def okD (v m : Nat) (w : List Int) : Bool := decide (w.length = 1 + 2 * m * v ∧ rightB v (w.drop 1) = true ∧ (∀ r ∈ lstP v (w.drop 1), r.1 ≤ 4611686018427387905) ∧ w.getD 0 0 = (lstP v (w.drop 1)).length ∧ (lstP v (w.drop 1)).length ≤ m)
noncomputable def ksD (v : Nat) (w : List Int) : List Int := (lstP v (w.drop 1)).map fun r => r.1 - 1
noncomputable def vsD (v : Nat) (w : List Int) : List Int := if v = 2 then (lstP v (w.drop 1)).map fun r => r.2 else []
section
variable {v m : Nat} {k : Int} {ks vs : List Int}
theorem map_get {l : List R} {f : R → Int} {i : Nat} (h : i < l.length) : (l.map f).getD i 0 = f (gR l i) := by
  unfold gR
  rw [List.getD_eq_getElem?_getD, List.getElem?_map, List.getD_eq_getElem?_getD, List.getElem?_eq_getElem h]; rfl
theorem ext_getD {a b : List Int} (hl : a.length = b.length) (h : ∀ i, i < a.length → a.getD i 0 = b.getD i 0) : a = b := by
  refine List.ext_getElem hl fun i h1 h2 => ?_
  have := h i h1
  rw [List.getD_eq_getElem?_getD, List.getD_eq_getElem?_getD, List.getElem?_eq_getElem h1, List.getElem?_eq_getElem h2] at this
  exact this
theorem _root_.Go.Proofs.YtnplgklnkcjmnaaDoor.TabV.enc_len (h : TabV k m ks vs) (hk : KV v k) : (encT v m ks vs).length = 1 + 2 * m * v := by
  show (tabT v m ks vs).length + 1 = _
  rw [(h.tb hk).len]; omega
theorem _root_.Go.Proofs.YtnplgklnkcjmnaaDoor.TabV.enc_u (h : TabV k m ks vs) (hk : KV v k) (hm : m ≤ 256) : AllU (encT v m ks vs) := by
  intro x hx
  rcases List.mem_cons.1 hx with rfl | hx
  · have := h.len; unfold U64; omega
  · exact (h.tb hk).u x hx
theorem _root_.Go.Proofs.YtnplgklnkcjmnaaDoor.TabV.dec (h : TabV k m ks vs) (hk : KV v k) (hm0 : 0 < m) (hm : m ≤ 256) : okD v m (encT v m ks vs) = true ∧ ksD v (encT v m ks vs) = ks ∧ vsD v (encT v m ks vs) = vs := by
  have hl := h.lst hk hm0 hm
  have hd : (encT v m ks vs).drop 1 = tabT v m ks vs := rfl
  unfold okD ksD vsD
  rw [hd, hl]
  refine ⟨decide_eq_true ⟨h.enc_len hk, ((h.tb hk).facts hk.v (by omega) (by omega)).1, fun r hr => ?_, ?_, ?_⟩, ?_, ?_⟩
  · obtain ⟨i, hi, rfl⟩ := (rsK_mem _ _ _ _).1 hr
    have := h.k_u hk hi
    dsimp only; omega
  · rw [rsK_len]; rfl
  · rw [rsK_len]; exact h.len
  · refine ext_getD (by rw [List.length_map, rsK_len]) fun i hi => ?_
    rw [List.length_map, rsK_len] at hi
    rw [map_get (by rw [rsK_len]; exact hi), rsK_get v ks vs hi]
    dsimp only; omega
  · have hvl := h.vlen
    rw [hk.val] at hvl
    by_cases e : v = 2
    · rw [if_pos e]
      rw [if_pos (decide_eq_true e)] at hvl
      refine ext_getD (by rw [List.length_map, rsK_len, hvl]) fun i hi => ?_
      rw [List.length_map, rsK_len] at hi
      rw [map_get (by rw [rsK_len]; exact hi), rsK_get v ks vs hi]
      dsimp only
      rw [if_neg (by omega)]
    · rw [if_neg e]
      rw [if_neg (by rw [decide_eq_false e]; exact Bool.false_ne_true)] at hvl
      exact (List.eq_nil_of_length_eq_zero hvl).symm
/-- Words that are a state's. -/
theorem okD_enc {w : List Int} (hk : KV v k) (hm0 : 0 < m) (hm : m ≤ 256) (hu : AllU w) (h : okD v m w = true) : TabV k m (ksD v w) (vsD v w) ∧ w = encT v m (ksD v w) (vsD v w) := by
  unfold okD at h
  obtain ⟨h1, h2, h3, h4, h5⟩ := of_decide_eq_true h
  have htl : (w.drop 1).length = 2 * m * v := by rw [List.length_drop]; omega
  have htu : AllU (w.drop 1) := fun x hx => hu x (List.mem_of_mem_drop hx)
  obtain ⟨n', v', hv', e', hn', hl', f1, f2, f3, f4⟩ := ok_facts ((rightB_iff _ _).1 h2).1
  obtain rfl : v = v' := by omega
  have hn : n' = 2 * m := by
    rw [htl] at hl'
    exact (Nat.eq_of_mul_eq_mul_right (by omega) hl').symm
  subst hn
  have hT : Tb (2 * m) v (w.drop 1) := ⟨f4.1 h2, htl, htu⟩
  have hls : lstP v (w.drop 1) = sortI byK (nzs (recs (2 * m) v (w.drop 1))) := by unfold lstP; rw [if_pos h2, f2, Int.toNat_natCast]
  have hsrt : (lstP v (w.drop 1)).Pairwise fun a b => a.1 < b.1 := by rw [hls]; exact sortI_sorted (fun a b => rfl) hT.ok.recs.nd
  have hLm : ∀ r, r ∈ lstP v (w.drop 1) ↔ r ∈ nzs (recs (2 * m) v (w.drop 1)) := fun r => by rw [hls]; exact sortI_mem _ _ _
  have hLu : ∀ r ∈ lstP v (w.drop 1), U64 r.1 ∧ U64 r.2 ∧ r.1 ≠ 0 ∧ (v = 1 → r.2 = 0) := fun r hr => by
    have h9 := nzs_mem.1 ((hLm r).1 hr)
    exact ⟨(recs_u hT.u r h9.1).1, (recs_u hT.u r h9.1).2, h9.2, fun q => recs_nv _ v _ q r h9.1⟩
  have hks : ksD v w = (lstP v (w.drop 1)).map fun r => r.1 - 1 := rfl
  have hvs : vsD v w = if v = 2 then (lstP v (w.drop 1)).map fun r => r.2 else [] := rfl
  generalize lstP v (w.drop 1) = L at *
  have hLg : ∀ i, i < L.length → gR L i ∈ L := fun i hi => gR_mem hi
  have hkg : ∀ i, i < L.length → (ksD v w).getD i 0 = (gR L i).1 - 1 := fun i hi => by rw [hks, map_get hi]
  have hkl : (ksD v w).length = L.length := by rw [hks, List.length_map]
  have hvg : ∀ i, i < L.length → v = 2 → (vsD v w).getD i 0 = (gR L i).2 := fun i hi e => by rw [hvs, if_pos e, map_get hi]
  have hvl : (vsD v w).length = if v = 2 then L.length else 0 := by
    rw [hvs]; split
    · rw [List.length_map]
    · rfl
  have hTab : TabV k m (ksD v w) (vsD v w) := by
    refine ⟨by omega, ?_, ?_, ?_, fun i hi => ?_, fun i hi => ?_⟩
    · rw [hvl, hk.val, hkl]
      by_cases e : v = 2
      · rw [if_pos e, if_pos (decide_eq_true e)]
      · rw [if_neg e, if_neg (by rw [decide_eq_false e]; exact Bool.false_ne_true)]
    · rw [hks]
      intro x hx
      obtain ⟨r, hr, rfl⟩ := List.mem_map.1 hx
      have := (hLu r hr).1; have := (hLu r hr).2.2.1
      unfold U64 at *; omega
    · rw [hvs]
      intro x hx
      split at hx
      · obtain ⟨r, hr, rfl⟩ := List.mem_map.1 hx
        exact (hLu r hr).2.1
      · cases hx
    · rw [hkl] at hi
      rw [hkg i hi, hk.mb, hk.mv]
      exact ⟨decide_eq_true (by have := h3 _ (hLg i hi); omega), rfl⟩
    · rw [hkl] at hi
      rw [hkg i (by omega), hkg (i + 1) hi, hk.rk, hk.rk]
      have := (List.pairwise_iff_getElem.1 hsrt) i (i + 1) (by omega) hi (by omega)
      have e : ∀ q (hq : q < L.length), L[q] = gR L q := fun q hq => by
        unfold gR; rw [List.getD_eq_getElem?_getD, List.getElem?_eq_getElem hq]; rfl
      rw [e, e] at this
      omega
  refine ⟨hTab, ?_⟩
  have hrs : rsK v (ksD v w) (vsD v w) = L := by
    refine gR_ext (by rw [rsK_len, hkl]) fun j hj => ?_
    rw [rsK_len, hkl] at hj
    rw [rsK_get _ _ _ (by rw [hkl]; exact hj), hkg j hj]
    refine Prod.ext (by dsimp only; omega) ?_
    dsimp only
    by_cases e : v = 1
    · rw [if_pos e, (hLu _ (hLg j hj)).2.2.2 e]
    · rw [if_neg e, hvg j hj (by rcases hk.v with q | q <;> omega)]
  have hlaid : laid sP (2 * m) L = recs (2 * m) v (w.drop 1) := by
    refine laid_is ?_ (by omega) hT.ok fun x => by rw [In_nzs hT.ok.len, hLm]
    rw [← hrs]; exact hTab.recs hk
  have htab : tabT v m (ksD v w) (vsD v w) = w.drop 1 := by
    unfold tabT
    rw [hrs, hlaid, flat_recs hk.v htl]
  unfold encT
  rw [htab, hkl, ← h4]
  cases w with
  | nil => simp at h1; omega
  | cons a w => rfl
end
end Go.Proofs.YtnplgklnkcjmnaaDoor.PrT
namespace Go.Proofs.YtnplgklnkcjmnaaDoor
open Go.RowKit Go.Proofs.YtnplgklnkcjmnaaDoor.Am
set_option linter.unusedVariables false
set_option linter.unusedSimpArgs false

theorem ipick_tmod {c n : Int} (h : ¬ c < 0) : c.tmod n = ipick c n := by
  unfold ipick; rw [if_neg h, Int.tmod_eq_emod_of_nonneg (by omega)]
theorem ipick_tmodn {c n : Int} (h : c < 0) : (-(c + 1)).tmod n = ipick c n := by
  unfold ipick; rw [if_pos h, Int.tmod_eq_emod_of_nonneg (by omega)]
/-- Of a raw number, a word. -/
def wordL (w : Int) : List Int := [0, 9223372036854775808, 9221120237041090561, 9221120237041090566, 18446744073709551615, 9218868437227405312, 18442240474082181120, 4607182418800017408, 13830554455654793216, 4609434218613702656, 1, 9223372036854775809, 9218868437227405311, w]
def wordS (n w : Int) : Int := (wordL w).getD (ipick n 14).toNat 0
theorem u64_wordS {n w : Int} (hw : U64 w) : U64 (wordS n w) := by
  unfold wordS
  obtain ⟨b1, b2⟩ := ipick_bounds n (n := 14) (by omega)
  have : AllU (wordL w) := by
    intro x hx
    simp only [wordL, List.mem_cons, List.not_mem_nil, or_false] at hx
    rcases hx with rfl | rfl | rfl | rfl | rfl | rfl | rfl | rfl | rfl | rfl | rfl | rfl | rfl | rfl <;> first | exact hw | exact ⟨by omega, by omega⟩
  exact allU_getD this _
end Go.Proofs.YtnplgklnkcjmnaaDoor
namespace Go.Proofs.YtnplgklnkcjmnaaDoor
open Go.RowKit Go.Proofs.YtnplgklnkcjmnaaDoor.Am
set_option linter.unusedVariables false
set_option linter.unusedSimpArgs false

def codeL (k : Int) : List Int := if k = 1 then [1, 2, 3, 4, 4] else if k = 2 then [6, 6, 5, 7, 8, 9] else if k = 5 then [12, 12, 12, 14, 15, 16, 13] else [11, 11, 10, 7, 8, 9]
def codeG (k n : Int) : Int := if ipick n (3 * ((codeL k).length : Int) + 1) = 3 * ((codeL k).length : Int) then ipick n 260 else (codeL k).getD (ipick n (3 * ((codeL k).length : Int) + 1) % ((codeL k).length : Int)).toNat 0
def keyG (k n w : Int) : Int := if k = 4 then wordS n w else if ipick n 14 = 13 then w else if ipick n 14 = 12 ∧ k ≠ 5 then 4611686018427387904 else ipick n 14
def valG (k a c w : Int) : Int := if k = 5 ∨ codeG k a = 8 then ipick c 10 else wordS c w
theorem u64_keyG {k n w : Int} (hw : U64 w) : U64 (keyG k n w) := by
  obtain ⟨b1, b2⟩ := ipick_bounds n (n := 14) (by omega)
  unfold keyG
  split
  · exact u64_wordS hw
  · split
    · exact hw
    · split
      · exact ⟨by omega, by omega⟩
      · exact ⟨by omega, by omega⟩
theorem u64_valG {k a c w : Int} (hw : U64 w) : U64 (valG k a c w) := by
  obtain ⟨b1, b2⟩ := ipick_bounds c (n := 10) (by omega)
  unfold valG
  split
  · exact ⟨by omega, by omega⟩
  · exact u64_wordS hw
attribute [local irreducible] wordS
attribute [local irreducible] codeG keyG
end Go.Proofs.YtnplgklnkcjmnaaDoor
namespace Go.Proofs.YtnplgklnkcjmnaaDoor
open Go.RowKit Go.Proofs.YtnplgklnkcjmnaaDoor.Am
set_option linter.unusedVariables false
set_option linter.unusedSimpArgs false

attribute [local irreducible] fitsB codeG keyG valG tabD
/-- Keys and values behind so many raw calls. -/
def stK (k : Int) (m : Nat) (raw : List Int) : Nat → List Int × List Int
  | 0 => ([], [])
  | j + 1 => ((tabD k m (stK k m raw j).1 (stK k m raw j).2 (codeG k (raw.getD (j * 3) 0)) (keyG k (raw.getD (j * 3 + 1) 0) j) (valG k (raw.getD (j * 3) 0) (raw.getD (j * 3 + 2) 0) j)).1, (tabD k m (stK k m raw j).1 (stK k m raw j).2 (codeG k (raw.getD (j * 3) 0)) (keyG k (raw.getD (j * 3 + 1) 0) j) (valG k (raw.getD (j * 3) 0) (raw.getD (j * 3 + 2) 0) j)).2.1)
theorem stK_v (k : Int) (m : Nat) (raw : List Int) : ∀ j, j ≤ 30 → TabV k m (stK k m raw j).1 (stK k m raw j).2
  | 0, _ => tabV_nil k m
  | j + 1, h => tabD_v (stK_v k m raw j (by omega)) (u64_keyG ⟨by omega, by omega⟩) (u64_valG ⟨by omega, by omega⟩)
theorem allI_getD' {xs : List Int} (h : AllI xs) (i : Nat) : I64 (xs.getD i 0) := by
  by_cases hi : i < xs.length
  · exact h.at hi
  · rw [List.getD_eq_getElem?_getD, List.getElem?_eq_none (by omega)]; exact ⟨by decide, by decide⟩
end Go.Proofs.YtnplgklnkcjmnaaDoor
namespace Go.Proofs.YtnplgklnkcjmnaaDoor.DcT
open Go.RowKit Go.Proofs.YtnplgklnkcjmnaaDoor.Am Go.Proofs.YtnplgklnkcjmnaaDoor Go.Proofs.YtnplgklnkcjmnaaDoor.PrT
set_option linter.unusedVariables false
set_option linter.unusedSimpArgs false


def wdK (k : Int) : Nat := if k = 3 then 2 else 1
theorem kv_wdK {k : Int} (h : k = 2 ∨ k = 3) : KV (wdK k) k := by rcases h with rfl | rfl <;> simp [KV, wdK]
section
variable {v m : Nat} {k : Int} {ks vs : List Int}
theorem _root_.Go.Proofs.YtnplgklnkcjmnaaDoor.TabV.bld (h : TabV k m ks vs) (hk : KV v k) (hm0 : 0 < m) (hm : m ≤ 256) : bldE ((2 * m : Nat) : Int) (v : Int) (rsK v ks vs) = 0 ∧ bldW ((2 * m : Nat) : Int) (v : Int) (rsK v ks vs) = tabT v m ks vs := by
  have hR := h.recs hk
  have e : bldE ((2 * m : Nat) : Int) (v : Int) (rsK v ks vs) = 0 := by
    unfold bldE
    have hv := hk.v
    rw [if_neg (by omega), if_neg, if_neg (by have := h.rlen (v := v); omega)]
    rintro (⟨r, hr, hb⟩ | q)
    · have h0 := hR.nz r hr
      by_cases e1 : v = 1
      · rw [badR_ok1 h0 (h.nv e1 r hr)] at hb; cases hb
      · obtain rfl : v = 2 := by omega
        rw [show (((2 : Nat) : Int)) = 2 from rfl, badR_ok2 h0] at hb; cases hb
    · exact q hR.nd
  refine ⟨e, ?_⟩
  unfold bldW
  rw [e, if_pos rfl, Int.toNat_natCast, Int.toNat_natCast]; rfl
end
theorem take_rs (v : Nat) (ks vs : List Int) {j : Nat} (h : j < ks.length) : (rsK v ks vs).take (j + 1) = (rsK v ks vs).take j ++ [(ks.getD j 0 + 1, if v = 1 then 0 else vs.getD j 0)] := by
  rw [take_snocR (by rw [rsK_len]; exact h), rsK_get v ks vs h]
theorem rs_recs (v : Nat) (ks vs : List Int) : recs ks.length 2 (flat 2 (rsK v ks vs)) = rsK v ks vs := recs_flat (.inr rfl) (rsK_len _ _ _) (fun q => by cases q)
attribute [local irreducible] bldE bldW rsK tabT recs
attribute [local irreducible] fitsB rightT
end Go.Proofs.YtnplgklnkcjmnaaDoor.DcT
namespace Go.Proofs.YtnplgklnkcjmnaaDoor.DcT
open Go.RowKit Go.Proofs.YtnplgklnkcjmnaaDoor.Am Go.Proofs.YtnplgklnkcjmnaaDoor Go.Proofs.YtnplgklnkcjmnaaDoor.PrT
set_option linter.unusedVariables false
set_option linter.unusedSimpArgs false


theorem lst_len (v : Int) (t : List Int) : (lstP v t).length ≤ t.length := by
  unfold lstP
  split
  · rw [sortI_len]
    refine Nat.le_trans (nzs_len _) ?_
    rw [recs_len]
    unfold shN
    split
    · exact Nat.div_le_self _ _
    · exact Nat.zero_le _
  · exact Nat.zero_le _
theorem lst_mem {v : Int} {t : List Int} (hu : AllU t) {r : R} (h : r ∈ lstP v t) : U64 r.1 ∧ U64 r.2 ∧ r.1 ≠ 0 := by
  unfold lstP at h
  split at h
  · rw [sortI_mem] at h
    have := nzs_mem.1 h
    exact ⟨(recs_u hu r this.1).1, (recs_u hu r this.1).2, this.2⟩
  · cases h
def kL (L : List R) : List Int := L.map fun r => r.1 - 1
def vL (L : List R) : List Int := L.map fun r => r.2
theorem kL_len (L : List R) : (kL L).length = L.length := List.length_map _
theorem vL_len (L : List R) : (vL L).length = L.length := List.length_map _
theorem kL_take {L : List R} {j : Nat} (h : j < L.length) : kL (L.take (j + 1)) = kL (L.take j) ++ [kR L j - 1] := by
  unfold kL; rw [take_snocR h, List.map_append]; rfl
theorem vL_take {L : List R} {j : Nat} (h : j < L.length) : vL (L.take (j + 1)) = vL (L.take j) ++ [(gR L j).2] := by
  unfold vL; rw [take_snocR h, List.map_append]; rfl
attribute [local irreducible] lstP kL vL
/-! ### Dec -/
noncomputable def dKs (v m : Nat) (w : List Int) : List Int := if okD v m w = true then ksD v w else []
noncomputable def dVs (v m : Nat) (w : List Int) : List Int := if okD v m w = true then vsD v w else []
noncomputable def dE (v m : Nat) (w : List Int) : Int := if okD v m w = true then 0 else 2
theorem d_yes {v m : Nat} {w : List Int} (h : okD v m w = true) : dKs v m w = ksD v w ∧ dVs v m w = vsD v w ∧ dE v m w = 0 := by
  unfold dKs dVs dE; rw [if_pos h, if_pos h, if_pos h]; exact ⟨rfl, rfl, rfl⟩
theorem d_no {v m : Nat} {w : List Int} (h : okD v m w = false) : dKs v m w = [] ∧ dVs v m w = [] ∧ dE v m w = 2 := by
  unfold dKs dVs dE; rw [h]; exact ⟨rfl, rfl, rfl⟩
theorem okD_len {v m : Nat} {w : List Int} (h : okD v m w = true) : w.length = 1 + 2 * m * v := (of_decide_eq_true h).1
theorem home_v {v m : Nat} {k : Int} (hk : KV v k) : homeI k m = ((1 + 2 * m * v : Nat) : Int) := by
  rcases hk with ⟨rfl, rfl⟩ | ⟨rfl, rfl⟩
  · unfold homeI; rw [if_neg (by decide), if_pos rfl]; omega
  · unfold homeI; rw [if_neg (by decide), if_neg (by decide), if_pos rfl]; omega
/-- What words tell, if right. -/
theorem guess_fits {v m : Nat} {w : List Int} (hu : AllU w) : AllU (ksD v w) ∧ AllU (vsD v w) ∧ (ksD v w).length ≤ w.length ∧ (vsD v w).length ≤ w.length := by
  have htu : AllU (w.drop 1) := fun x hx => hu x (List.mem_of_mem_drop hx)
  have hll := lst_len (v : Int) (w.drop 1)
  rw [List.length_drop] at hll
  refine ⟨fun x hx => ?_, fun x hx => ?_, ?_, ?_⟩
  · unfold ksD at hx
    obtain ⟨r, hr, rfl⟩ := List.mem_map.1 hx
    have := lst_mem htu hr
    unfold U64 at *; omega
  · unfold vsD at hx
    split at hx
    · obtain ⟨r, hr, rfl⟩ := List.mem_map.1 hx
      exact (lst_mem htu hr).2.1
    · cases hx
  · unfold ksD; rw [List.length_map]; omega
  · unfold vsD; split
    · rw [List.length_map]; omega
    · simp
theorem guess_len {v m : Nat} {w : List Int} (hv : v = 1 ∨ v = 2) (hl : w.length = 1 + 2 * m * v) : (ksD v w).length ≤ 2 * m ∧ (vsD v w).length ≤ 2 * m := by
  have hd : (w.drop 1).length / v = 2 * m := by rw [List.length_drop, hl, Nat.add_sub_cancel_left]; exact Nat.mul_div_cancel _ (by omega)
  have hL : (lstP (v : Int) (w.drop 1)).length ≤ 2 * m := by
    unfold lstP
    split
    · rw [sortI_len]
      refine Nat.le_trans (nzs_len _) ?_
      rw [recs_len]
      unfold shN
      split
      · rw [Int.toNat_natCast, hd]; exact Nat.le_refl _
      · exact Nat.zero_le _
    · exact Nat.zero_le _
  refine ⟨?_, ?_⟩
  · unfold ksD; rw [List.length_map]; exact hL
  · unfold vsD; split
    · rw [List.length_map]; exact hL
    · simp
attribute [local irreducible] fitsB rightT ksD vsD okD encT homeI tabT
end Go.Proofs.YtnplgklnkcjmnaaDoor.DcT
namespace Go.Proofs.YtnplgklnkcjmnaaDoor.DcT
open Go.RowKit Go.Proofs.YtnplgklnkcjmnaaDoor.Am Go.Proofs.YtnplgklnkcjmnaaDoor Go.Proofs.YtnplgklnkcjmnaaDoor.PrT
set_option linter.unusedVariables false
set_option linter.unusedSimpArgs false
section
variable {v m : Nat} {k : Int} {ks vs : List Int}
theorem tabD_mk (hk : KV v k) {code x val : Int} (hc : code ≠ 9) (hx : x ≤ 4611686018427387904) : tabD k m ks vs code x val = plcD k m ks vs code x val := by
  unfold tabD
  rw [if_neg hc, hk.mb, if_neg (by rw [decide_eq_true hx]; exact Bool.noConfusion), hk.mv]
theorem tabD_bad (hk : KV v k) {code x val : Int} (hc : code ≠ 9) (hx : ¬ x ≤ 4611686018427387904) : tabD k m ks vs code x val = (ks, vs, 10, 0) := by
  unfold tabD
  rw [if_neg hc, hk.mb, if_pos (decide_eq_false hx)]
theorem tabD_count {code x val : Int} (hc : code = 9) : tabD k m ks vs code x val = (ks, vs, 0, (ks.length : Int)) := by unfold tabD; rw [if_pos hc]
theorem kv2 : KV 2 3 := .inr ⟨rfl, rfl⟩
theorem kv1 : KV 1 2 := .inl ⟨rfl, rfl⟩
theorem dfnd (h : TabV 3 m ks vs) (hm0 : 0 < m) (hm : m ≤ 256) (x : Int) (hx : x + 1 ≠ 0) :
    (hereK 3 ks x = true → ∃ p : Nat, p < 2 * m ∧ fndP 2 (tabT 2 m ks vs) (x + 1) = p ∧ (tabT 2 m ks vs).getD (p * 2 + 1) 0 = vs.getD (atK 3 ks x) 0) ∧
    (hereK 3 ks x = false → fndP 2 (tabT 2 m ks vs) (x + 1) = -1) := by
  obtain ⟨h1, h2⟩ := h.fnd kv2 hm0 hm x hx
  exact ⟨fun q => by obtain ⟨p, a, b, c, d⟩ := h1 q; exact ⟨p, a, b, d rfl⟩, h2⟩
theorem sfnd (h : TabV 2 m ks vs) (hm0 : 0 < m) (hm : m ≤ 256) (x : Int) (hx : x + 1 ≠ 0) :
    (hereK 2 ks x = true → ∃ p : Nat, p < 2 * m ∧ fndP 1 (tabT 1 m ks vs) (x + 1) = p) ∧
    (hereK 2 ks x = false → fndP 1 (tabT 1 m ks vs) (x + 1) = -1) := by
  obtain ⟨h1, h2⟩ := h.fnd kv1 hm0 hm x hx
  exact ⟨fun q => by obtain ⟨p, a, b, c, d⟩ := h1 q; exact ⟨p, a, b⟩, h2⟩
/-- A dict's put. -/
theorem put_here (h : TabV 3 m ks vs) (hm0 : 0 < m) (hm : m ≤ 256) {x val : Int} (hx : 0 ≤ x ∧ x ≤ 4611686018427387904) (hv : U64 val) (hh : hereK 3 ks x = true) :
    tabD 3 m ks vs 11 x val = (ks, vs.set (atK 3 ks x) val, 0, vs.getD (atK 3 ks x) 0) ∧ TabV 3 m ks (vs.set (atK 3 ks x) val) ∧ putL 2 (tabT 2 m ks vs) (x + 1) val = tabT 2 m ks (vs.set (atK 3 ks x) val) := by
  have e : tabD 3 m ks vs 11 x val = (ks, vs.set (atK 3 ks x) val, 0, vs.getD (atK 3 ks x) 0) := by
    rw [tabD_mk kv2 (by decide) hx.2, plcTT (by decide) hh]; simp
  have hT := tabD_v h (key := x) (v := val) (code := 11) (by unfold U64; omega) hv
  rw [e] at hT
  exact ⟨e, hT, (h.put kv2 hm0 hm hx hv (fun q => by cases q) hT (mem_set h kv2 rfl hh)).2⟩
theorem put_new (h : TabV 3 m ks vs) (hm0 : 0 < m) (hm : m ≤ 256) {x val : Int} (hx : 0 ≤ x ∧ x ≤ 4611686018427387904) (hv : U64 val) (hh : hereK 3 ks x = false) (hl : ks.length ≠ m) :
    tabD 3 m ks vs 11 x val = (insK ks (atK 3 ks x) x, insK vs (atK 3 ks x) val, 0, 0) ∧ TabV 3 m (insK ks (atK 3 ks x) x) (insK vs (atK 3 ks x) val) ∧ putL 2 (tabT 2 m ks vs) (x + 1) val = tabT 2 m (insK ks (atK 3 ks x) x) (insK vs (atK 3 ks x) val) := by
  have e : tabD 3 m ks vs 11 x val = (insK ks (atK 3 ks x) x, insK vs (atK 3 ks x) val, 0, 0) := by
    rw [tabD_mk kv2 (by decide) hx.2, plcTF (by decide) hh]
    rw [if_neg (by decide), if_neg (by decide), if_neg (by decide), if_pos rfl, if_neg (by omega)]
  have hT := tabD_v h (key := x) (v := val) (code := 11) (by unfold U64; omega) hv
  rw [e] at hT
  exact ⟨e, hT, (h.put kv2 hm0 hm hx hv (fun q => by cases q) hT (mem_ins h kv2 hh (fun q => by cases q) _ (fun _ => rfl))).2⟩
theorem put_full (h : TabV 3 m ks vs) {x val : Int} (hx : 0 ≤ x ∧ x ≤ 4611686018427387904) (hh : hereK 3 ks x = false) (hl : ks.length = m) : tabD 3 m ks vs 11 x val = (ks, vs, 11, 0) := by
  rw [tabD_mk kv2 (by decide) hx.2, plcTF (by decide) hh]
  rw [if_neg (by decide), if_neg (by decide), if_neg (by decide), if_pos rfl, if_pos (by omega)]
theorem get_here (h : TabV 3 m ks vs) {x val : Int} (hx : x ≤ 4611686018427387904) (hh : hereK 3 ks x = true) : tabD 3 m ks vs 10 x val = (ks, vs, 0, vs.getD (atK 3 ks x) 0) := by
  rw [tabD_mk kv2 (by decide) hx, plcTT (by decide) hh]; simp
theorem get_no (h : TabV 3 m ks vs) {x val : Int} (hx : x ≤ 4611686018427387904) (hh : hereK 3 ks x = false) : tabD 3 m ks vs 10 x val = (ks, vs, 12, 0) := by
  rw [tabD_mk kv2 (by decide) hx, plcTF (by decide) hh]; simp
theorem del_here (h : TabV 3 m ks vs) (hm0 : 0 < m) (hm : m ≤ 256) {x val : Int} (hx : 0 ≤ x ∧ x ≤ 4611686018427387904) (hv : U64 val) (hh : hereK 3 ks x = true) :
    tabD 3 m ks vs 7 x val = (delK ks (atK 3 ks x), delK vs (atK 3 ks x), 0, vs.getD (atK 3 ks x) 0) ∧ TabV 3 m (delK ks (atK 3 ks x)) (delK vs (atK 3 ks x)) ∧ delL 2 (tabT 2 m ks vs) (x + 1) = tabT 2 m (delK ks (atK 3 ks x)) (delK vs (atK 3 ks x)) := by
  have e : tabD 3 m ks vs 7 x val = (delK ks (atK 3 ks x), delK vs (atK 3 ks x), 0, vs.getD (atK 3 ks x) 0) := by
    rw [tabD_mk kv2 (by decide) hx.2, plcTT (by decide) hh]; simp
  have hT := tabD_v h (key := x) (v := val) (code := 7) (by unfold U64; omega) hv
  rw [e] at hT
  exact ⟨e, hT, (h.dele kv2 hm0 hm hx.1 hh hT (mem_del h kv2 hh _ (fun _ => rfl))).2⟩
theorem del_no (hk : KV v k) {x val : Int} (hx : x ≤ 4611686018427387904) (hh : hereK k ks x = false) : tabD k m ks vs 7 x val = (ks, vs, 12, 0) := by
  rw [tabD_mk hk (by decide) hx]
  unfold plcD
  rw [if_pos rfl, if_neg (by rw [hh]; exact Bool.false_ne_true)]
theorem next_is (hk : KV v k) {x val : Int} (hx : x ≤ 4611686018427387904) : tabD k m ks vs 8 x val = if nxK k ks x val = ks.length then (ks, vs, 12, 0) else (ks, vs, 0, ks.getD (nxK k ks x val) 0) := by
  rw [tabD_mk hk (by decide) hx]
  unfold plcD
  rw [if_neg (by decide), if_pos rfl]
/-- Where next stands: all ahead are less, or the key itself. -/
theorem nx_lo (h : TabV k m ks vs) (hk : KV v k) {x val : Int} {i : Nat} (hi : i < nxK k ks x val) (hl : i < ks.length) : ¬ (ks.getD i 0 > x ∨ (ks.getD i 0 = x ∧ val = 0)) := by
  unfold nxK at hi
  split at hi
  · rename_i q
    obtain ⟨a1, a2⟩ := hereK_t q.1
    by_cases e : i = atK k ks x
    · subst e; rw [a2]; rintro (q2 | q2)
      · omega
      · exact q.2 q2.2
    · have := h.k_lt hk (i := i) (j := atK k ks x) (by omega) a1
      rintro (q2 | q2) <;> omega
  · have := atK_lo (ks := ks) hi
    rw [hk.rk, hk.rk] at this
    rintro (q2 | q2) <;> omega
theorem nx_hi (h : TabV k m ks vs) (hk : KV v k) {x val : Int} (hl : nxK k ks x val < ks.length) : ks.getD (nxK k ks x val) 0 > x ∨ (ks.getD (nxK k ks x val) 0 = x ∧ val = 0) := by
  have h1 := atK_hi h (x := x) (i := nxK k ks x val) (by unfold nxK; split <;> omega) hl
  rw [hk.rk, hk.rk] at h1
  by_cases e : ks.getD (nxK k ks x val) 0 = x
  · refine .inr ⟨e, ?_⟩
    have hh : hereK k ks x = true := (here_iff h hk x).2 ⟨_, hl, e⟩
    by_cases v0 : val = 0
    · exact v0
    · exfalso
      have hn : nxK k ks x val = atK k ks x + 1 := by unfold nxK; rw [if_pos ⟨hh, v0⟩]
      obtain ⟨a1, a2⟩ := hereK_t hh
      have := h.k_inj hk hl a1 (by rw [e, a2])
      omega
  · exact .inl (by omega)
theorem nx_is (h : TabV k m ks vs) (hk : KV v k) {x val : Int} {j : Nat} (hj : j ≤ ks.length) (h1 : ∀ i, i < j → ¬ (ks.getD i 0 > x ∨ (ks.getD i 0 = x ∧ val = 0))) (h2 : j < ks.length → (ks.getD j 0 > x ∨ (ks.getD j 0 = x ∧ val = 0))) : nxK k ks x val = j := by
  have hle : nxK k ks x val ≤ ks.length := by
    have := atK_le k ks x
    unfold nxK
    split
    · rename_i q; have := (hereK_t q.1).1; omega
    · exact this
  rcases Nat.lt_trichotomy (nxK k ks x val) j with q | q | q
  · exact absurd (nx_hi h hk (by omega)) (h1 _ q)
  · exact q
  · exact absurd (h2 (by omega)) (nx_lo h hk q (by omega))
/-- A set's calls. -/
theorem has_is (h : TabV 2 m ks vs) {x val : Int} (hx : x ≤ 4611686018427387904) : tabD 2 m ks vs 5 x val = (ks, vs, 0, bitI (hereK 2 ks x)) := by
  rw [tabD_mk kv1 (by decide) hx]
  unfold plcD
  rw [if_neg (by decide), if_neg (by decide), if_pos ⟨rfl, rfl⟩]
theorem vs_nil (h : TabV 2 m ks vs) : vs = [] := by
  have := h.vlen
  rw [if_neg (by decide)] at this
  exact List.eq_nil_of_length_eq_zero this
theorem add_here (h : TabV 2 m ks vs) {x val : Int} (hx : x ≤ 4611686018427387904) (hh : hereK 2 ks x = true) : tabD 2 m ks vs 6 x val = (ks, vs, 0, 0) := by
  rw [tabD_mk kv1 (by decide) hx, plcFT (by decide) hh]; simp
theorem add_full (h : TabV 2 m ks vs) {x val : Int} (hx : x ≤ 4611686018427387904) (hh : hereK 2 ks x = false) (hl : ks.length = m) : tabD 2 m ks vs 6 x val = (ks, vs, 11, 0) := by
  rw [tabD_mk kv1 (by decide) hx, plcFF (by decide) hh]
  rw [if_neg (by decide), if_neg (by decide), if_neg (by decide), if_pos rfl, if_pos (by omega)]
theorem add_new (h : TabV 2 m ks vs) (hm0 : 0 < m) (hm : m ≤ 256) {x val : Int} (hx : 0 ≤ x ∧ x ≤ 4611686018427387904) (hv : U64 val) (hh : hereK 2 ks x = false) (hl : ks.length ≠ m) :
    tabD 2 m ks vs 6 x val = (insK ks (atK 2 ks x) x, vs, 0, 1) ∧ TabV 2 m (insK ks (atK 2 ks x) x) vs ∧ putL 1 (tabT 1 m ks vs) (x + 1) 0 = tabT 1 m (insK ks (atK 2 ks x) x) vs := by
  have e : tabD 2 m ks vs 6 x val = (insK ks (atK 2 ks x) x, vs, 0, 1) := by
    rw [tabD_mk kv1 (by decide) hx.2, plcFF (by decide) hh]
    rw [if_neg (by decide), if_neg (by decide), if_neg (by decide), if_pos rfl, if_neg (by omega)]
  have hT := tabD_v h (key := x) (v := val) (code := 6) (by unfold U64; omega) hv
  rw [e] at hT
  exact ⟨e, hT, (h.put kv1 hm0 hm hx ⟨by decide, by decide⟩ (fun _ => rfl) hT (mem_ins h kv1 hh (fun _ => rfl) _ (fun q => by cases q))).2⟩
theorem sdel_here (h : TabV 2 m ks vs) (hm0 : 0 < m) (hm : m ≤ 256) {x val : Int} (hx : 0 ≤ x ∧ x ≤ 4611686018427387904) (hv : U64 val) (hh : hereK 2 ks x = true) :
    tabD 2 m ks vs 7 x val = (delK ks (atK 2 ks x), vs, 0, 0) ∧ TabV 2 m (delK ks (atK 2 ks x)) vs ∧ delE 1 (tabT 1 m ks vs) (x + 1) = 0 ∧ delL 1 (tabT 1 m ks vs) (x + 1) = tabT 1 m (delK ks (atK 2 ks x)) vs := by
  have e : tabD 2 m ks vs 7 x val = (delK ks (atK 2 ks x), vs, 0, 0) := by
    rw [tabD_mk kv1 (by decide) hx.2, plcFT (by decide) hh]; simp
  have hT := tabD_v h (key := x) (v := val) (code := 7) (by unfold U64; omega) hv
  rw [e] at hT
  exact ⟨e, hT, h.dele kv1 hm0 hm hx.1 hh hT (mem_del h kv1 hh _ (fun q => by cases q))⟩
end
end Go.Proofs.YtnplgklnkcjmnaaDoor.DcT
namespace Go.Proofs.YtnplgklnkcjmnaaDoor.DcT
open Go.RowKit Go.Proofs.YtnplgklnkcjmnaaDoor.Am Go.Proofs.YtnplgklnkcjmnaaDoor Go.Proofs.YtnplgklnkcjmnaaDoor.PrT
set_option linter.unusedVariables false
set_option linter.unusedSimpArgs false


/-- Is a configuration one of this kind? -/
def cfB (kk k p n : Int) : Bool := fitsB k p n && decide (k = kk)
theorem cfB_t {kk k p n : Int} (h : cfB kk k p n = true) : fitsB k p n = true ∧ k = kk := by
  unfold cfB at h; rw [Bool.and_eq_true] at h; exact ⟨h.1, of_decide_eq_true h.2⟩
noncomputable def opK (v : Nat) (kk k p n : Int) (w : List Int) : List Int := if cfB kk k p n = true then dKs v n.toNat w else []
noncomputable def opV (v : Nat) (kk k p n : Int) (w : List Int) : List Int := if cfB kk k p n = true then dVs v n.toNat w else []
noncomputable def opE (v : Nat) (kk k p n : Int) (w : List Int) : Int := if cfB kk k p n = true then dE v n.toNat w else 5
theorem op_yes {v : Nat} {kk k p n : Int} {w : List Int} (h : cfB kk k p n = true) : opK v kk k p n w = dKs v n.toNat w ∧ opV v kk k p n w = dVs v n.toNat w ∧ opE v kk k p n w = dE v n.toNat w := by
  unfold opK opV opE; rw [if_pos h, if_pos h, if_pos h]; exact ⟨rfl, rfl, rfl⟩
theorem op_no {v : Nat} {kk k p n : Int} {w : List Int} (h : cfB kk k p n = false) : opK v kk k p n w = [] ∧ opV v kk k p n w = [] ∧ opE v kk k p n w = 5 := by
  unfold opK opV opE; rw [h]; exact ⟨rfl, rfl, rfl⟩
/-- What opened words are. -/
theorem op_facts {v : Nat} {kk : Int} (hk : KV v kk) (k p n : Int) {w : List Int} (hu : AllU w) :
    (opE v kk k p n w = 0 ∧ k = kk ∧ fitsB k p n = true ∧ TabV kk n.toNat (opK v kk k p n w) (opV v kk k p n w) ∧ w = encT v n.toNat (opK v kk k p n w) (opV v kk k p n w) ∧ okD v n.toNat w = true) ∨
    ((opE v kk k p n w = 2 ∨ opE v kk k p n w = 5) ∧ opK v kk k p n w = [] ∧ opV v kk k p n w = [] ∧ (cfB kk k p n = true → okD v n.toNat w = false)) := by
  cases hc : cfB kk k p n
  · obtain ⟨e1, e2, e3⟩ := op_no (v := v) (w := w) hc
    exact .inr ⟨.inr e3, e1, e2, fun q => (by cases q)⟩
  · obtain ⟨e1, e2, e3⟩ := op_yes (v := v) (w := w) hc
    obtain ⟨hf, rfl⟩ := cfB_t hc
    have hm := fitsK hf
    cases ho : okD v n.toNat w
    · obtain ⟨d1, d2, d3⟩ := d_no ho
      exact .inr ⟨.inl (e3.trans d3), e1.trans d1, e2.trans d2, fun _ => rfl⟩
    · obtain ⟨d1, d2, d3⟩ := d_yes ho
      obtain ⟨g1, g2⟩ := okD_enc hk (show 0 < n.toNat by omega) (by omega) hu ho
      rw [e1, e2, e3, d1, d2, d3]
      exact .inl ⟨rfl, rfl, hf, g1, g2, rfl⟩
attribute [local irreducible] fitsB rightT ksD vsD okD encT homeI tabT dKs dVs dE
/-- Pairs of keys and values. -/
def prD (ks vs : List Int) : List R := (List.range ks.length).map fun i => (ks.getD i 0, vs.getD i 0)
theorem prD_len (ks vs : List Int) : (prD ks vs).length = ks.length := by simp [prD]
theorem prD_get {ks : List Int} (vs : List Int) {i : Nat} (h : i < ks.length) : gR (prD ks vs) i = (ks.getD i 0, vs.getD i 0) := by
  unfold gR prD; rw [List.getD_eq_getElem?_getD, List.getElem?_map, List.getElem?_range h]; rfl
theorem prD_take {ks : List Int} (vs : List Int) {j : Nat} (h : j < ks.length) : (prD ks vs).take (j + 1) = (prD ks vs).take j ++ [(ks.getD j 0, vs.getD j 0)] := by
  rw [take_snocR (by rw [prD_len]; exact h), prD_get vs h]
attribute [local irreducible] opK opV opE prD
end Go.Proofs.YtnplgklnkcjmnaaDoor.DcT
namespace Go.Proofs.YtnplgklnkcjmnaaDoor.DcT
open Go.RowKit Go.Proofs.YtnplgklnkcjmnaaDoor.Am Go.Proofs.YtnplgklnkcjmnaaDoor Go.Proofs.YtnplgklnkcjmnaaDoor.PrT
set_option linter.unusedVariables false
set_option linter.unusedSimpArgs false


/-- A put, if there is room. -/
def putO (m : Int) (s : List Int × List Int) (p : R) : Option (List Int × List Int) := if (tabD 3 m s.1 s.2 11 p.1 p.2).2.2.1 = 0 then some ((tabD 3 m s.1 s.2 11 p.1 p.2).1, (tabD 3 m s.1 s.2 11 p.1 p.2).2.1) else none
def upS (m : Int) (s : List Int × List Int) (l : List R) : Option (List Int × List Int) := l.foldl (fun o p => o.bind fun s => putO m s p) (some s)
theorem upS_nil (m : Int) (s : List Int × List Int) : upS m s [] = some s := rfl
theorem upS_snoc (m : Int) (s : List Int × List Int) (l : List R) (p : R) : upS m s (l ++ [p]) = (upS m s l).bind fun s => putO m s p := by unfold upS; rw [List.foldl_append]; rfl
theorem upS_none (m : Int) (s : List Int × List Int) (l l' : List R) (h : upS m s l = none) : upS m s (l ++ l') = none := by
  unfold upS at *
  rw [List.foldl_append, h]
  induction l' with
  | nil => rfl
  | cons a l' ih => exact ih
theorem snocI {α : Type} {p : List α → Prop} (h0 : p []) (h1 : ∀ l a, p l → p (l ++ [a])) (l : List α) : p l := by
  have : ∀ n, ∀ l : List α, l.length = n → p l := by
    intro n
    induction n with
    | zero => intro l h; rw [List.eq_nil_of_length_eq_zero h]; exact h0
    | succ n ih =>
      intro l h
      have hne : l ≠ [] := fun e => by rw [e] at h; cases h
      rw [← List.dropLast_concat_getLast hne]
      exact h1 _ _ (ih _ (by rw [List.length_dropLast]; omega))
  exact this _ l rfl
theorem upS_v {m : Nat} {s s' : List Int × List Int} {l : List R} (h : TabV 3 m s.1 s.2) (hl : ∀ r ∈ l, U64 r.1 ∧ U64 r.2) (hu : upS m s l = some s') : TabV 3 m s'.1 s'.2 := by
  revert s'
  refine fun {s'} hu => (snocI (p := fun l => (∀ r ∈ l, U64 r.1 ∧ U64 r.2) → ∀ s', upS m s l = some s' → TabV 3 m s'.1 s'.2) ?_ ?_ l hl) s' hu
  · intro _ s' e; cases e; exact h
  · intro l p ih hl s' e
    rw [upS_snoc] at e
    cases h1 : upS m s l with
    | none => rw [h1] at e; cases e
    | some s1 =>
      rw [h1] at e
      have hT := ih (fun r hr => hl r (List.mem_append_left _ hr)) s1 h1
      have hp := hl p (by simp)
      have e : putO m s1 p = some s' := e
      unfold putO at e
      split at e
      · cases e; exact tabD_v hT hp.1 hp.2
      · cases e
open Classical in
noncomputable def updE (k p n : Int) (w : List Int) (l : List R) : Int := if opE 2 3 k p n w ≠ 0 then opE 2 3 k p n w else if ∃ r ∈ l, r.1 > 4611686018427387904 then 1 else if upS n (opK 2 3 k p n w, opV 2 3 k p n w) l = none then 11 else 0
noncomputable def updS (k p n : Int) (w : List Int) (l : List R) : List Int × List Int := (upS n (opK 2 3 k p n w, opV 2 3 k p n w) l).getD ([], [])
noncomputable def updL (k p n : Int) (w : List Int) (l : List R) : List Int := if updE k p n w l = 0 then encT 2 n.toNat (updS k p n w l).1 (updS k p n w l).2 else []
attribute [local irreducible] fitsB rightT okD encT homeI tabT opK opV opE prD tabD upS recs
/-! ### Apply -/
noncomputable def apL (v : Nat) (kk k p n : Int) (w : List Int) (code key val : Int) : List Int := if opE v kk k p n w = 0 then encT v n.toNat (tabD kk n (opK v kk k p n w) (opV v kk k p n w) code key val).1 (tabD kk n (opK v kk k p n w) (opV v kk k p n w) code key val).2.1 else []
noncomputable def apR (v : Nat) (kk k p n : Int) (w : List Int) (code key val : Int) : Int := if opE v kk k p n w = 0 then (tabD kk n (opK v kk k p n w) (opV v kk k p n w) code key val).2.2.1 else 0
noncomputable def apV (v : Nat) (kk k p n : Int) (w : List Int) (code key val : Int) : Int := if opE v kk k p n w = 0 then (tabD kk n (opK v kk k p n w) (opV v kk k p n w) code key val).2.2.2 else 0
theorem ap_yes {v : Nat} {kk k p n : Int} {w : List Int} {code key val : Int} (h : opE v kk k p n w = 0) : apL v kk k p n w code key val = encT v n.toNat (tabD kk n (opK v kk k p n w) (opV v kk k p n w) code key val).1 (tabD kk n (opK v kk k p n w) (opV v kk k p n w) code key val).2.1 ∧ apR v kk k p n w code key val = (tabD kk n (opK v kk k p n w) (opV v kk k p n w) code key val).2.2.1 ∧ apV v kk k p n w code key val = (tabD kk n (opK v kk k p n w) (opV v kk k p n w) code key val).2.2.2 := by
  unfold apL apR apV; rw [if_pos h, if_pos h, if_pos h]; exact ⟨rfl, rfl, rfl⟩
theorem ap_no {v : Nat} {kk k p n : Int} {w : List Int} {code key val : Int} (h : opE v kk k p n w ≠ 0) : apL v kk k p n w code key val = [] ∧ apR v kk k p n w code key val = 0 ∧ apV v kk k p n w code key val = 0 := by
  unfold apL apR apV; rw [if_neg h, if_neg h, if_neg h]; exact ⟨rfl, rfl, rfl⟩
attribute [local irreducible] apL apR apV
end Go.Proofs.YtnplgklnkcjmnaaDoor.DcT
namespace Go.Proofs.YtnplgklnkcjmnaaDoor.DcT
open Go.RowKit Go.Proofs.YtnplgklnkcjmnaaDoor.Am Go.Proofs.YtnplgklnkcjmnaaDoor Go.Proofs.YtnplgklnkcjmnaaDoor.PrT
set_option linter.unusedVariables false
set_option linter.unusedSimpArgs false


noncomputable def iPairs : Inl := ⟨37, Tryd.f37, bodyOf Tryd.f37, [0, 1, 2]⟩
theorem iPairs_ok : iPairs.ok Tryd.prog := Inl.mk_ok Tryd.func37 (by rfl) (by kernel_rfl) (by kernel_rfl)
noncomputable def iPairs1 : Inl := ⟨60, Tryd.f60, bodyOf Tryd.f60, [0, 1, 4, 9, 10, 11, 12, 22]⟩
theorem iPairs1_ok : iPairs1.ok Tryd.prog := Inl.mk_ok Tryd.func60 (by rfl) (by kernel_rfl) (by kernel_rfl)
noncomputable def ctxOpD_inl : List Inl := [iPairs, iPairs1]
theorem ctxOpD_inlOk : InlOk Tryd.prog ctxOpD_inl := ⟨iPairs_ok, iPairs1_ok, trivial⟩
noncomputable def ctxOpD (P : Program) (h : InlOk P ctxOpD_inl) : Ctx := ctx P glM [eFits, eHome, Go.Proofs.YtnplgklnkcjmnaaDoor.eClone, eRight, eList] [] (noEq P) ctxOpD_inl h.mem
theorem ctxOpD_good : (ctxOpD Tryd.prog ctxOpD_inlOk).good := ctx_good (by kernel_rfl) (AllOk.mem ⟨entry_lift eFits_ok, entry_lift eHome_ok, entry_lift Go.Proofs.YtnplgklnkcjmnaaDoor.eClone_ok, eRight_ok, eList_ok, trivial⟩) glM_two
attribute [local irreducible] fitsB rightT ksD vsD okD encT homeI tabT dKs dVs dE rightB lstP rsK
set_option maxHeartbeats 2000000 in
set_option maxRecDepth 100000 in
theorem openY_pure (p : Int) (m q : Nat) (w ks vs : List Int) (hu : AllU w) (hf : fitsB 3 p m = true) (hT : TabV 3 m ks vs) (hw : w = encT 2 m ks vs) : Pure Tryd.prog glM 22 [.agg [.v (.int .i64 3), .v (.int .i64 p), .v (.int .i64 m)], .fl [.u64] q w] (.tup [.op 0 0 3 0 3, .v (.int .i64 0)]) [(0, .cs [.v (.int .u64 m), .v (.int .u64 ks.length), .ow 1 1 (4 * m)]), (1, .fl [.u64] (tabT 2 m ks vs))] := by
  refine pure_wf fun hww => ?_
  obtain ⟨-, ⟨w1, w2⟩, -⟩ := hww
  simp only [List.length_cons, List.length_nil, Nat.zero_add, Nat.mul_one] at w1
  have hm := fitsK hf
  have hh := home_v (m := m) kv2
  have hel := hT.enc_len kv2
  have htb := hT.tb kv2
  obtain ⟨hr, -, -⟩ := htb.facts (.inr rfl) (by omega) (by omega)
  have hls : lstP 2 (tabT 2 m ks vs) = rsK 2 ks vs := hT.lst kv2 (by omega) (by omega)
  have hd : w.drop 1 = tabT 2 m ks vs := by rw [hw]; unfold encT; rfl
  have h0 : w.getD 0 0 = ks.length := by rw [hw]; unfold encT; rfl
  rw [hw, hel] at w1
  have hkl := hT.len
  have hku : ∀ i, i < ks.length → 0 ≤ ks.getD i 0 ∧ ks.getD i 0 ≤ 4611686018427387904 := fun i hi => hT.k_u kv2 hi
  have htl : (tabT 2 m ks vs).length = 4 * m := by rw [htb.len]; omega
  have htu := htb.u
  have hrl := rsK_len 2 ks vs
  refine pure_of (C := ctxOpD Tryd.prog ctxOpD_inlOk) ctxOpD_good Tryd.func22 (c := bodyOf Tryd.f22) (by rfl) (Nat.le_of_ble_eq_true (by rfl)) 4 4 [0, 1, 2, 4, 5, 6, 7, 8, 17, 38, 39, 40, 49, 68] ?_
  conv => whnf
  rw [hf]
  conv => whnf
  refine And.intro hf ?_
  conv => whnf
  rw [hh, w1]
  refine ifB_f (by simp) ?_
  conv => whnf
  refine And.intro (by omega) ?_
  conv => whnf
  rw [show cutN (0 + 1) (some 1) none w = w.drop 1 from rfl, hd]
  refine And.intro ⟨by dsimp only [cutL]; omega, htu⟩ ?_
  conv => whnf
  rw [show rightB 2 (tabT 2 m ks vs) = true from hr]
  conv => whnf
  refine And.intro (by omega) ?_
  conv => whnf
  rw [show cutN (0 + 1) (some 1) none w = w.drop 1 from rfl, hd, show cutL q (some 1) none = 4 * m by dsimp only [cutL]; omega]
  repeat (refine And.intro (by first | omega | exact ⟨by omega, htu⟩) ?_; conv => whnf)
  intro l
  conv => whnf
  repeat (refine And.intro (by first | omega | exact ⟨by omega, htu⟩) ?_; conv => whnf)
  rw [hls, hrl]
  rw [show IntKind.u64.wrap ((m : Nat) : Int) = m from wrapU (by omega) (by omega)]
  refine TW.loopD ctxOpD_good 3 (base := 7000000) (lv := [0, 1, 4, 9, 10, 11, 12, 22]) [11] [144] [(144, 144)] (fun j : Nat => [.v (.int .i64 j)]) (fun j => [.cs [.v (.int .u64 m), .v (.int .u64 j), .ow 136 1 (4 * m)]]) (fun j => j ≤ ks.length) (fun j => ks.length - j) ?_
  conv => whnf
  refine ⟨⟨0, ⟨rfl, rfl, rfl⟩, Nat.zero_le _⟩, fun j hj => ?_⟩
  replace hj : j ≤ ks.length := hj
  conv => whnf
  refine ifB_dec (fun h => ?_) (fun h => ?_)
  · replace h : (j : Int) < ks.length := h
    obtain ⟨k1, k2⟩ := hku j (by omega)
    have E0 : (flat 2 (rsK 2 ks vs)).getD (0 + addN 0 (j : Int).toNat * (1 + 1) + 0) 0 = ks.getD j 0 + 1 := by
      rw [addN_eq, show 0 + (0 + (j : Int).toNat) * (1 + 1) + 0 = j * 2 by omega, flat_key (.inr rfl) _ (by rw [hrl]; omega)]
      unfold kR; rw [rsK_get 2 ks vs (by omega)]
    have e1 : IntKind.u64.wrap (ks.getD j 0 + 1 - 1) = ks.getD j 0 := by rw [wrapU (by omega) (by omega)]; omega
    conv => whnf
    repeat (first | (refine And.intro (by omega) ?_; conv => whnf))
    refine ifB_f (by show decide (IntKind.u64.wrap ((flat 2 (rsK 2 ks vs)).getD (0 + addN 0 (j : Int).toNat * (1 + 1) + 0) 0 - 1) > 4611686018427387904) = false; rw [E0, e1]; exact decide_eq_false (by omega)) ?_
    conv => whnf
    repeat (first | (refine And.intro (by first | rfl | omega) ?_; conv => whnf))
    rw [wsucc (j := j) (n := ks.length) (by omega) (by omega), show IntKind.u64.wrap ((j : Int) + 1) = ((j + 1 : Nat) : Int) by rw [wrapU (by omega) (by omega)]; omega]
    exact ⟨j + 1, [(144, 144)], ⟨rfl, rfl, rfl⟩, (by omega : j + 1 ≤ ks.length), by dsimp only; omega⟩
  · replace h : ¬ (j : Int) < ks.length := h
    obtain rfl : j = ks.length := by omega
    conv => whnf
    repeat (first | (refine And.intro (by first | rfl | omega) ?_; conv => whnf))
    refine ifB_f (by show ((ks.length : Int) != w.getD 0 0) = false; rw [h0]; simp) ?_
    conv => whnf
    refine ifB_f (show (bif false then true else decide ((ks.length : Int) > m)) = false from decide_eq_false (by omega)) ?_
    conv => whnf
    repeat' (first | exact trivial | exact rfl | (refine And.intro ?_ ?_) | ((conv => whnf); done) | ((conv => whnf); (first | rfl | (refine congrArg (fun b => T.v (Value.bool b)) ?_; first | rfl | exact (decide_eq_true (by omega)).symm | exact (decide_eq_false (by omega)).symm | exact decide_eq_decide.2 (by omega)) | (refine congrArg (fun b => T.v (Value.int _ b)) ?_; first | rfl | omega) | omega)) | (first | rfl | (refine congrArg (fun b => T.v (Value.bool b)) ?_; first | rfl | exact (decide_eq_true (by omega)).symm | exact (decide_eq_false (by omega)).symm | exact decide_eq_decide.2 (by omega)) | (refine congrArg (fun b => T.v (Value.int _ b)) ?_; first | rfl | omega) | omega))
set_option maxHeartbeats 4000000 in
set_option maxRecDepth 100000 in
theorem openN_pure (k p n : Int) (q : Nat) (w : List Int) (hu : AllU w) (hq : q ≤ 10000) (hN : opE 2 3 k p n w ≠ 0) : Pure Tryd.prog glM 22 [.agg [.v (.int .i64 k), .v (.int .i64 p), .v (.int .i64 n)], .fl [.u64] q w] (.tup [.v (.pointer none), .v (.int .i64 (opE 2 3 k p n w))]) := by
  refine pure_wf fun hww => ?_
  obtain ⟨-, ⟨w1, w2⟩, -⟩ := hww
  simp only [List.length_cons, List.length_nil, Nat.zero_add, Nat.mul_one] at w1
  rcases op_facts kv2 k p n hu with ⟨e0, -⟩ | ⟨-, -, -, hO⟩
  · exact absurd e0 hN
  cases hc : cfB 3 k p n
  · obtain ⟨-, -, e3⟩ := op_no (v := 2) (w := w) hc
    rw [e3]
    refine pure_of (C := ctxOpD Tryd.prog ctxOpD_inlOk) ctxOpD_good Tryd.func22 (c := bodyOf Tryd.f22) (by rfl) (Nat.le_of_ble_eq_true (by rfl)) 4 4 [0, 1, 2, 4, 5, 6, 7, 8, 17, 38, 39, 40, 49, 68] ?_
    conv => whnf
    cases hf : fitsB k p n
    · conv => whnf
      repeat' (first | exact trivial | exact rfl | (refine And.intro ?_ ?_) | ((conv => whnf); done) | ((conv => whnf); (first | rfl | (refine congrArg (fun b => T.v (Value.bool b)) ?_; first | rfl | exact (decide_eq_true (by omega)).symm | exact (decide_eq_false (by omega)).symm | exact decide_eq_decide.2 (by omega)) | (refine congrArg (fun b => T.v (Value.int _ b)) ?_; first | rfl | omega) | omega)) | (first | rfl | (refine congrArg (fun b => T.v (Value.bool b)) ?_; first | rfl | exact (decide_eq_true (by omega)).symm | exact (decide_eq_false (by omega)).symm | exact decide_eq_decide.2 (by omega)) | (refine congrArg (fun b => T.v (Value.int _ b)) ?_; first | rfl | omega) | omega))
    · have hk3 : k ≠ 3 := fun e => by unfold cfB at hc; rw [hf, e] at hc; cases hc
      conv => whnf
      refine ifB_t (show (bif false then true else (k != 3)) = true by simpa using hk3) ?_
      conv => whnf
      repeat' (first | exact trivial | exact rfl | (refine And.intro ?_ ?_) | ((conv => whnf); done) | ((conv => whnf); (first | rfl | (refine congrArg (fun b => T.v (Value.bool b)) ?_; first | rfl | exact (decide_eq_true (by omega)).symm | exact (decide_eq_false (by omega)).symm | exact decide_eq_decide.2 (by omega)) | (refine congrArg (fun b => T.v (Value.int _ b)) ?_; first | rfl | omega) | omega)) | (first | rfl | (refine congrArg (fun b => T.v (Value.bool b)) ?_; first | rfl | exact (decide_eq_true (by omega)).symm | exact (decide_eq_false (by omega)).symm | exact decide_eq_decide.2 (by omega)) | (refine congrArg (fun b => T.v (Value.int _ b)) ?_; first | rfl | omega) | omega))
  · have ho := hO hc
    obtain ⟨-, -, e3⟩ := op_yes (v := 2) (w := w) hc
    rw [(d_no ho).2.2] at e3
    rw [e3]
    obtain ⟨hf, rfl⟩ := cfB_t hc
    have hm := fitsK hf
    obtain ⟨m, rfl⟩ := Int.eq_ofNat_of_zero_le (a := n) (by omega)
    rw [Int.toNat_natCast] at ho
    have hh := home_v (m := m) kv2
    have htu : AllU (w.drop 1) := fun x hx => hu x (List.mem_of_mem_drop hx)
    have hll := lst_len ((2 : Nat) : Int) (w.drop 1)
    rw [List.length_drop] at hll
    have hlm := fun r hr => lst_mem (v := ((2 : Nat) : Int)) (r := r) htu hr
    by_cases hl : q = 1 + 2 * m * 2
    · cases hr : rightB 2 (w.drop 1)
      · refine pure_of (C := ctxOpD Tryd.prog ctxOpD_inlOk) ctxOpD_good Tryd.func22 (c := bodyOf Tryd.f22) (by rfl) (Nat.le_of_ble_eq_true (by rfl)) 4 4 [0, 1, 2, 4, 5, 6, 7, 8, 17, 38, 39, 40, 49, 68] ?_
        conv => whnf
        rw [hf]
        conv => whnf
        refine And.intro hf ?_
        conv => whnf
        rw [hh, ← hl]
        refine ifB_f (by simp) ?_
        conv => whnf
        refine And.intro (by omega) ?_
        conv => whnf
        rw [show cutN (0 + 1) (some 1) none w = w.drop 1 from rfl]
        refine And.intro ⟨by dsimp only [cutL]; omega, htu⟩ ?_
        conv => whnf
        rw [hr]
        conv => whnf
        repeat' (first | exact trivial | exact rfl | (refine And.intro ?_ ?_) | ((conv => whnf); done) | ((conv => whnf); (first | rfl | (refine congrArg (fun b => T.v (Value.bool b)) ?_; first | rfl | exact (decide_eq_true (by omega)).symm | exact (decide_eq_false (by omega)).symm | exact decide_eq_decide.2 (by omega)) | (refine congrArg (fun b => T.v (Value.int _ b)) ?_; first | rfl | omega) | omega)) | (first | rfl | (refine congrArg (fun b => T.v (Value.bool b)) ?_; first | rfl | exact (decide_eq_true (by omega)).symm | exact (decide_eq_false (by omega)).symm | exact decide_eq_decide.2 (by omega)) | (refine congrArg (fun b => T.v (Value.int _ b)) ?_; first | rfl | omega) | omega))
      · have hbad : (∀ r ∈ lstP 2 (w.drop 1), r.1 ≤ 4611686018427387905) → w.getD 0 0 = (lstP 2 (w.drop 1)).length → (lstP 2 (w.drop 1)).length ≤ m → False := fun h1 h2 h3 => by
          have : okD 2 m w = true := by
            unfold okD
            exact decide_eq_true ⟨by omega, hr, h1, h2, h3⟩
          rw [ho] at this; cases this
        rw [show (((2 : Nat) : Int)) = 2 from rfl] at hll hlm
        refine pure_of (C := ctxOpD Tryd.prog ctxOpD_inlOk) ctxOpD_good Tryd.func22 (c := bodyOf Tryd.f22) (by rfl) (Nat.le_of_ble_eq_true (by rfl)) 4 4 [0, 1, 2, 4, 5, 6, 7, 8, 17, 38, 39, 40, 49, 68] ?_
        conv => whnf
        rw [hf]
        conv => whnf
        refine And.intro hf ?_
        conv => whnf
        rw [hh, ← hl]
        refine ifB_f (by simp) ?_
        conv => whnf
        refine And.intro (by omega) ?_
        conv => whnf
        rw [show cutN (0 + 1) (some 1) none w = w.drop 1 from rfl]
        refine And.intro ⟨by dsimp only [cutL]; omega, htu⟩ ?_
        conv => whnf
        rw [hr]
        conv => whnf
        refine And.intro (by omega) ?_
        conv => whnf
        rw [show cutN (0 + 1) (some 1) none w = w.drop 1 from rfl, show cutL q (some 1) none = 4 * m by dsimp only [cutL]; omega]
        repeat (refine And.intro (by first | omega | exact ⟨by omega, htu⟩) ?_; conv => whnf)
        intro l
        conv => whnf
        repeat (refine And.intro (by first | omega | exact ⟨by omega, htu⟩) ?_; conv => whnf)
        generalize lstP 2 (w.drop 1) = L at *
        rw [show IntKind.u64.wrap ((m : Nat) : Int) = m from wrapU (by omega) (by omega)]
        refine TW.loopD ctxOpD_good 3 (base := 7000000) (lv := [0, 1, 4, 9, 10, 11, 12, 22]) [11] [144] [(144, 144)] (fun j : Nat => [.v (.int .i64 j)]) (fun j => [.cs [.v (.int .u64 m), .v (.int .u64 j), .ow 136 1 (4 * m)]]) (fun j => j ≤ L.length ∧ ∀ i, i < j → (gR L i).1 ≤ 4611686018427387905) (fun j => L.length - j) ?_
        conv => whnf
        refine ⟨⟨0, ⟨rfl, rfl, rfl⟩, Nat.zero_le _, fun i hi => by omega⟩, fun j ⟨hj, hg⟩ => ?_⟩
        conv => whnf
        refine ifB_dec (fun h => ?_) (fun h => ?_)
        · replace h : (j : Int) < L.length := h
          obtain ⟨⟨u1, u2⟩, -, u3⟩ := hlm _ (gR_mem (T := L) (j := j) (by omega))
          have E0 : (flat 2 L).getD (0 + addN 0 (j : Int).toNat * (1 + 1) + 0) 0 = (gR L j).1 := by
            rw [addN_eq, show 0 + (0 + (j : Int).toNat) * (1 + 1) + 0 = j * 2 by omega]; exact flat_key (.inr rfl) _ (by omega)
          have e1 : IntKind.u64.wrap ((gR L j).1 - 1) = (gR L j).1 - 1 := wrapU (by omega) (by omega)
          conv => whnf
          repeat (first | (refine And.intro (by omega) ?_; conv => whnf))
          by_cases hb : (gR L j).1 ≤ 4611686018427387905
          · refine ifB_f (by show decide (IntKind.u64.wrap ((flat 2 L).getD (0 + addN 0 (j : Int).toNat * (1 + 1) + 0) 0 - 1) > 4611686018427387904) = false; rw [E0, e1]; exact decide_eq_false (by omega)) ?_
            conv => whnf
            repeat (first | (refine And.intro (by first | rfl | omega) ?_; conv => whnf))
            rw [wsucc (j := j) (n := L.length) (by omega) (by omega), show IntKind.u64.wrap ((j : Int) + 1) = ((j + 1 : Nat) : Int) by rw [wrapU (by omega) (by omega)]; omega]
            refine ⟨j + 1, [(144, 144)], ⟨rfl, rfl, rfl⟩, ⟨(by omega : j + 1 ≤ L.length), fun i hi => ?_⟩, by dsimp only; omega⟩
            by_cases z : i = j
            · rw [z]; exact hb
            · exact hg i (by omega)
          · refine ifB_t (by show decide (IntKind.u64.wrap ((flat 2 L).getD (0 + addN 0 (j : Int).toNat * (1 + 1) + 0) 0 - 1) > 4611686018427387904) = true; rw [E0, e1]; exact decide_eq_true (by omega)) ?_
            conv => whnf
            repeat (first | (refine And.intro (by first | rfl | omega) ?_; conv => whnf))
            repeat' (first | exact trivial | exact rfl | (refine And.intro ?_ ?_) | ((conv => whnf); done) | ((conv => whnf); (first | rfl | (refine congrArg (fun b => T.v (Value.bool b)) ?_; first | rfl | exact (decide_eq_true (by omega)).symm | exact (decide_eq_false (by omega)).symm | exact decide_eq_decide.2 (by omega)) | (refine congrArg (fun b => T.v (Value.int _ b)) ?_; first | rfl | omega) | omega)) | (first | rfl | (refine congrArg (fun b => T.v (Value.bool b)) ?_; first | rfl | exact (decide_eq_true (by omega)).symm | exact (decide_eq_false (by omega)).symm | exact decide_eq_decide.2 (by omega)) | (refine congrArg (fun b => T.v (Value.int _ b)) ?_; first | rfl | omega) | omega))
        · replace h : ¬ (j : Int) < L.length := h
          obtain rfl : j = L.length := by omega
          have hall : ∀ r ∈ L, r.1 ≤ 4611686018427387905 := fun r hr => by
            obtain ⟨i, hi, rfl⟩ := List.getElem_of_mem hr
            have := hg i hi
            unfold gR at this; rw [List.getD_eq_getElem?_getD, List.getElem?_eq_getElem hi] at this
            exact this
          have hb2 := hbad hall
          conv => whnf
          repeat (first | (refine And.intro (by first | rfl | omega) ?_; conv => whnf))
          by_cases hz : w.getD 0 0 = L.length
          · refine ifB_f (by show ((L.length : Int) != w.getD 0 0) = false; rw [hz]; simp) ?_
            conv => whnf
            refine ifB_t (show (bif false then true else decide ((L.length : Int) > m)) = true from decide_eq_true (by have h9 : ¬ L.length ≤ m := hb2 hz; omega)) ?_
            conv => whnf
            repeat' (first | exact trivial | exact rfl | (refine And.intro ?_ ?_) | ((conv => whnf); done) | ((conv => whnf); (first | rfl | (refine congrArg (fun b => T.v (Value.bool b)) ?_; first | rfl | exact (decide_eq_true (by omega)).symm | exact (decide_eq_false (by omega)).symm | exact decide_eq_decide.2 (by omega)) | (refine congrArg (fun b => T.v (Value.int _ b)) ?_; first | rfl | omega) | omega)) | (first | rfl | (refine congrArg (fun b => T.v (Value.bool b)) ?_; first | rfl | exact (decide_eq_true (by omega)).symm | exact (decide_eq_false (by omega)).symm | exact decide_eq_decide.2 (by omega)) | (refine congrArg (fun b => T.v (Value.int _ b)) ?_; first | rfl | omega) | omega))
          · refine ifB_t (by show ((L.length : Int) != w.getD 0 0) = true; simp; exact fun e => hz e.symm) ?_
            conv => whnf
            repeat' (first | exact trivial | exact rfl | (refine And.intro ?_ ?_) | ((conv => whnf); done) | ((conv => whnf); (first | rfl | (refine congrArg (fun b => T.v (Value.bool b)) ?_; first | rfl | exact (decide_eq_true (by omega)).symm | exact (decide_eq_false (by omega)).symm | exact decide_eq_decide.2 (by omega)) | (refine congrArg (fun b => T.v (Value.int _ b)) ?_; first | rfl | omega) | omega)) | (first | rfl | (refine congrArg (fun b => T.v (Value.bool b)) ?_; first | rfl | exact (decide_eq_true (by omega)).symm | exact (decide_eq_false (by omega)).symm | exact decide_eq_decide.2 (by omega)) | (refine congrArg (fun b => T.v (Value.int _ b)) ?_; first | rfl | omega) | omega))
    · refine pure_of (C := ctxOpD Tryd.prog ctxOpD_inlOk) ctxOpD_good Tryd.func22 (c := bodyOf Tryd.f22) (by rfl) (Nat.le_of_ble_eq_true (by rfl)) 4 4 [0, 1, 2, 4, 5, 6, 7, 8, 17, 38, 39, 40, 49, 68] ?_
      conv => whnf
      rw [hf]
      conv => whnf
      refine And.intro hf ?_
      conv => whnf
      rw [hh]
      refine ifB_t (by simp; omega) ?_
      conv => whnf
      repeat' (first | exact trivial | exact rfl | (refine And.intro ?_ ?_) | ((conv => whnf); done) | ((conv => whnf); (first | rfl | (refine congrArg (fun b => T.v (Value.bool b)) ?_; first | rfl | exact (decide_eq_true (by omega)).symm | exact (decide_eq_false (by omega)).symm | exact decide_eq_decide.2 (by omega)) | (refine congrArg (fun b => T.v (Value.int _ b)) ?_; first | rfl | omega) | omega)) | (first | rfl | (refine congrArg (fun b => T.v (Value.bool b)) ?_; first | rfl | exact (decide_eq_true (by omega)).symm | exact (decide_eq_false (by omega)).symm | exact decide_eq_decide.2 (by omega)) | (refine congrArg (fun b => T.v (Value.int _ b)) ?_; first | rfl | omega) | omega))
noncomputable def eOpenDY : Entry := ⟨22, 6, fun l => match l with
  | [.agg [.v (.int .i64 k), .v (.int .i64 p), .v (.int .i64 n)], .fl [.u64] q w] => some (some (AllU w ∧ opE 2 3 k p n w = 0), .tup [.op 0 0 3 0 3, .v (.int .i64 0)], [(0, .cs [.v (.int .u64 n), .v (.int .u64 (opK 2 3 k p n w).length), .ow 1 1 (4 * n.toNat)]), (1, .fl [.u64] (tabT 2 n.toNat (opK 2 3 k p n w) (opV 2 3 k p n w)))])
  | _ => none⟩
theorem eOpenDY_ok : eOpenDY.ok Tryd.prog glM := ⟨Am.enters_of Tryd.func22 (by kernel_rfl) (by kernel_rfl), by
  intro args c t bs h hc
  simp only [eOpenDY] at h
  split at h <;> cases h
  rename_i k p n q w
  obtain ⟨hu, h0⟩ := hc _ rfl
  rcases op_facts kv2 k p n hu with ⟨-, rfl, hf, hT, hE, -⟩ | ⟨h1, -⟩
  · have hm := fitsK hf
    obtain ⟨m, rfl⟩ := Int.eq_ofNat_of_zero_le (a := n) (by omega)
    rw [Int.toNat_natCast] at hT hE
    exact openY_pure p m q w _ _ hu hf hT hE
  · omega⟩
noncomputable def eOpenDN : Entry := ⟨22, 6, fun l => match l with
  | [.agg [.v (.int .i64 k), .v (.int .i64 p), .v (.int .i64 n)], .fl [.u64] q w] => some (some (AllU w ∧ q ≤ 10000 ∧ opE 2 3 k p n w ≠ 0), .tup [.v (.pointer none), .v (.int .i64 (opE 2 3 k p n w))], [])
  | _ => none⟩
theorem eOpenDN_ok : eOpenDN.ok Tryd.prog glM := ⟨Am.enters_of Tryd.func22 (by kernel_rfl) (by kernel_rfl), by
  intro args c t bs h hc
  simp only [eOpenDN] at h
  split at h <;> cases h
  rename_i k p n q w
  obtain ⟨hu, hq, h0⟩ := hc _ rfl
  exact openN_pure k p n q w hu hq h0⟩
end Go.Proofs.YtnplgklnkcjmnaaDoor.DcT
namespace Go.Proofs.YtnplgklnkcjmnaaDoor.DcT
open Go.RowKit Go.Proofs.YtnplgklnkcjmnaaDoor.Am Go.Proofs.YtnplgklnkcjmnaaDoor Go.Proofs.YtnplgklnkcjmnaaDoor.PrT
set_option linter.unusedVariables false
set_option linter.unusedSimpArgs false


noncomputable def ctxWdD (P : Program) : Ctx := ctx P glM [] [] (noEq P) [] (fun _ h => by cases h)
theorem ctxWdD_good : (ctxWdD Tryd.prog).good := ctx_good (by kernel_rfl) (fun _ h => by cases h) glM_two
set_option maxRecDepth 100000 in
theorem wordsD_pure (most cnt : Int) (n : Nat) (t : List Int) (hn : n ≤ 100000) : Pure Tryd.prog glM 26 [.sp [.v (.int .u64 most), .v (.int .u64 cnt), .fl [.u64] n t] 0] (.ow 0 1 (1 + n)) [(0, .fl [.u64] (cnt :: t))] := by
  refine pure_of (C := ctxWdD Tryd.prog) ctxWdD_good Tryd.func26 (c := bodyOf Tryd.f26) (by rfl) (Nat.le_of_ble_eq_true (by rfl)) 4 0 [0, 2] ?_
  conv => whnf
  repeat (refine And.intro (by omega) ?_; conv => whnf)
  repeat' (first | exact trivial | exact rfl | (refine And.intro ?_ ?_) | ((conv => whnf); done) | ((conv => whnf); (first | rfl | (refine congrArg (fun b => T.v (Value.bool b)) ?_; first | rfl | exact (decide_eq_true (by omega)).symm | exact (decide_eq_false (by omega)).symm | exact decide_eq_decide.2 (by omega)) | (refine congrArg (fun b => T.v (Value.int _ b)) ?_; first | rfl | omega) | omega)) | (first | rfl | (refine congrArg (fun b => T.v (Value.bool b)) ?_; first | rfl | exact (decide_eq_true (by omega)).symm | exact (decide_eq_false (by omega)).symm | exact decide_eq_decide.2 (by omega)) | (refine congrArg (fun b => T.v (Value.int _ b)) ?_; first | rfl | omega) | omega))
noncomputable def eWordsD : Entry := ⟨26, 4, fun l => match l with | [.sp [.v (.int .u64 most), .v (.int .u64 cnt), .fl [.u64] n t] 0] => some (some (n ≤ 100000), .ow 0 1 (1 + n), [(0, .fl [.u64] (List.cons cnt t))]) | _ => none⟩
theorem eWordsD_ok : eWordsD.ok Tryd.prog glM := ⟨Am.enters_of Tryd.func26 (by kernel_rfl) (by kernel_rfl), by
  intro args c t bs h hc
  simp only [eWordsD] at h
  split at h <;> cases h
  replace hc := hc _ rfl
  exact wordsD_pure _ _ _ _ hc⟩
noncomputable def iPut : Inl := ⟨25, Tryd.f25, bodyOf Tryd.f25, [0, 1, 2, 6, 7, 8, 9, 17, 26]⟩
theorem iPut_ok : iPut.ok Tryd.prog := Inl.mk_ok Tryd.func25 (by rfl) (by kernel_rfl) (by kernel_rfl)
noncomputable def iGet : Inl := ⟨42, Tryd.f42, bodyOf Tryd.f42, [0, 1, 4, 5, 6, 7, 19]⟩
theorem iGet_ok : iGet.ok Tryd.prog := Inl.mk_ok Tryd.func42 (by rfl) (by kernel_rfl) (by kernel_rfl)
noncomputable def iCon : Inl := ⟨23, Tryd.f23, bodyOf Tryd.f23, [0, 1, 4]⟩
theorem iCon_ok : iCon.ok Tryd.prog := Inl.mk_ok Tryd.func23 (by rfl) (by kernel_rfl) (by kernel_rfl)
noncomputable def iIdx : Inl := ⟨41, Tryd.f41, bodyOf Tryd.f41, [0, 1, 4, 5, 7, 8, 9, 16]⟩
theorem iIdx_ok : iIdx.ok Tryd.prog := Inl.mk_ok Tryd.func41 (by rfl) (by kernel_rfl) (by kernel_rfl)
noncomputable def iUp1 : Inl := ⟨24, Tryd.f24, bodyOf Tryd.f24, [0, 1, 2]⟩
theorem iUp1_ok : iUp1.ok Tryd.prog := Inl.mk_ok Tryd.func24 (by rfl) (by kernel_rfl) (by kernel_rfl)
noncomputable def ctxUpD_inl : List Inl := [iPut, iGet, iCon, iIdx, iUp1]
theorem ctxUpD_inlOk : InlOk Tryd.prog ctxUpD_inl := ⟨iPut_ok, iGet_ok, iCon_ok, iIdx_ok, iUp1_ok, trivial⟩
noncomputable def ctxUpD (P : Program) (h : InlOk P ctxUpD_inl) : Ctx := ctx P glM [eOpenDY, eWordsD, eFindP, ePut] [] (noEq P) ctxUpD_inl h.mem
theorem ctxUpD_good : (ctxUpD Tryd.prog ctxUpD_inlOk).good := ctx_good (by kernel_rfl) (AllOk.mem ⟨eOpenDY_ok, eWordsD_ok, eFindP_ok, ePut_ok, trivial⟩) glM_two
noncomputable def ctxUpN (P : Program) : Ctx := ctx P glM [eOpenDN] [] (noEq P) [] (fun _ h => by cases h)
theorem ctxUpN_good : (ctxUpN Tryd.prog).good := ctx_good (by kernel_rfl) (AllOk.mem ⟨eOpenDN_ok, trivial⟩) glM_two
attribute [local irreducible] fitsB rightT okD encT homeI tabT opK opV opE prD tabD upS recs fndP putL putE hereK atK insK
set_option maxHeartbeats 2000000 in
set_option maxRecDepth 100000 in
theorem update_pure (k p n : Int) (q c : Nat) (w xs : List Int) (hu : AllU w) (hx : AllU xs) (hq : q ≤ 10000) (hc : c ≤ 1000) : Pure Tryd.prog glM 8 [.agg [.v (.int .i64 k), .v (.int .i64 p), .v (.int .i64 n)], .fl [.u64] q w, .fl [.u64, .u64] c xs] (.tup [.ow 0 1 (updL k p n w (recs c 2 xs)).length, .v (.int .i64 (updE k p n w (recs c 2 xs)))]) [(0, .fl [.u64] (updL k p n w (recs c 2 xs)))] := by
  refine pure_wf fun hw => ?_
  obtain ⟨-, ⟨w1, w2⟩, ⟨w3, w4⟩, -⟩ := hw
  simp only [List.length_cons, List.length_nil, Nat.zero_add, Nat.mul_one] at w1 w3
  have hF := op_facts kv2 k p n hu
  have hLl : (recs c 2 xs).length = c := recs_len _ _ _
  have hLg : ∀ j, j < c → gR (recs c 2 xs) j = (xs.getD (j * 2) 0, xs.getD (j * 2 + 1) 0) := fun j hj => recs2_get hj
  have hLu := recs_u (n := c) (v := 2) hx
  generalize hL : recs c 2 xs = L at *
  rcases hF with ⟨e0, rfl, hf, hT, hE, hO⟩ | ⟨e0, -, -, -⟩
  · have hn := fitsK hf
    obtain ⟨m, rfl⟩ := Int.eq_ofNat_of_zero_le (a := n) (by omega)
    rw [Int.toNat_natCast] at hT
    have hex : (∃ r ∈ L, r.1 > 4611686018427387904) → updE 3 p m w L = 1 ∧ updL 3 p m w L = [] := fun h => by
      have : updE 3 p m w L = 1 := by unfold updE; rw [e0, if_neg (fun q => q rfl), if_pos h]
      exact ⟨this, by unfold updL; rw [this, if_neg (by decide)]⟩
    refine pure_of (C := ctxUpD Tryd.prog ctxUpD_inlOk) ctxUpD_good Tryd.func8 (c := bodyOf Tryd.f8) (by rfl) (Nat.le_of_ble_eq_true (by rfl)) 4 4 [0, 1, 2, 3, 6, 7, 8, 9, 11, 13, 21, 24, 25, 26, 27, 28, 41] ?_
    conv => whnf
    refine And.intro ⟨hu, e0⟩ ?_
    conv => whnf
    rw [Int.toNat_natCast]
    refine TW.loopD ctxUpD_good 4 (base := 70000000000) (lv := [0, 1, 4, 5, 7, 8, 9, 16]) [8] [] [] (fun j : Nat => [.v (.int .i64 j)]) (fun _ => []) (fun j => j ≤ c ∧ ∀ i, i < j → kR L i ≤ 4611686018427387904) (fun j => c - j) ?_
    conv => whnf
    refine ⟨⟨0, ⟨rfl, rfl, rfl⟩, Nat.zero_le _, fun i hi => by omega⟩, fun j ⟨hj, hg⟩ => ?_⟩
    conv => whnf
    refine ifB_dec (fun h => ?_) (fun h => ?_)
    · replace h : (j : Int) < c := h
      have E0 : xs.getD (0 + addN 0 (j : Int).toNat * (1 + 1) + 0) 0 = kR L j := by
        unfold kR; rw [hLg j (by omega), addN_eq, show 0 + (0 + (j : Int).toNat) * (1 + 1) + 0 = j * 2 by omega]
      conv => whnf
      repeat (refine And.intro (by omega) ?_; conv => whnf)
      by_cases hb : kR L j ≤ 4611686018427387904
      · refine ifB_f (by show decide (xs.getD (0 + addN 0 (j : Int).toNat * (1 + 1) + 0) 0 > 4611686018427387904) = false; rw [E0]; exact decide_eq_false (by omega)) ?_
        conv => whnf
        repeat (refine And.intro (by omega) ?_; conv => whnf)
        rw [wsucc (j := j) (n := c) (by omega) (by omega)]
        refine ⟨j + 1, [], ⟨rfl, rfl, rfl⟩, ⟨(by omega : j + 1 ≤ c), fun i hi => ?_⟩, by dsimp only; omega⟩
        by_cases z : i = j
        · rw [z]; exact hb
        · exact hg i (by omega)
      · obtain ⟨x1, x2⟩ := hex ⟨gR L j, gR_mem (by omega), by unfold kR at hb; omega⟩
        rw [x1, x2]
        refine ifB_t (by show decide (xs.getD (0 + addN 0 (j : Int).toNat * (1 + 1) + 0) 0 > 4611686018427387904) = true; rw [E0]; exact decide_eq_true (by omega)) ?_
        conv => whnf
        repeat' (first | exact trivial | exact rfl | (refine And.intro ?_ ?_) | ((conv => whnf); done) | ((conv => whnf); (first | rfl | (refine congrArg (fun b => T.v (Value.bool b)) ?_; first | rfl | exact (decide_eq_true (by omega)).symm | exact (decide_eq_false (by omega)).symm | exact decide_eq_decide.2 (by omega)) | (refine congrArg (fun b => T.v (Value.int _ b)) ?_; first | rfl | omega) | omega)) | (first | rfl | (refine congrArg (fun b => T.v (Value.bool b)) ?_; first | rfl | exact (decide_eq_true (by omega)).symm | exact (decide_eq_false (by omega)).symm | exact decide_eq_decide.2 (by omega)) | (refine congrArg (fun b => T.v (Value.int _ b)) ?_; first | rfl | omega) | omega))
    · replace h : ¬ (j : Int) < c := h
      obtain rfl : j = c := by omega
      have hok : ¬ ∃ r ∈ L, r.1 > 4611686018427387904 := by
        rintro ⟨r, hr, hb⟩
        obtain ⟨i, hi, rfl⟩ := List.getElem_of_mem hr
        have := hg i (by omega)
        have e : gR L i = L[i] := by unfold gR; rw [List.getD_eq_getElem?_getD, List.getElem?_eq_getElem hi]; rfl
        unfold kR at this; rw [e] at this
        omega
      have huE : updE 3 p m w L = if upS m (opK 2 3 3 p m w, opV 2 3 3 p m w) L = none then 11 else 0 := by
        unfold updE; rw [e0, if_neg (fun q => q rfl), if_neg hok]
      have huS : updS 3 p m w L = (upS m (opK 2 3 3 p m w, opV 2 3 3 p m w) L).getD ([], []) := rfl
      have huL : updL 3 p m w L = if updE 3 p m w L = 0 then encT 2 (m : Int).toNat (updS 3 p m w L).1 (updS 3 p m w L).2 else [] := rfl
      rw [Int.toNat_natCast] at huL
      conv => whnf
      generalize hk0 : opK 2 3 3 p m w = k0 at *
      generalize hv0 : opV 2 3 3 p m w = v0 at *
      refine TW.loopD ctxUpD_good 4 (base := 0) (lv := [0, 1, 2, 3, 6, 7, 8, 9, 11, 13, 21, 24, 25, 26, 27, 28, 41]) [27] [68, 69] [(68, 68), (69, 69)] (fun x : Nat × List Int × List Int => [.v (.int .i64 x.1)]) (fun x => [.cs [.v (.int .u64 m), .v (.int .u64 x.2.1.length), .ow 69 1 (4 * m)], .fl [.u64] (tabT 2 m x.2.1 x.2.2)]) (fun x => x.1 ≤ j ∧ upS m (k0, v0) (L.take x.1) = some (x.2.1, x.2.2)) (fun x => j - x.1) ?_
      conv => whnf
      refine ⟨⟨(0, k0, v0), ⟨rfl, rfl, rfl⟩, Nat.zero_le _, upS_nil _ _⟩, fun ⟨i, ks, vs⟩ ⟨hi, hs⟩ => ?_⟩
      replace hi : i ≤ j := hi
      replace hs : upS m (k0, v0) (L.take i) = some (ks, vs) := hs
      have hTi : TabV 3 m ks vs := upS_v (s := (k0, v0)) (s' := (ks, vs)) hT (fun r hr => hLu r (List.mem_of_mem_take hr)) hs
      have hkl := hTi.len
      have htb := hTi.tb kv2
      have htu := htb.u
      have htl : (tabT 2 m ks vs).length = 4 * m := by rw [htb.len]; omega
      have hen := hTi.enc_len kv2
      conv => whnf
      refine ifB_dec (fun h => ?_) (fun h => ?_)
      · replace h : (i : Int) < j := h
        obtain ⟨u1, u2⟩ := hLu _ (gR_mem (T := L) (j := i) (by omega))
        have hkm : (gR L i).1 ≤ 4611686018427387904 := hg i (by omega)
        have E0 : xs.getD (0 + addN 0 (i : Int).toNat * (1 + 1) + 0) 0 = (gR L i).1 := by
          rw [hLg i (by omega), addN_eq, show 0 + (0 + (i : Int).toNat) * (1 + 1) + 0 = i * 2 by omega]
        have E1 : xs.getD (0 + addN 0 (i : Int).toNat * (1 + 1) + (0 + 1)) 0 = (gR L i).2 := by
          rw [hLg i (by omega), addN_eq, show 0 + (0 + (i : Int).toNat) * (1 + 1) + (0 + 1) = i * 2 + 1 by omega]
        have hsn : upS m (k0, v0) (L.take (i + 1)) = putO m (ks, vs) (gR L i) := by
          rw [take_snocR (by omega), upS_snoc, hs]; rfl
        have hpu : putO m (ks, vs) (gR L i) = if (tabD 3 m ks vs 11 (gR L i).1 (gR L i).2).2.2.1 = 0 then some ((tabD 3 m ks vs 11 (gR L i).1 (gR L i).2).1, (tabD 3 m ks vs 11 (gR L i).1 (gR L i).2).2.1) else none := rfl
        conv => whnf
        repeat (refine And.intro (by omega) ?_; conv => whnf)
        refine And.intro ⟨by omega, htu⟩ ?_
        conv => whnf
        obtain ⟨f1, f2⟩ := dfnd hTi (by omega) (by omega) (gR L i).1 (by unfold U64 at u1; omega)
        obtain ⟨u1a, u1b⟩ := id u1
        have e1 : IntKind.u64.wrap ((gR L i).1 + 1) = (gR L i).1 + 1 := wrapU (by omega) (by omega)
        have G0 : IntKind.u64.wrap ((([0, 0].set (0 + 0 * (1 + 1) + 0) (xs.getD (0 + (i : Int).toNat * (1 + 1) + 0) 0)).set (0 + 0 * (1 + 1) + (0 + 1)) (xs.getD (0 + (i : Int).toNat * (1 + 1) + (0 + 1)) 0)).getD (0 + 0 * (1 + 1)) 0 + 1) = (gR L i).1 + 1 := by
          show IntKind.u64.wrap (xs.getD (0 + (i : Int).toNat * (1 + 1) + 0) 0 + 1) = _
          rw [show xs.getD (0 + (i : Int).toNat * (1 + 1) + 0) 0 = (gR L i).1 from E0, e1]
        have G1 : (([0, 0].set (0 + 0 * (1 + 1) + 0) (xs.getD (0 + (i : Int).toNat * (1 + 1) + 0) 0)).set (0 + 0 * (1 + 1) + (0 + 1)) (xs.getD (0 + (i : Int).toNat * (1 + 1) + (0 + 1)) 0)).getD (0 + 1 + 0 * (1 + 1)) 0 = (gR L i).2 := E1
        rw [show (((i, ks, vs) : Nat × List Int × List Int).1) = i from rfl, G0]
        cases hh : hereK 3 ks (gR L i).1
        · rw [f2 hh]
          conv => whnf
          by_cases hm2 : ks.length = m
          · have hd := put_full hTi ⟨u1a, hkm⟩ hh hm2 (val := (gR L i).2)
            have hpn : putO m (ks, vs) (gR L i) = none := by unfold putO; dsimp only; rw [hd]; rfl
            have hno : upS m (k0, v0) L = none := by
              rw [← List.take_append_drop (i + 1) L]
              exact upS_none _ _ _ _ (by rw [hsn, hpn])
            rw [hno] at huE
            rw [if_pos rfl] at huE
            rw [huE, if_neg (by decide)] at huL
            rw [huE, huL]
            refine ifB_t (show ((ks.length : Int) == m) = true by simp; omega) ?_
            conv => whnf
            repeat' (first | exact trivial | exact rfl | (refine And.intro ?_ ?_) | ((conv => whnf); done) | ((conv => whnf); (first | rfl | (refine congrArg (fun b => T.v (Value.bool b)) ?_; first | rfl | exact (decide_eq_true (by omega)).symm | exact (decide_eq_false (by omega)).symm | exact decide_eq_decide.2 (by omega)) | (refine congrArg (fun b => T.v (Value.int _ b)) ?_; first | rfl | omega) | omega)) | (first | rfl | (refine congrArg (fun b => T.v (Value.bool b)) ?_; first | rfl | exact (decide_eq_true (by omega)).symm | exact (decide_eq_false (by omega)).symm | exact decide_eq_decide.2 (by omega)) | (refine congrArg (fun b => T.v (Value.int _ b)) ?_; first | rfl | omega) | omega))
          · obtain ⟨hd, hT2, hP⟩ := put_new hTi (by omega) (by omega) ⟨u1a, hkm⟩ u2 hh hm2
            rw [hd, if_pos rfl] at hpu
            refine ifB_f (show ((ks.length : Int) == m) = false by simp; omega) ?_
            conv => whnf
            refine And.intro ⟨by omega, htu, by rw [G0]; unfold U64; omega⟩ ?_
            conv => whnf
            have htl2 : (tabT 2 m (insK ks (atK 3 ks (gR L i).1) (gR L i).1) (insK vs (atK 3 ks (gR L i).1) (gR L i).2)).length = 4 * m := by rw [(hT2.tb kv2).len]; omega
            have hil := insK_len (l := ks) (a := atK 3 ks (gR L i).1) (w := (gR L i).1) (atK_le _ _ _)
            rw [G0, G1, hP, htl2, wsucc (j := i) (n := j) (by omega) (by omega), show IntKind.u64.wrap ((((i, ks, vs) : Nat × List Int × List Int).2.1.length : Int) + 1) = ((insK ks (atK 3 ks (gR L i).1) (gR L i).1).length : Int) by rw [hil, wrapU (by omega) (by dsimp only; omega)]; dsimp only; omega]
            exact ⟨(i + 1, _, _), [(68, 68), (610484, 69)], ⟨rfl, rfl, rfl⟩, ⟨(by omega : i + 1 ≤ j), hsn.trans hpu⟩, by dsimp only; omega⟩
        · obtain ⟨pp, hp, hf1, hf3⟩ := f1 hh
          obtain ⟨hd, hT2, hP⟩ := put_here hTi (by omega) (by omega) ⟨u1a, hkm⟩ u2 hh
          rw [hd, if_pos rfl] at hpu
          have hi2 : IntKind.i64.wrap (IntKind.i64.wrap ((pp : Int) * 2) + 1) = ((pp * 2 + 1 : Nat) : Int) := by
            rw [wrap64 (a := (pp : Int) * 2) (by omega) (by omega), wrap64 (by omega) (by omega)]; omega
          rw [hf1]
          conv => whnf
          rw [if_neg (show ¬ (pp : Int) < 0 by omega), hi2]
          refine And.intro (by omega) ?_
          conv => whnf
          refine And.intro ⟨by omega, htu, by rw [G0]; unfold U64; omega⟩ ?_
          conv => whnf
          have htl2 : (tabT 2 m ks (vs.set (atK 3 ks (gR L i).1) (gR L i).2)).length = 4 * m := by rw [(hT2.tb kv2).len]; omega
          rw [G0, G1, hP, htl2, wsucc (j := i) (n := j) (by omega) (by omega)]
          exact ⟨(i + 1, ks, vs.set (atK 3 ks (gR L i).1) (gR L i).2), [(68, 68), (610484, 69)], ⟨rfl, rfl, rfl⟩, ⟨(by omega : i + 1 ≤ j), hsn.trans hpu⟩, by dsimp only; omega⟩
      · replace h : ¬ (i : Int) < j := h
        obtain rfl : i = j := by omega
        conv => whnf
        rw [List.take_of_length_le (by omega)] at hs
        rw [hs] at huE huS
        rw [if_neg (by simp)] at huE
        rw [huE, if_pos rfl, huS] at huL
        rw [huE, huL]
        simp only [Option.getD_some] at *
        rw [hen, show encT 2 m ks vs = (ks.length : Int) :: tabT 2 m ks vs by unfold encT; rfl, show 1 + 2 * m * 2 = 1 + 4 * m by omega]
        refine And.intro (by omega) ?_
        conv => whnf
        repeat' (first | exact trivial | exact rfl | (refine And.intro ?_ ?_) | ((conv => whnf); done) | ((conv => whnf); (first | rfl | (refine congrArg (fun b => T.v (Value.bool b)) ?_; first | rfl | exact (decide_eq_true (by omega)).symm | exact (decide_eq_false (by omega)).symm | exact decide_eq_decide.2 (by omega)) | (refine congrArg (fun b => T.v (Value.int _ b)) ?_; first | rfl | omega) | omega)) | (first | rfl | (refine congrArg (fun b => T.v (Value.bool b)) ?_; first | rfl | exact (decide_eq_true (by omega)).symm | exact (decide_eq_false (by omega)).symm | exact decide_eq_decide.2 (by omega)) | (refine congrArg (fun b => T.v (Value.int _ b)) ?_; first | rfl | omega) | omega))
  · have hne : opE 2 3 k p n w ≠ 0 := by omega
    have e1 : updE k p n w L = opE 2 3 k p n w := by unfold updE; rw [if_pos hne]
    have e2 : updL k p n w L = [] := by unfold updL; rw [e1, if_neg hne]
    rw [e1, e2]
    refine pure_of (C := ctxUpN Tryd.prog) ctxUpN_good Tryd.func8 (c := bodyOf Tryd.f8) (by rfl) (Nat.le_of_ble_eq_true (by rfl)) 4 0 [0, 1, 2, 3, 6, 7, 8, 9, 11, 13, 21, 24, 25, 26, 27, 28, 41] ?_
    conv => whnf
    refine And.intro ⟨hu, hq, hne⟩ ?_
    conv => whnf
    refine ifB_ne (fun h => ?_) (fun h => absurd h hne)
    conv => whnf
    repeat' (first | exact trivial | exact rfl | (refine And.intro ?_ ?_) | ((conv => whnf); done) | ((conv => whnf); (first | rfl | (refine congrArg (fun b => T.v (Value.bool b)) ?_; first | rfl | exact (decide_eq_true (by omega)).symm | exact (decide_eq_false (by omega)).symm | exact decide_eq_decide.2 (by omega)) | (refine congrArg (fun b => T.v (Value.int _ b)) ?_; first | rfl | omega) | omega)) | (first | rfl | (refine congrArg (fun b => T.v (Value.bool b)) ?_; first | rfl | exact (decide_eq_true (by omega)).symm | exact (decide_eq_false (by omega)).symm | exact decide_eq_decide.2 (by omega)) | (refine congrArg (fun b => T.v (Value.int _ b)) ?_; first | rfl | omega) | omega))
end Go.Proofs.YtnplgklnkcjmnaaDoor.DcT
namespace Go.Proofs.YtnplgklnkcjmnaaDoor.DcT
open Go.RowKit Go.Proofs.YtnplgklnkcjmnaaDoor.Am Go.Proofs.YtnplgklnkcjmnaaDoor Go.Proofs.YtnplgklnkcjmnaaDoor.PrT
set_option linter.unusedVariables false
set_option linter.unusedSimpArgs false


noncomputable def eUpdate : Entry := ⟨8, 8, fun l => match l with
  | [.agg [.v (.int .i64 k), .v (.int .i64 p), .v (.int .i64 n)], .fl [.u64] q w, .fl [.u64, .u64] c xs] => some (some (AllU w ∧ AllU xs ∧ q ≤ 10000 ∧ c ≤ 1000), .tup [.ow 0 1 (updL k p n w (recs c 2 xs)).length, .v (.int .i64 (updE k p n w (recs c 2 xs)))], [(0, .fl [.u64] (updL k p n w (recs c 2 xs)))])
  | _ => none⟩
theorem eUpdate_ok : eUpdate.ok Tryd.prog glM := ⟨Am.enters_of Tryd.func8 (by kernel_rfl) (by kernel_rfl), by
  intro args c t bs h hc
  simp only [eUpdate] at h
  split at h <;> cases h
  obtain ⟨h1, h2, h3, h4⟩ := hc _ rfl
  exact update_pure _ _ _ _ _ _ _ h1 h2 h3 h4⟩
noncomputable def ctxPsD_inl : List Inl := [iPairs, iPairs1]
theorem ctxPsD_inlOk : InlOk Tryd.prog ctxPsD_inl := ⟨iPairs_ok, iPairs1_ok, trivial⟩
noncomputable def ctxPsD (P : Program) (h : InlOk P ctxPsD_inl) : Ctx := ctx P glM [eOpenDY, eList] [] (noEq P) ctxPsD_inl h.mem
theorem ctxPsD_good : (ctxPsD Tryd.prog ctxPsD_inlOk).good := ctx_good (by kernel_rfl) (AllOk.mem ⟨eOpenDY_ok, eList_ok, trivial⟩) glM_two
attribute [local irreducible] fitsB rightT okD encT homeI tabT opK opV opE prD lstP rsK
set_option maxHeartbeats 2000000 in
set_option maxRecDepth 100000 in
theorem pairs_pure (k p n : Int) (q : Nat) (w : List Int) (hu : AllU w) (hq : q ≤ 10000) : Pure Tryd.prog glM 20 [.agg [.v (.int .i64 k), .v (.int .i64 p), .v (.int .i64 n)], .fl [.u64] q w] (.tup [.ow 0 2 (opK 2 3 k p n w).length, .v (.int .i64 (opE 2 3 k p n w))]) [(0, .fl [.u64, .u64] (flat 2 (prD (opK 2 3 k p n w) (opV 2 3 k p n w))))] := by
  rcases op_facts kv2 k p n hu with ⟨e0, rfl, hf, hT, -, -⟩ | ⟨e0, e1, e2, -⟩
  · have hn := fitsK hf
    obtain ⟨m, rfl⟩ := Int.eq_ofNat_of_zero_le (a := n) (by omega)
    rw [Int.toNat_natCast] at hT
    refine pure_of (C := ctxPsD Tryd.prog ctxPsD_inlOk) ctxPsD_good Tryd.func20 (c := bodyOf Tryd.f20) (by rfl) (Nat.le_of_ble_eq_true (by rfl)) 4 4 [0, 1, 2, 4, 5, 6, 7, 8, 16, 19, 20, 21] ?_
    conv => whnf
    refine And.intro ⟨hu, e0⟩ ?_
    conv => whnf
    rw [Int.toNat_natCast, e0]
    generalize opK 2 3 3 p m w = ks at *
    generalize opV 2 3 3 p m w = vs at *
    have hkl := hT.len
    have hku : ∀ i, i < ks.length → 0 ≤ ks.getD i 0 ∧ ks.getD i 0 ≤ 4611686018427387904 := fun i hi => hT.k_u kv2 hi
    have htb := hT.tb kv2
    have htu := htb.u
    have hls : lstP 2 (tabT 2 m ks vs) = rsK 2 ks vs := hT.lst kv2 (by omega) (by omega)
    have hrl := rsK_len 2 ks vs
    intro l
    conv => whnf
    repeat (refine And.intro (by first | omega | exact ⟨by omega, htu⟩) ?_; conv => whnf)
    rw [hls, hrl]
    refine TW.nilOwnB 16 0 5000 2 _ (.fl [.u64, .u64] []) rfl rfl rfl (.inr ⟨_, _, rfl⟩) (by decide) ?_
    refine TW.loopD ctxPsD_good 4 (base := 7000000) (lv := [0, 1, 4, 9, 10, 11, 12, 22]) [11] [16, 5000] [(16, 16), (5000, 5000)] (fun j : Nat => [.v (.int .i64 j)]) (fun j => [.cs [.ow 5000 2 j], .fl [.u64, .u64] (flat 2 ((prD ks vs).take j))]) (fun j => j ≤ ks.length) (fun j => ks.length - j) ?_
    conv => whnf
    refine ⟨⟨0, ⟨rfl, rfl, rfl⟩, Nat.zero_le _⟩, fun j hj => ?_⟩
    replace hj : j ≤ ks.length := hj
    conv => whnf
    refine ifB_dec (fun h => ?_) (fun h => ?_)
    · replace h : (j : Int) < ks.length := h
      have hs := prD_take vs (ks := ks) (j := j) (by omega)
      obtain ⟨k1, k2⟩ := hku j (by omega)
      have E0 : (flat 2 (rsK 2 ks vs)).getD (0 + addN 0 (j : Int).toNat * (1 + 1) + 0) 0 = ks.getD j 0 + 1 := by
        rw [addN_eq, show 0 + (0 + (j : Int).toNat) * (1 + 1) + 0 = j * 2 by omega, flat_key (.inr rfl) _ (by rw [hrl]; omega)]
        unfold kR; rw [rsK_get 2 ks vs (by omega)]
      have E1 : (flat 2 (rsK 2 ks vs)).getD (0 + addN 0 (j : Int).toNat * (1 + 1) + (0 + 1)) 0 = vs.getD j 0 := by
        rw [addN_eq, show 0 + (0 + (j : Int).toNat) * (1 + 1) + (0 + 1) = j * 2 + 1 by omega, flat_val _ (by rw [hrl]; omega), rsK_get 2 ks vs (by omega)]
        rfl
      have e1 : IntKind.u64.wrap (ks.getD j 0 + 1 - 1) = ks.getD j 0 := by rw [wrapU (by omega) (by omega)]; omega
      conv => whnf
      repeat (refine And.intro (by first | rfl | omega | (show j + 1 ≤ 1099511627776; omega)) ?_; conv => whnf)
      rw [wsucc (j := j) (n := ks.length) (by omega) (by omega)]
      refine ⟨j + 1, [(16, 16), (28672348276, 5000)], ⟨rfl, rfl, ?_⟩, (by omega : j + 1 ≤ ks.length), by dsimp only; omega⟩
      have G : flat 2 ((prD ks vs).take (j + 1)) = flat 2 ((prD ks vs).take j) ++ [IntKind.u64.wrap ((flat 2 (rsK 2 ks vs)).getD (0 + addN 0 (j : Int).toNat * (1 + 1) + 0) 0 - 1), (flat 2 (rsK 2 ks vs)).getD (0 + addN 0 (j : Int).toNat * (1 + 1) + (0 + 1)) 0] := by
        rw [hs, flat_append, E0, E1, e1]; rfl
      show _ = (16, Blk.cs [Am.T.ow 5000 2 (j + 1)]) :: (5000, Blk.fl [.u64, .u64] (flat 2 ((prD ks vs).take (j + 1)))) :: _
      rw [G]; rfl
    · replace h : ¬ (j : Int) < ks.length := h
      obtain rfl : j = ks.length := by omega
      conv => whnf
      repeat (refine And.intro (by first | rfl | omega) ?_; conv => whnf)
      rw [List.take_of_length_le (by rw [prD_len]; exact Nat.le_refl _)]
      repeat' (first | exact trivial | exact rfl | (refine And.intro ?_ ?_) | ((conv => whnf); done) | ((conv => whnf); (first | rfl | (refine congrArg (fun b => T.v (Value.bool b)) ?_; first | rfl | exact (decide_eq_true (by omega)).symm | exact (decide_eq_false (by omega)).symm | exact decide_eq_decide.2 (by omega)) | (refine congrArg (fun b => T.v (Value.int _ b)) ?_; first | rfl | omega) | omega)) | (first | rfl | (refine congrArg (fun b => T.v (Value.bool b)) ?_; first | rfl | exact (decide_eq_true (by omega)).symm | exact (decide_eq_false (by omega)).symm | exact decide_eq_decide.2 (by omega)) | (refine congrArg (fun b => T.v (Value.int _ b)) ?_; first | rfl | omega) | omega))
  · have hne : opE 2 3 k p n w ≠ 0 := by omega
    rw [e1, e2]
    refine pure_of (C := ctxUpN Tryd.prog) ctxUpN_good Tryd.func20 (c := bodyOf Tryd.f20) (by rfl) (Nat.le_of_ble_eq_true (by rfl)) 4 0 [0, 1, 2, 4, 5, 6, 7, 8, 16, 19, 20, 21] ?_
    conv => whnf
    refine And.intro ⟨hu, hq, hne⟩ ?_
    conv => whnf
    refine ifB_ne (fun h => ?_) (fun h => absurd h hne)
    conv => whnf
    rw [show prD [] [] = [] by unfold prD; rfl]
    repeat' (first | exact trivial | exact rfl | (refine And.intro ?_ ?_) | ((conv => whnf); done) | ((conv => whnf); (first | rfl | (refine congrArg (fun b => T.v (Value.bool b)) ?_; first | rfl | exact (decide_eq_true (by omega)).symm | exact (decide_eq_false (by omega)).symm | exact decide_eq_decide.2 (by omega)) | (refine congrArg (fun b => T.v (Value.int _ b)) ?_; first | rfl | omega) | omega)) | (first | rfl | (refine congrArg (fun b => T.v (Value.bool b)) ?_; first | rfl | exact (decide_eq_true (by omega)).symm | exact (decide_eq_false (by omega)).symm | exact decide_eq_decide.2 (by omega)) | (refine congrArg (fun b => T.v (Value.int _ b)) ?_; first | rfl | omega) | omega))
end Go.Proofs.YtnplgklnkcjmnaaDoor.DcT
namespace Go.Proofs.YtnplgklnkcjmnaaDoor.DcT
open Go.RowKit Go.Proofs.YtnplgklnkcjmnaaDoor.Am Go.Proofs.YtnplgklnkcjmnaaDoor Go.Proofs.YtnplgklnkcjmnaaDoor.PrT
set_option linter.unusedVariables false
set_option linter.unusedSimpArgs false


noncomputable def ePairs : Entry := ⟨20, 8, fun l => match l with
  | [.agg [.v (.int .i64 k), .v (.int .i64 p), .v (.int .i64 n)], .fl [.u64] q w] => some (some (AllU w ∧ q ≤ 10000), .tup [.ow 0 2 (opK 2 3 k p n w).length, .v (.int .i64 (opE 2 3 k p n w))], [(0, .fl [.u64, .u64] (flat 2 (prD (opK 2 3 k p n w) (opV 2 3 k p n w))))])
  | _ => none⟩
theorem ePairs_ok : ePairs.ok Tryd.prog glM := ⟨Am.enters_of Tryd.func20 (by kernel_rfl) (by kernel_rfl), by
  intro args c t bs h hc
  simp only [ePairs] at h
  split at h <;> cases h
  obtain ⟨h1, h2⟩ := hc _ rfl
  exact pairs_pure _ _ _ _ _ h1 h2⟩
noncomputable def iCall : Inl := ⟨27, Tryd.f27, bodyOf Tryd.f27, [0, 1, 2, 4, 5, 6, 7, 8, 11, 14, 17]⟩
theorem iCall_ok : iCall.ok Tryd.prog := Inl.mk_ok Tryd.func27 (by rfl) (by kernel_rfl) (by kernel_rfl)
noncomputable def iCall1 : Inl := ⟨44, Tryd.f44, bodyOf Tryd.f44, [0, 1, 3, 4, 5, 6]⟩
theorem iCall1_ok : iCall1.ok Tryd.prog := Inl.mk_ok Tryd.func44 (by rfl) (by kernel_rfl) (by kernel_rfl)
noncomputable def iCall2 : Inl := ⟨46, Tryd.f46, bodyOf Tryd.f46, [0, 1, 2, 4, 5, 6, 7]⟩
theorem iCall2_ok : iCall2.ok Tryd.prog := Inl.mk_ok Tryd.func46 (by rfl) (by kernel_rfl) (by kernel_rfl)
noncomputable def iCall3 : Inl := ⟨47, Tryd.f47, bodyOf Tryd.f47, [0, 1, 3, 4, 5, 6, 13]⟩
theorem iCall3_ok : iCall3.ok Tryd.prog := Inl.mk_ok Tryd.func47 (by rfl) (by kernel_rfl) (by kernel_rfl)
noncomputable def iCall4 : Inl := ⟨49, Tryd.f49, bodyOf Tryd.f49, [0, 1, 2, 4, 5, 6, 8, 9, 10, 22]⟩
theorem iCall4_ok : iCall4.ok Tryd.prog := Inl.mk_ok Tryd.func49 (by rfl) (by kernel_rfl) (by kernel_rfl)
noncomputable def iUnless : Inl := ⟨45, Tryd.f45, bodyOf Tryd.f45, [0, 1, 4, 5]⟩
theorem iUnless_ok : iUnless.ok Tryd.prog := Inl.mk_ok Tryd.func45 (by rfl) (by kernel_rfl) (by kernel_rfl)
noncomputable def ctxApD_inl : List Inl := [iCall, iCall1, iCall2, iCall3, iCall4, iUnless, iPairs, iPairs1, iGet, iPut]
theorem ctxApD_inlOk : InlOk Tryd.prog ctxApD_inl := ⟨iCall_ok, iCall1_ok, iCall2_ok, iCall3_ok, iCall4_ok, iUnless_ok, iPairs_ok, iPairs1_ok, iGet_ok, iPut_ok, trivial⟩
noncomputable def ctxApD (P : Program) (h : InlOk P ctxApD_inl) : Ctx := ctx P glM [eOpenDY, eWordsD, eFindP, ePut, eDel, eList] [] (noEq P) ctxApD_inl h.mem
theorem ctxApD_good : (ctxApD Tryd.prog ctxApD_inlOk).good := ctx_good (by kernel_rfl) (AllOk.mem ⟨eOpenDY_ok, eWordsD_ok, eFindP_ok, ePut_ok, eDel_ok, eList_ok, trivial⟩) glM_two
attribute [local irreducible] fitsB rightT okD encT homeI tabT opK opV opE prD tabD upS recs fndP putL putE delL delE hereK atK insK delK nxK lstP rsK
section
variable {p : Int} {m q : Nat} {w : List Int} {code key val : Int}
/-- What is to be shown of a call. -/
def ApG (p : Int) (m q : Nat) (w : List Int) (code key val : Int) : Prop := Pure Tryd.prog glM 11 [.agg [.v (.int .i64 3), .v (.int .i64 p), .v (.int .i64 m)], .fl [.u64] q w, .agg [.v (.int .i64 code), .v (.int .u64 key), .v (.int .u64 val)]]
  (.tup [.ow 0 1 (encT 2 m (tabD 3 m (opK 2 3 3 p m w) (opV 2 3 3 p m w) code key val).1 (tabD 3 m (opK 2 3 3 p m w) (opV 2 3 3 p m w) code key val).2.1).length, .agg [.v (.int .i64 (tabD 3 m (opK 2 3 3 p m w) (opV 2 3 3 p m w) code key val).2.2.1), .v (.int .u64 (tabD 3 m (opK 2 3 3 p m w) (opV 2 3 3 p m w) code key val).2.2.2)], .v (.int .i64 0)])
  [(0, .fl [.u64] (encT 2 m (tabD 3 m (opK 2 3 3 p m w) (opV 2 3 3 p m w) code key val).1 (tabD 3 m (opK 2 3 3 p m w) (opV 2 3 3 p m w) code key val).2.1))]
variable (hu : AllU w) (e0 : opE 2 3 3 p m w = 0) (hf : fitsB 3 p m = true) (hT : TabV 3 m (opK 2 3 3 p m w) (opV 2 3 3 p m w)) (hk : U64 key) (hv : U64 val)
set_option maxHeartbeats 2000000 in
set_option maxRecDepth 100000 in
include hu e0 hf hT in
theorem ap_count : ApG p m q w 9 key val := by
  have hn := fitsK hf
  unfold ApG
  rw [tabD_count rfl]
  refine pure_of (C := ctxApD Tryd.prog ctxApD_inlOk) ctxApD_good Tryd.func11 (c := bodyOf Tryd.f11) (by rfl) (Nat.le_of_ble_eq_true (by rfl)) 4 5 [0, 1, 2, 3, 5, 6, 7, 8, 9, 10, 11, 12, 13, 21, 26, 47] ?_
  conv => whnf
  refine And.intro ⟨hu, e0⟩ ?_
  conv => whnf
  rw [Int.toNat_natCast]
  generalize opK 2 3 3 p m w = ks at *
  generalize opV 2 3 3 p m w = vs at *
  have hkl := hT.len
  have htb := hT.tb kv2
  have htu := htb.u
  have htl : (tabT 2 m ks vs).length = 4 * m := by rw [htb.len]; omega
  have hec : encT 2 m ks vs = (ks.length : Int) :: tabT 2 m ks vs := by unfold encT; rfl
  have hel : (encT 2 m ks vs).length = 1 + 4 * m := by rw [hT.enc_len kv2]; omega
  repeat (refine And.intro (by omega) ?_; conv => whnf)
  dsimp only
  rw [hel, hec]
  repeat' (first | exact trivial | exact rfl | (refine And.intro ?_ ?_) | ((conv => whnf); done) | ((conv => whnf); (first | rfl | (refine congrArg (fun b => T.v (Value.bool b)) ?_; first | rfl | exact (decide_eq_true (by omega)).symm | exact (decide_eq_false (by omega)).symm | exact decide_eq_decide.2 (by omega)) | (refine congrArg (fun b => T.v (Value.int _ b)) ?_; first | rfl | omega) | omega)) | (first | rfl | (refine congrArg (fun b => T.v (Value.bool b)) ?_; first | rfl | exact (decide_eq_true (by omega)).symm | exact (decide_eq_false (by omega)).symm | exact decide_eq_decide.2 (by omega)) | (refine congrArg (fun b => T.v (Value.int _ b)) ?_; first | rfl | omega) | omega))
set_option maxHeartbeats 2000000 in
set_option maxRecDepth 100000 in
include hu e0 hf hT in
theorem ap_other (h : code ≠ 9 ∧ code ≠ 10 ∧ code ≠ 11 ∧ code ≠ 7 ∧ code ≠ 8) : ApG p m q w code key val := by
  have hn := fitsK hf
  obtain ⟨h1, h2, h3, h4, h5⟩ := h
  have htd : tabD 3 m (opK 2 3 3 p m w) (opV 2 3 3 p m w) code key val = (opK 2 3 3 p m w, opV 2 3 3 p m w, 10, 0) := by
    by_cases hx : key ≤ 4611686018427387904
    · rw [tabD_mk kv2 h1 hx]
      unfold plcD
      rw [if_neg h4, if_neg h5, if_neg (fun q => by cases q.2), if_neg (fun q => h2 q.1), if_neg (fun q => by cases q.2), if_neg (fun q => h3 q.1)]
    · exact tabD_bad kv2 h1 hx
  unfold ApG
  rw [htd]
  refine pure_of (C := ctxApD Tryd.prog ctxApD_inlOk) ctxApD_good Tryd.func11 (c := bodyOf Tryd.f11) (by rfl) (Nat.le_of_ble_eq_true (by rfl)) 4 5 [0, 1, 2, 3, 5, 6, 7, 8, 9, 10, 11, 12, 13, 21, 26, 47] ?_
  conv => whnf
  refine And.intro ⟨hu, e0⟩ ?_
  conv => whnf
  rw [Int.toNat_natCast]
  generalize opK 2 3 3 p m w = ks at *
  generalize opV 2 3 3 p m w = vs at *
  have hkl := hT.len
  have htb := hT.tb kv2
  have htu := htb.u
  have htl : (tabT 2 m ks vs).length = 4 * m := by rw [htb.len]; omega
  have hec : encT 2 m ks vs = (ks.length : Int) :: tabT 2 m ks vs := by unfold encT; rfl
  have hel : (encT 2 m ks vs).length = 1 + 4 * m := by rw [hT.enc_len kv2]; omega
  dsimp only
  rw [hel, hec]
  refine ifB_f (by simpa using h1) ?_
  conv => whnf
  refine ifB_f (by simpa using h2) ?_
  conv => whnf
  refine ifB_f (by simpa using h3) ?_
  conv => whnf
  refine ifB_f (by simpa using h4) ?_
  conv => whnf
  refine ifB_f (by simpa using h5) ?_
  conv => whnf
  repeat (refine And.intro (by omega) ?_; conv => whnf)
  repeat' (first | exact trivial | exact rfl | (refine And.intro ?_ ?_) | ((conv => whnf); done) | ((conv => whnf); (first | rfl | (refine congrArg (fun b => T.v (Value.bool b)) ?_; first | rfl | exact (decide_eq_true (by omega)).symm | exact (decide_eq_false (by omega)).symm | exact decide_eq_decide.2 (by omega)) | (refine congrArg (fun b => T.v (Value.int _ b)) ?_; first | rfl | omega) | omega)) | (first | rfl | (refine congrArg (fun b => T.v (Value.bool b)) ?_; first | rfl | exact (decide_eq_true (by omega)).symm | exact (decide_eq_false (by omega)).symm | exact decide_eq_decide.2 (by omega)) | (refine congrArg (fun b => T.v (Value.int _ b)) ?_; first | rfl | omega) | omega))
set_option maxHeartbeats 2000000 in
set_option maxRecDepth 100000 in
include hu e0 hf hT in
theorem ap_big (hc : code = 10 ∨ code = 11 ∨ code = 7 ∨ code = 8) (hx : ¬ key ≤ 4611686018427387904) : ApG p m q w code key val := by
  have hn := fitsK hf
  unfold ApG
  rw [tabD_bad kv2 (by omega) hx]
  rcases hc with rfl | rfl | rfl | rfl
  all_goals (
    refine pure_of (C := ctxApD Tryd.prog ctxApD_inlOk) ctxApD_good Tryd.func11 (c := bodyOf Tryd.f11) (by rfl) (Nat.le_of_ble_eq_true (by rfl)) 4 5 [0, 1, 2, 3, 5, 6, 7, 8, 9, 10, 11, 12, 13, 21, 26, 47] ?_
    conv => whnf
    refine And.intro ⟨hu, e0⟩ ?_
    conv => whnf
    rw [Int.toNat_natCast]
    generalize opK 2 3 3 p m w = ks at *
    generalize opV 2 3 3 p m w = vs at *
    have hkl := hT.len
    have htb := hT.tb kv2
    have htu := htb.u
    have htl : (tabT 2 m ks vs).length = 4 * m := by rw [htb.len]; omega
    have hec : encT 2 m ks vs = (ks.length : Int) :: tabT 2 m ks vs := by unfold encT; rfl
    have hel : (encT 2 m ks vs).length = 1 + 4 * m := by rw [hT.enc_len kv2]; omega
    dsimp only
    rw [hel, hec]
    refine ifB_t (show (bif false then true else decide (key > 4611686018427387904)) = true from decide_eq_true (by omega)) ?_
    conv => whnf
    repeat (refine And.intro (by omega) ?_; conv => whnf)
    repeat' (first | exact trivial | exact rfl | (refine And.intro ?_ ?_) | ((conv => whnf); done) | ((conv => whnf); (first | rfl | (refine congrArg (fun b => T.v (Value.bool b)) ?_; first | rfl | exact (decide_eq_true (by omega)).symm | exact (decide_eq_false (by omega)).symm | exact decide_eq_decide.2 (by omega)) | (refine congrArg (fun b => T.v (Value.int _ b)) ?_; first | rfl | omega) | omega)) | (first | rfl | (refine congrArg (fun b => T.v (Value.bool b)) ?_; first | rfl | exact (decide_eq_true (by omega)).symm | exact (decide_eq_false (by omega)).symm | exact decide_eq_decide.2 (by omega)) | (refine congrArg (fun b => T.v (Value.int _ b)) ?_; first | rfl | omega) | omega)))
set_option maxHeartbeats 2000000 in
set_option maxRecDepth 100000 in
include hu e0 hf hT hk in
theorem ap_get (hx : key ≤ 4611686018427387904) : ApG p m q w 10 key val := by
  have hn := fitsK hf
  obtain ⟨u1, u2⟩ := id hk
  have e1 : IntKind.u64.wrap (key + 1) = key + 1 := wrapU (by omega) (by omega)
  have fG := fun ha => get_here hT (x := key) (val := val) hx ha
  have fN := fun ha => get_no hT (x := key) (val := val) hx ha
  obtain ⟨f1, f2⟩ := dfnd hT (by omega) (by omega) key (by omega)
  unfold ApG
  cases hh : hereK 3 (opK 2 3 3 p m w) key
  · rw [fN hh]
    have f2 := f2 hh
    refine pure_of (C := ctxApD Tryd.prog ctxApD_inlOk) ctxApD_good Tryd.func11 (c := bodyOf Tryd.f11) (by rfl) (Nat.le_of_ble_eq_true (by rfl)) 4 5 [0, 1, 2, 3, 5, 6, 7, 8, 9, 10, 11, 12, 13, 21, 26, 47] ?_
    conv => whnf
    refine And.intro ⟨hu, e0⟩ ?_
    conv => whnf
    rw [Int.toNat_natCast]
    generalize opK 2 3 3 p m w = ks at *
    generalize opV 2 3 3 p m w = vs at *
    have hkl := hT.len
    have htb := hT.tb kv2
    have htu := htb.u
    have htl : (tabT 2 m ks vs).length = 4 * m := by rw [htb.len]; omega
    have hec : encT 2 m ks vs = (ks.length : Int) :: tabT 2 m ks vs := by unfold encT; rfl
    have hel : (encT 2 m ks vs).length = 1 + 4 * m := by rw [hT.enc_len kv2]; omega
    dsimp only
    rw [hel, hec]
    refine ifB_f (show (bif false then true else decide (key > 4611686018427387904)) = false from decide_eq_false (by omega)) ?_
    conv => whnf
    refine And.intro ⟨by omega, htu⟩ ?_
    conv => whnf
    rw [e1, f2]
    conv => whnf
    repeat (refine And.intro (by omega) ?_; conv => whnf)
    repeat' (first | exact trivial | exact rfl | (refine And.intro ?_ ?_) | ((conv => whnf); done) | ((conv => whnf); (first | rfl | (refine congrArg (fun b => T.v (Value.bool b)) ?_; first | rfl | exact (decide_eq_true (by omega)).symm | exact (decide_eq_false (by omega)).symm | exact decide_eq_decide.2 (by omega)) | (refine congrArg (fun b => T.v (Value.int _ b)) ?_; first | rfl | omega) | omega)) | (first | rfl | (refine congrArg (fun b => T.v (Value.bool b)) ?_; first | rfl | exact (decide_eq_true (by omega)).symm | exact (decide_eq_false (by omega)).symm | exact decide_eq_decide.2 (by omega)) | (refine congrArg (fun b => T.v (Value.int _ b)) ?_; first | rfl | omega) | omega))
  · rw [fG hh]
    obtain ⟨pp, hp, f1, f3⟩ := f1 hh
    have hi2 : IntKind.i64.wrap (IntKind.i64.wrap ((pp : Int) * 2) + 1) = ((pp * 2 + 1 : Nat) : Int) := by
      rw [wrap64 (a := (pp : Int) * 2) (by omega) (by omega), wrap64 (by omega) (by omega)]; omega
    refine pure_of (C := ctxApD Tryd.prog ctxApD_inlOk) ctxApD_good Tryd.func11 (c := bodyOf Tryd.f11) (by rfl) (Nat.le_of_ble_eq_true (by rfl)) 4 5 [0, 1, 2, 3, 5, 6, 7, 8, 9, 10, 11, 12, 13, 21, 26, 47] ?_
    conv => whnf
    refine And.intro ⟨hu, e0⟩ ?_
    conv => whnf
    rw [Int.toNat_natCast]
    generalize opK 2 3 3 p m w = ks at *
    generalize opV 2 3 3 p m w = vs at *
    have hkl := hT.len
    have htb := hT.tb kv2
    have htu := htb.u
    have htl : (tabT 2 m ks vs).length = 4 * m := by rw [htb.len]; omega
    have hec : encT 2 m ks vs = (ks.length : Int) :: tabT 2 m ks vs := by unfold encT; rfl
    have hel : (encT 2 m ks vs).length = 1 + 4 * m := by rw [hT.enc_len kv2]; omega
    dsimp only
    rw [hel, hec]
    refine ifB_f (show (bif false then true else decide (key > 4611686018427387904)) = false from decide_eq_false (by omega)) ?_
    conv => whnf
    refine And.intro ⟨by omega, htu⟩ ?_
    conv => whnf
    rw [e1, f1]
    conv => whnf
    rw [if_neg (show ¬ (pp : Int) < 0 by omega), hi2]
    repeat (refine And.intro (by omega) ?_; conv => whnf)
    rw [show (tabT 2 m ks vs).getD (0 + addN 0 ((pp * 2 + 1 : Nat) : Int).toNat * (0 + 1)) 0 = vs.getD (atK 3 ks key) 0 by rw [addN_eq, show 0 + (0 + ((pp * 2 + 1 : Nat) : Int).toNat) * (0 + 1) = pp * 2 + 1 by omega]; exact f3]
    repeat' (first | exact trivial | exact rfl | (refine And.intro ?_ ?_) | ((conv => whnf); done) | ((conv => whnf); (first | rfl | (refine congrArg (fun b => T.v (Value.bool b)) ?_; first | rfl | exact (decide_eq_true (by omega)).symm | exact (decide_eq_false (by omega)).symm | exact decide_eq_decide.2 (by omega)) | (refine congrArg (fun b => T.v (Value.int _ b)) ?_; first | rfl | omega) | omega)) | (first | rfl | (refine congrArg (fun b => T.v (Value.bool b)) ?_; first | rfl | exact (decide_eq_true (by omega)).symm | exact (decide_eq_false (by omega)).symm | exact decide_eq_decide.2 (by omega)) | (refine congrArg (fun b => T.v (Value.int _ b)) ?_; first | rfl | omega) | omega))
set_option maxHeartbeats 2000000 in
set_option maxRecDepth 100000 in
include hu e0 hf hT hk hv in
theorem ap_put (hx : key ≤ 4611686018427387904) : ApG p m q w 11 key val := by
  have hn := fitsK hf
  obtain ⟨u1, u2⟩ := id hk
  have e1 : IntKind.u64.wrap (key + 1) = key + 1 := wrapU (by omega) (by omega)
  have uk1 : U64 (key + 1) := by unfold U64; omega
  have fH := fun ha => put_here hT (by omega) (by omega) (x := key) ⟨u1, hx⟩ hv ha
  have fN := fun ha => put_new hT (by omega) (by omega) (x := key) ⟨u1, hx⟩ hv ha
  have fF := fun ha => put_full hT (x := key) (val := val) ⟨u1, hx⟩ ha
  obtain ⟨f1, f2⟩ := dfnd hT (by omega) (by omega) key (by omega)
  unfold ApG
  cases hh : hereK 3 (opK 2 3 3 p m w) key
  · by_cases hl : (opK 2 3 3 p m w).length = m
    · rw [fF hh hl]
      have f2 := f2 hh
      refine pure_of (C := ctxApD Tryd.prog ctxApD_inlOk) ctxApD_good Tryd.func11 (c := bodyOf Tryd.f11) (by rfl) (Nat.le_of_ble_eq_true (by rfl)) 4 5 [0, 1, 2, 3, 5, 6, 7, 8, 9, 10, 11, 12, 13, 21, 26, 47] ?_
      conv => whnf
      refine And.intro ⟨hu, e0⟩ ?_
      conv => whnf
      rw [Int.toNat_natCast]
      generalize opK 2 3 3 p m w = ks at *
      generalize opV 2 3 3 p m w = vs at *
      have hkl := hT.len
      have htb := hT.tb kv2
      have htu := htb.u
      have htl : (tabT 2 m ks vs).length = 4 * m := by rw [htb.len]; omega
      have hec : encT 2 m ks vs = (ks.length : Int) :: tabT 2 m ks vs := by unfold encT; rfl
      have hel : (encT 2 m ks vs).length = 1 + 4 * m := by rw [hT.enc_len kv2]; omega
      dsimp only
      rw [hel, hec]
      refine ifB_f (show (bif false then true else decide (key > 4611686018427387904)) = false from decide_eq_false (by omega)) ?_
      conv => whnf
      refine And.intro ⟨by omega, htu⟩ ?_
      conv => whnf
      rw [e1, f2]
      conv => whnf
      refine ifB_t (show ((ks.length : Int) == m) = true by simp; omega) ?_
      conv => whnf
      repeat (refine And.intro (by omega) ?_; conv => whnf)
      repeat' (first | exact trivial | exact rfl | (refine And.intro ?_ ?_) | ((conv => whnf); done) | ((conv => whnf); (first | rfl | (refine congrArg (fun b => T.v (Value.bool b)) ?_; first | rfl | exact (decide_eq_true (by omega)).symm | exact (decide_eq_false (by omega)).symm | exact decide_eq_decide.2 (by omega)) | (refine congrArg (fun b => T.v (Value.int _ b)) ?_; first | rfl | omega) | omega)) | (first | rfl | (refine congrArg (fun b => T.v (Value.bool b)) ?_; first | rfl | exact (decide_eq_true (by omega)).symm | exact (decide_eq_false (by omega)).symm | exact decide_eq_decide.2 (by omega)) | (refine congrArg (fun b => T.v (Value.int _ b)) ?_; first | rfl | omega) | omega))
    · obtain ⟨hd, hT2, hP⟩ := fN hh hl
      rw [hd]
      have f2 := f2 hh
      refine pure_of (C := ctxApD Tryd.prog ctxApD_inlOk) ctxApD_good Tryd.func11 (c := bodyOf Tryd.f11) (by rfl) (Nat.le_of_ble_eq_true (by rfl)) 4 5 [0, 1, 2, 3, 5, 6, 7, 8, 9, 10, 11, 12, 13, 21, 26, 47] ?_
      conv => whnf
      refine And.intro ⟨hu, e0⟩ ?_
      conv => whnf
      rw [Int.toNat_natCast]
      generalize opK 2 3 3 p m w = ks at *
      generalize opV 2 3 3 p m w = vs at *
      have hkl := hT.len
      have htb := hT.tb kv2
      have htu := htb.u
      have htl : (tabT 2 m ks vs).length = 4 * m := by rw [htb.len]; omega
      have hec : encT 2 m ks vs = (ks.length : Int) :: tabT 2 m ks vs := by unfold encT; rfl
      have hel : (encT 2 m ks vs).length = 1 + 4 * m := by rw [hT.enc_len kv2]; omega
      have htl2 : (tabT 2 m (insK ks (atK 3 ks key) key) (insK vs (atK 3 ks key) val)).length = 4 * m := by rw [(hT2.tb kv2).len]; omega
      have hil := insK_len (l := ks) (a := atK 3 ks key) (w := key) (atK_le _ _ _)
      have hec2 : encT 2 m (insK ks (atK 3 ks key) key) (insK vs (atK 3 ks key) val) = ((ks.length + 1 : Nat) : Int) :: tabT 2 m (insK ks (atK 3 ks key) key) (insK vs (atK 3 ks key) val) := by unfold encT; rw [hil]
      have hel2 : (encT 2 m (insK ks (atK 3 ks key) key) (insK vs (atK 3 ks key) val)).length = 1 + 4 * m := by rw [hT2.enc_len kv2]; omega
      dsimp only
      rw [hel2, hec2]
      refine ifB_f (show (bif false then true else decide (key > 4611686018427387904)) = false from decide_eq_false (by omega)) ?_
      conv => whnf
      refine And.intro ⟨by omega, htu⟩ ?_
      conv => whnf
      rw [e1, f2]
      conv => whnf
      refine ifB_f (show ((ks.length : Int) == m) = false by simp; omega) ?_
      conv => whnf
      rw [e1]
      refine And.intro ⟨by omega, htu, uk1⟩ ?_
      conv => whnf
      rw [hP, htl2, show IntKind.u64.wrap ((ks.length : Int) + 1) = ((ks.length + 1 : Nat) : Int) by rw [wrapU (by omega) (by omega)]; omega]
      repeat (refine And.intro (by omega) ?_; conv => whnf)
      repeat' (first | exact trivial | exact rfl | (refine And.intro ?_ ?_) | ((conv => whnf); done) | ((conv => whnf); (first | rfl | (refine congrArg (fun b => T.v (Value.bool b)) ?_; first | rfl | exact (decide_eq_true (by omega)).symm | exact (decide_eq_false (by omega)).symm | exact decide_eq_decide.2 (by omega)) | (refine congrArg (fun b => T.v (Value.int _ b)) ?_; first | rfl | omega) | omega)) | (first | rfl | (refine congrArg (fun b => T.v (Value.bool b)) ?_; first | rfl | exact (decide_eq_true (by omega)).symm | exact (decide_eq_false (by omega)).symm | exact decide_eq_decide.2 (by omega)) | (refine congrArg (fun b => T.v (Value.int _ b)) ?_; first | rfl | omega) | omega))
  · obtain ⟨hd, hT2, hP⟩ := fH hh
    rw [hd]
    obtain ⟨pp, hp, f1, f3⟩ := f1 hh
    have hi2 : IntKind.i64.wrap (IntKind.i64.wrap ((pp : Int) * 2) + 1) = ((pp * 2 + 1 : Nat) : Int) := by
      rw [wrap64 (a := (pp : Int) * 2) (by omega) (by omega), wrap64 (by omega) (by omega)]; omega
    refine pure_of (C := ctxApD Tryd.prog ctxApD_inlOk) ctxApD_good Tryd.func11 (c := bodyOf Tryd.f11) (by rfl) (Nat.le_of_ble_eq_true (by rfl)) 4 5 [0, 1, 2, 3, 5, 6, 7, 8, 9, 10, 11, 12, 13, 21, 26, 47] ?_
    conv => whnf
    refine And.intro ⟨hu, e0⟩ ?_
    conv => whnf
    rw [Int.toNat_natCast]
    generalize opK 2 3 3 p m w = ks at *
    generalize opV 2 3 3 p m w = vs at *
    have hkl := hT.len
    have htb := hT.tb kv2
    have htu := htb.u
    have htl : (tabT 2 m ks vs).length = 4 * m := by rw [htb.len]; omega
    have hec : encT 2 m ks vs = (ks.length : Int) :: tabT 2 m ks vs := by unfold encT; rfl
    have hel : (encT 2 m ks vs).length = 1 + 4 * m := by rw [hT.enc_len kv2]; omega
    have htl2 : (tabT 2 m ks (vs.set (atK 3 ks key) val)).length = 4 * m := by rw [(hT2.tb kv2).len]; omega
    have hec2 : encT 2 m ks (vs.set (atK 3 ks key) val) = (ks.length : Int) :: tabT 2 m ks (vs.set (atK 3 ks key) val) := by unfold encT; rfl
    have hel2 : (encT 2 m ks (vs.set (atK 3 ks key) val)).length = 1 + 4 * m := by rw [hT2.enc_len kv2]; omega
    dsimp only
    rw [hel2, hec2]
    refine ifB_f (show (bif false then true else decide (key > 4611686018427387904)) = false from decide_eq_false (by omega)) ?_
    conv => whnf
    refine And.intro ⟨by omega, htu⟩ ?_
    conv => whnf
    rw [e1, f1]
    conv => whnf
    rw [if_neg (show ¬ (pp : Int) < 0 by omega), hi2]
    repeat (refine And.intro (by omega) ?_; conv => whnf)
    rw [e1, show (tabT 2 m ks vs).getD (0 + addN 0 ((pp * 2 + 1 : Nat) : Int).toNat * (0 + 1)) 0 = vs.getD (atK 3 ks key) 0 by rw [addN_eq, show 0 + (0 + ((pp * 2 + 1 : Nat) : Int).toNat) * (0 + 1) = pp * 2 + 1 by omega]; exact f3]
    refine And.intro ⟨by omega, htu, uk1⟩ ?_
    conv => whnf
    rw [hP, htl2]
    repeat (refine And.intro (by omega) ?_; conv => whnf)
    repeat' (first | exact trivial | exact rfl | (refine And.intro ?_ ?_) | ((conv => whnf); done) | ((conv => whnf); (first | rfl | (refine congrArg (fun b => T.v (Value.bool b)) ?_; first | rfl | exact (decide_eq_true (by omega)).symm | exact (decide_eq_false (by omega)).symm | exact decide_eq_decide.2 (by omega)) | (refine congrArg (fun b => T.v (Value.int _ b)) ?_; first | rfl | omega) | omega)) | (first | rfl | (refine congrArg (fun b => T.v (Value.bool b)) ?_; first | rfl | exact (decide_eq_true (by omega)).symm | exact (decide_eq_false (by omega)).symm | exact decide_eq_decide.2 (by omega)) | (refine congrArg (fun b => T.v (Value.int _ b)) ?_; first | rfl | omega) | omega))
set_option maxHeartbeats 2000000 in
set_option maxRecDepth 100000 in
include hu e0 hf hT hk hv in
theorem ap_del (hx : key ≤ 4611686018427387904) : ApG p m q w 7 key val := by
  have hn := fitsK hf
  obtain ⟨u1, u2⟩ := id hk
  have e1 : IntKind.u64.wrap (key + 1) = key + 1 := wrapU (by omega) (by omega)
  have fH := fun ha => del_here hT (by omega) (by omega) (x := key) ⟨u1, hx⟩ hv ha
  have fN := fun ha => del_no (ks := opK 2 3 3 p m w) (vs := opV 2 3 3 p m w) (m := m) kv2 (x := key) (val := val) hx ha
  obtain ⟨f1, f2⟩ := dfnd hT (by omega) (by omega) key (by omega)
  unfold ApG
  cases hh : hereK 3 (opK 2 3 3 p m w) key
  · rw [fN hh]
    have f2 := f2 hh
    refine pure_of (C := ctxApD Tryd.prog ctxApD_inlOk) ctxApD_good Tryd.func11 (c := bodyOf Tryd.f11) (by rfl) (Nat.le_of_ble_eq_true (by rfl)) 4 5 [0, 1, 2, 3, 5, 6, 7, 8, 9, 10, 11, 12, 13, 21, 26, 47] ?_
    conv => whnf
    refine And.intro ⟨hu, e0⟩ ?_
    conv => whnf
    rw [Int.toNat_natCast]
    generalize opK 2 3 3 p m w = ks at *
    generalize opV 2 3 3 p m w = vs at *
    have hkl := hT.len
    have htb := hT.tb kv2
    have htu := htb.u
    have htl : (tabT 2 m ks vs).length = 4 * m := by rw [htb.len]; omega
    have hec : encT 2 m ks vs = (ks.length : Int) :: tabT 2 m ks vs := by unfold encT; rfl
    have hel : (encT 2 m ks vs).length = 1 + 4 * m := by rw [hT.enc_len kv2]; omega
    dsimp only
    rw [hel, hec]
    refine ifB_f (show (bif false then true else decide (key > 4611686018427387904)) = false from decide_eq_false (by omega)) ?_
    conv => whnf
    refine And.intro ⟨by omega, htu⟩ ?_
    conv => whnf
    rw [e1, f2]
    conv => whnf
    repeat (refine And.intro (by omega) ?_; conv => whnf)
    repeat' (first | exact trivial | exact rfl | (refine And.intro ?_ ?_) | ((conv => whnf); done) | ((conv => whnf); (first | rfl | (refine congrArg (fun b => T.v (Value.bool b)) ?_; first | rfl | exact (decide_eq_true (by omega)).symm | exact (decide_eq_false (by omega)).symm | exact decide_eq_decide.2 (by omega)) | (refine congrArg (fun b => T.v (Value.int _ b)) ?_; first | rfl | omega) | omega)) | (first | rfl | (refine congrArg (fun b => T.v (Value.bool b)) ?_; first | rfl | exact (decide_eq_true (by omega)).symm | exact (decide_eq_false (by omega)).symm | exact decide_eq_decide.2 (by omega)) | (refine congrArg (fun b => T.v (Value.int _ b)) ?_; first | rfl | omega) | omega))
  · obtain ⟨hd, hT2, hP⟩ := fH hh
    rw [hd]
    obtain ⟨a1, -⟩ := hereK_t hh
    obtain ⟨pp, hp, f1, f3⟩ := f1 hh
    have hi2 : IntKind.i64.wrap (IntKind.i64.wrap ((pp : Int) * 2) + 1) = ((pp * 2 + 1 : Nat) : Int) := by
      rw [wrap64 (a := (pp : Int) * 2) (by omega) (by omega), wrap64 (by omega) (by omega)]; omega
    refine pure_of (C := ctxApD Tryd.prog ctxApD_inlOk) ctxApD_good Tryd.func11 (c := bodyOf Tryd.f11) (by rfl) (Nat.le_of_ble_eq_true (by rfl)) 4 5 [0, 1, 2, 3, 5, 6, 7, 8, 9, 10, 11, 12, 13, 21, 26, 47] ?_
    conv => whnf
    refine And.intro ⟨hu, e0⟩ ?_
    conv => whnf
    rw [Int.toNat_natCast]
    generalize opK 2 3 3 p m w = ks at *
    generalize opV 2 3 3 p m w = vs at *
    have hkl := hT.len
    have htb := hT.tb kv2
    have htu := htb.u
    have htl : (tabT 2 m ks vs).length = 4 * m := by rw [htb.len]; omega
    have hec : encT 2 m ks vs = (ks.length : Int) :: tabT 2 m ks vs := by unfold encT; rfl
    have hel : (encT 2 m ks vs).length = 1 + 4 * m := by rw [hT.enc_len kv2]; omega
    have htl2 : (tabT 2 m (delK ks (atK 3 ks key)) (delK vs (atK 3 ks key))).length = 4 * m := by rw [(hT2.tb kv2).len]; omega
    have hil := delK_len (l := ks) (a := atK 3 ks key) a1
    have hec2 : encT 2 m (delK ks (atK 3 ks key)) (delK vs (atK 3 ks key)) = ((ks.length - 1 : Nat) : Int) :: tabT 2 m (delK ks (atK 3 ks key)) (delK vs (atK 3 ks key)) := by unfold encT; rw [hil]
    have hel2 : (encT 2 m (delK ks (atK 3 ks key)) (delK vs (atK 3 ks key))).length = 1 + 4 * m := by rw [hT2.enc_len kv2]; omega
    dsimp only
    rw [hel2, hec2]
    refine ifB_f (show (bif false then true else decide (key > 4611686018427387904)) = false from decide_eq_false (by omega)) ?_
    conv => whnf
    refine And.intro ⟨by omega, htu⟩ ?_
    conv => whnf
    rw [e1, f1]
    conv => whnf
    rw [if_neg (show ¬ (pp : Int) < 0 by omega), hi2]
    repeat (refine And.intro (by omega) ?_; conv => whnf)
    rw [e1, show (tabT 2 m ks vs).getD (0 + addN 0 ((pp * 2 + 1 : Nat) : Int).toNat * (0 + 1)) 0 = vs.getD (atK 3 ks key) 0 by rw [addN_eq, show 0 + (0 + ((pp * 2 + 1 : Nat) : Int).toNat) * (0 + 1) = pp * 2 + 1 by omega]; exact f3]
    refine And.intro ⟨by omega, htu⟩ ?_
    conv => whnf
    rw [hP, htl2, show IntKind.u64.wrap ((ks.length : Int) - 1) = ((ks.length - 1 : Nat) : Int) by rw [wrapU (by omega) (by omega)]; omega]
    repeat (refine And.intro (by omega) ?_; conv => whnf)
    repeat' (first | exact trivial | exact rfl | (refine And.intro ?_ ?_) | ((conv => whnf); done) | ((conv => whnf); (first | rfl | (refine congrArg (fun b => T.v (Value.bool b)) ?_; first | rfl | exact (decide_eq_true (by omega)).symm | exact (decide_eq_false (by omega)).symm | exact decide_eq_decide.2 (by omega)) | (refine congrArg (fun b => T.v (Value.int _ b)) ?_; first | rfl | omega) | omega)) | (first | rfl | (refine congrArg (fun b => T.v (Value.bool b)) ?_; first | rfl | exact (decide_eq_true (by omega)).symm | exact (decide_eq_false (by omega)).symm | exact decide_eq_decide.2 (by omega)) | (refine congrArg (fun b => T.v (Value.int _ b)) ?_; first | rfl | omega) | omega))
set_option maxHeartbeats 2000000 in
set_option maxRecDepth 100000 in
include hu e0 hf hT in
theorem ap_next (hx : key ≤ 4611686018427387904) : ApG p m q w 8 key val := by
  have hn := fitsK hf
  have fX := next_is (ks := opK 2 3 3 p m w) (vs := opV 2 3 3 p m w) (m := m) kv2 (x := key) (val := val) hx
  have hku := fun i hi => hT.k_u kv2 (i := i) hi
  have hls : lstP 2 (tabT 2 m (opK 2 3 3 p m w) (opV 2 3 3 p m w)) = rsK 2 (opK 2 3 3 p m w) (opV 2 3 3 p m w) := hT.lst kv2 (by omega) (by omega)
  have hrl := rsK_len 2 (opK 2 3 3 p m w) (opV 2 3 3 p m w)
  have fI := fun j hj h1 h2 => nx_is hT kv2 (x := key) (val := val) (j := j) hj h1 h2
  unfold ApG
  rw [fX]
  refine pure_of (C := ctxApD Tryd.prog ctxApD_inlOk) ctxApD_good Tryd.func11 (c := bodyOf Tryd.f11) (by rfl) (Nat.le_of_ble_eq_true (by rfl)) 4 5 [0, 1, 2, 3, 5, 6, 7, 8, 9, 10, 11, 12, 13, 21, 26, 47] ?_
  conv => whnf
  refine And.intro ⟨hu, e0⟩ ?_
  conv => whnf
  rw [Int.toNat_natCast]
  generalize opK 2 3 3 p m w = ks at *
  generalize opV 2 3 3 p m w = vs at *
  have hkl := hT.len
  have htb := hT.tb kv2
  have htu := htb.u
  have htl : (tabT 2 m ks vs).length = 4 * m := by rw [htb.len]; omega
  have hec : encT 2 m ks vs = (ks.length : Int) :: tabT 2 m ks vs := by unfold encT; rfl
  have hel : (encT 2 m ks vs).length = 1 + 4 * m := by rw [hT.enc_len kv2]; omega
  refine ifB_f (show (bif false then true else decide (key > 4611686018427387904)) = false from decide_eq_false (by omega)) ?_
  conv => whnf
  intro l
  conv => whnf
  repeat (refine And.intro (by first | omega | exact ⟨by omega, htu⟩) ?_; conv => whnf)
  rw [hls, hrl]
  refine TW.loopD ctxApD_good 4 (base := 7000000) (lv := [0, 1, 4, 9, 10, 11, 12, 22]) [11] [] [] (fun j : Nat => [.v (.int .i64 j)]) (fun _ => []) (fun j => j ≤ ks.length ∧ ∀ i, i < j → ¬ (ks.getD i 0 > key ∨ (ks.getD i 0 = key ∧ val = 0))) (fun j => ks.length - j) ?_
  conv => whnf
  refine ⟨⟨0, ⟨rfl, rfl, rfl⟩, Nat.zero_le _, fun i hi => by omega⟩, fun j ⟨hj, hg⟩ => ?_⟩
  conv => whnf
  refine ifB_dec (fun h => ?_) (fun h => ?_)
  · replace h : (j : Int) < ks.length := h
    obtain ⟨k1, k2⟩ := hku j (by omega)
    have E0 : (flat 2 (rsK 2 ks vs)).getD (0 + addN 0 (j : Int).toNat * (1 + 1) + 0) 0 = ks.getD j 0 + 1 := by
      rw [addN_eq, show 0 + (0 + (j : Int).toNat) * (1 + 1) + 0 = j * 2 by omega, flat_key (.inr rfl) _ (by rw [hrl]; omega)]
      unfold kR; rw [rsK_get 2 ks vs (by omega)]
    have e1 : IntKind.u64.wrap (ks.getD j 0 + 1 - 1) = ks.getD j 0 := by rw [wrapU (by omega) (by omega)]; omega
    have G0 : IntKind.u64.wrap ((([0, 0].set (0 + 0 * (1 + 1) + 0) ((flat 2 (rsK 2 ks vs)).getD (0 + addN 0 (j : Int).toNat * (1 + 1) + 0) 0)).set (0 + 0 * (1 + 1) + (0 + 1)) ((flat 2 (rsK 2 ks vs)).getD (0 + addN 0 (j : Int).toNat * (1 + 1) + (0 + 1)) 0)).getD (0 + 0 * (1 + 1)) 0 - 1) = ks.getD j 0 := by
      show IntKind.u64.wrap ((flat 2 (rsK 2 ks vs)).getD (0 + addN 0 (j : Int).toNat * (1 + 1) + 0) 0 - 1) = _
      rw [E0, e1]
    conv => whnf
    repeat (refine And.intro (by omega) ?_; conv => whnf)
    rw [G0]
    by_cases hgo : ks.getD j 0 > key ∨ (ks.getD j 0 = key ∧ val = 0)
    · have hnx := fI j (by omega) hg (fun _ => hgo)
      rw [hnx, if_neg (by omega)]
      dsimp only
      rw [hel, hec]
      by_cases hg1 : ks.getD j 0 > key
      · refine ifB_t (decide_eq_true hg1) ?_
        conv => whnf
        repeat (refine And.intro (by first | rfl | omega) ?_; conv => whnf)
        repeat' (first | exact trivial | exact rfl | (refine And.intro ?_ ?_) | ((conv => whnf); done) | ((conv => whnf); (first | rfl | (refine congrArg (fun b => T.v (Value.bool b)) ?_; first | rfl | exact (decide_eq_true (by omega)).symm | exact (decide_eq_false (by omega)).symm | exact decide_eq_decide.2 (by omega)) | (refine congrArg (fun b => T.v (Value.int _ b)) ?_; first | rfl | omega) | omega)) | (first | rfl | (refine congrArg (fun b => T.v (Value.bool b)) ?_; first | rfl | exact (decide_eq_true (by omega)).symm | exact (decide_eq_false (by omega)).symm | exact decide_eq_decide.2 (by omega)) | (refine congrArg (fun b => T.v (Value.int _ b)) ?_; first | rfl | omega) | omega))
      · obtain ⟨hg2, hg3⟩ := hgo.resolve_left hg1
        subst hg3
        refine ifB_f (decide_eq_false hg1) ?_
        conv => whnf
        refine ifB_t (show (ks.getD j 0 == key) = true from beq_iff_eq.2 hg2) ?_
        conv => whnf
        repeat (refine And.intro (by first | rfl | omega) ?_; conv => whnf)
        repeat' (first | exact trivial | exact rfl | (refine And.intro ?_ ?_) | ((conv => whnf); done) | ((conv => whnf); (first | rfl | (refine congrArg (fun b => T.v (Value.bool b)) ?_; first | rfl | exact (decide_eq_true (by omega)).symm | exact (decide_eq_false (by omega)).symm | exact decide_eq_decide.2 (by omega)) | (refine congrArg (fun b => T.v (Value.int _ b)) ?_; first | rfl | omega) | omega)) | (first | rfl | (refine congrArg (fun b => T.v (Value.bool b)) ?_; first | rfl | exact (decide_eq_true (by omega)).symm | exact (decide_eq_false (by omega)).symm | exact decide_eq_decide.2 (by omega)) | (refine congrArg (fun b => T.v (Value.int _ b)) ?_; first | rfl | omega) | omega))
    · have hg1 : ¬ ks.getD j 0 > key := fun q => hgo (.inl q)
      refine ifB_f (decide_eq_false hg1) ?_
      conv => whnf
      refine ifB_eq (x := ks.getD j 0) (y := key) (fun hg2 => ?_) (fun hg2 => ?_)
      · have hv0 : val ≠ 0 := fun q => hgo (.inr ⟨hg2, q⟩)
        conv => whnf
        refine ifB_f (show (bif false then true else (bif true then (val == 0) else false)) = false by simpa using hv0) ?_
        conv => whnf
        repeat (refine And.intro (by first | rfl | omega) ?_; conv => whnf)
        rw [wsucc (j := j) (n := ks.length) (by omega) (by omega)]
        refine ⟨j + 1, [], ⟨rfl, rfl, rfl⟩, ⟨(by omega : j + 1 ≤ ks.length), fun i hi => ?_⟩, by dsimp only; omega⟩
        by_cases z : i = j
        · rw [z]; exact hgo
        · exact hg i (by omega)
      · conv => whnf
        repeat (refine And.intro (by first | rfl | omega) ?_; conv => whnf)
        rw [wsucc (j := j) (n := ks.length) (by omega) (by omega)]
        refine ⟨j + 1, [], ⟨rfl, rfl, rfl⟩, ⟨(by omega : j + 1 ≤ ks.length), fun i hi => ?_⟩, by dsimp only; omega⟩
        by_cases z : i = j
        · rw [z]; exact hgo
        · exact hg i (by omega)
  · replace h : ¬ (j : Int) < ks.length := h
    obtain rfl : j = ks.length := by omega
    rw [if_pos (fI ks.length (Nat.le_refl _) hg (fun q => by omega))]
    dsimp only
    rw [hel, hec]
    conv => whnf
    repeat (refine And.intro (by first | rfl | omega) ?_; conv => whnf)
    repeat' (first | exact trivial | exact rfl | (refine And.intro ?_ ?_) | ((conv => whnf); done) | ((conv => whnf); (first | rfl | (refine congrArg (fun b => T.v (Value.bool b)) ?_; first | rfl | exact (decide_eq_true (by omega)).symm | exact (decide_eq_false (by omega)).symm | exact decide_eq_decide.2 (by omega)) | (refine congrArg (fun b => T.v (Value.int _ b)) ?_; first | rfl | omega) | omega)) | (first | rfl | (refine congrArg (fun b => T.v (Value.bool b)) ?_; first | rfl | exact (decide_eq_true (by omega)).symm | exact (decide_eq_false (by omega)).symm | exact decide_eq_decide.2 (by omega)) | (refine congrArg (fun b => T.v (Value.int _ b)) ?_; first | rfl | omega) | omega))
end
end Go.Proofs.YtnplgklnkcjmnaaDoor.DcT
namespace Go.Proofs.YtnplgklnkcjmnaaDoor.DcT
open Go.RowKit Go.Proofs.YtnplgklnkcjmnaaDoor.Am Go.Proofs.YtnplgklnkcjmnaaDoor Go.Proofs.YtnplgklnkcjmnaaDoor.PrT
set_option linter.unusedVariables false
set_option linter.unusedSimpArgs false


set_option maxRecDepth 100000 in
theorem apply_pure (k p n : Int) (q : Nat) (w : List Int) (code key val : Int) (hu : AllU w) (hq : q ≤ 10000) (hk : U64 key) (hv : U64 val) : Pure Tryd.prog glM 11 [.agg [.v (.int .i64 k), .v (.int .i64 p), .v (.int .i64 n)], .fl [.u64] q w, .agg [.v (.int .i64 code), .v (.int .u64 key), .v (.int .u64 val)]] (.tup [.ow 0 1 (apL 2 3 k p n w code key val).length, .agg [.v (.int .i64 (apR 2 3 k p n w code key val)), .v (.int .u64 (apV 2 3 k p n w code key val))], .v (.int .i64 (opE 2 3 k p n w))]) [(0, .fl [.u64] (apL 2 3 k p n w code key val))] := by
  rcases op_facts kv2 k p n hu with ⟨e0, rfl, hf, hT, -, -⟩ | ⟨e0, -, -, -⟩
  · have hn := fitsK hf
    obtain ⟨m, rfl⟩ := Int.eq_ofNat_of_zero_le (a := n) (by omega)
    obtain ⟨y1, y2, y3⟩ := ap_yes (code := code) (key := key) (val := val) e0
    rw [Int.toNat_natCast] at hT y1
    rw [y1, y2, y3, e0]
    show ApG p m q w code key val
    by_cases h9 : code = 9
    · subst h9; exact ap_count hu e0 hf hT
    by_cases h10 : code = 10 ∨ code = 11 ∨ code = 7 ∨ code = 8
    · by_cases hx : key ≤ 4611686018427387904
      · rcases h10 with rfl | rfl | rfl | rfl
        · exact ap_get hu e0 hf hT hk hx
        · exact ap_put hu e0 hf hT hk hv hx
        · exact ap_del hu e0 hf hT hk hv hx
        · exact ap_next hu e0 hf hT hx
      · exact ap_big hu e0 hf hT h10 hx
    · exact ap_other hu e0 hf hT (by omega)
  · have hne : opE 2 3 k p n w ≠ 0 := by omega
    obtain ⟨y1, y2, y3⟩ := ap_no (code := code) (key := key) (val := val) hne
    rw [y1, y2, y3]
    refine pure_of (C := ctxUpN Tryd.prog) ctxUpN_good Tryd.func11 (c := bodyOf Tryd.f11) (by rfl) (Nat.le_of_ble_eq_true (by rfl)) 4 0 [0, 1, 2, 3, 5, 6, 7, 8, 9, 10, 11, 12, 13, 21, 26, 47] ?_
    conv => whnf
    refine And.intro ⟨hu, hq, hne⟩ ?_
    conv => whnf
    refine ifB_ne (fun h => ?_) (fun h => absurd h hne)
    conv => whnf
    repeat' (first | exact trivial | exact rfl | (refine And.intro ?_ ?_) | ((conv => whnf); done) | ((conv => whnf); (first | rfl | (refine congrArg (fun b => T.v (Value.bool b)) ?_; first | rfl | exact (decide_eq_true (by omega)).symm | exact (decide_eq_false (by omega)).symm | exact decide_eq_decide.2 (by omega)) | (refine congrArg (fun b => T.v (Value.int _ b)) ?_; first | rfl | omega) | omega)) | (first | rfl | (refine congrArg (fun b => T.v (Value.bool b)) ?_; first | rfl | exact (decide_eq_true (by omega)).symm | exact (decide_eq_false (by omega)).symm | exact decide_eq_decide.2 (by omega)) | (refine congrArg (fun b => T.v (Value.int _ b)) ?_; first | rfl | omega) | omega))
noncomputable def eApply : Entry := ⟨11, 8, fun l => match l with
  | [.agg [.v (.int .i64 k), .v (.int .i64 p), .v (.int .i64 n)], .fl [.u64] q w, .agg [.v (.int .i64 code), .v (.int .u64 key), .v (.int .u64 val)]] => some (some (AllU w ∧ q ≤ 10000 ∧ U64 key ∧ U64 val), .tup [.ow 0 1 (apL 2 3 k p n w code key val).length, .agg [.v (.int .i64 (apR 2 3 k p n w code key val)), .v (.int .u64 (apV 2 3 k p n w code key val))], .v (.int .i64 (opE 2 3 k p n w))], [(0, .fl [.u64] (apL 2 3 k p n w code key val))])
  | _ => none⟩
theorem eApply_ok : eApply.ok Tryd.prog glM := ⟨Am.enters_of Tryd.func11 (by kernel_rfl) (by kernel_rfl), by
  intro args c t bs h hc
  simp only [eApply] at h
  split at h <;> cases h
  obtain ⟨h1, h2, h3, h4⟩ := hc _ rfl
  exact apply_pure _ _ _ _ _ _ _ _ h1 h2 h3 h4⟩
/-! ### the law's own functions -/

set_option maxRecDepth 100000 in
theorem pick12_pure (c n : Int) (hc : I64 c) (hn : 0 < n) (hn2 : n ≤ 4096) : Pure Tryd.prog glR 10 [.v (.int .i64 c), .v (.int .i64 n)] (.v (.int .i64 (ipick c n))) := by
  have hv := ipick_val c n hc
  refine pure_of (C := ctx0 Tryd.prog) ctx0_good Tryd.func10 (c := bodyOf Tryd.f10) (by rfl) (Nat.le_of_ble_eq_true (by rfl)) 4 0 [0, 1, 2, 4, 6] ?_
  conv => whnf
  repeat' (first | (refine ifB_t (by assumption) ?_; conv => whnf) | (refine ifB_f (by assumption) ?_; conv => whnf) | (refine ifB_dec (fun h => ?_) (fun h => ?_) <;> (first | (exfalso; omega) | (conv => whnf))) | (refine ifB_eq (fun h => ?_) (fun h => ?_) <;> (first | (exfalso; omega) | (conv => whnf))) | (refine ifB_ne (fun h => ?_) (fun h => ?_) <;> (first | (exfalso; omega) | (conv => whnf))) | (refine ifB_not ?_; conv => whnf) | (refine ifB_and ?_; conv => whnf) | (refine ifB_or ?_; conv => whnf) | (refine And.intro ?_ ?_; (first | omega | assumption | (exact allU_getD (by assumption) _) | (simp only [cutL]; omega) | (refine And.intro ?_ ?_ <;> first | assumption | exact allU_getD (by assumption) _) | (simp only [cutL, IntKind.wrap_u64, IntKind.wrap_i64] at *; omega) | decide); conv => whnf))
  · rw [if_pos h] at hv; exact congrArg (fun b => T.v (Value.int .i64 b)) hv
  · rw [if_neg h] at hv; exact congrArg (fun b => T.v (Value.int .i64 b)) hv
noncomputable def ePick12 : Entry := ⟨10, 3, fun l => match l with | [.v (.int .i64 c), .v (.int .i64 n)] => some (some (I64 c ∧ 0 < n ∧ n ≤ 4096), .v (.int .i64 (ipick c n)), []) | _ => none⟩
theorem ePick12_ok : ePick12.ok Tryd.prog glR := ⟨Am.enters_of Tryd.func10 (by kernel_rfl) (by kernel_rfl), by
  intro args c t bs h hc
  simp only [ePick12] at h
  split at h <;> cases h
  replace hc := hc _ rfl
  exact pick12_pure _ _ hc.1 hc.2.1 hc.2.2⟩
noncomputable def ctxLw12 (P : Program) : Ctx := ctx P glR [ePick12] [] (noEq P) [] (fun _ h => by cases h)
theorem ctxLw12_good : (ctxLw12 Tryd.prog).good := ctx_good (by kernel_rfl) (AllOk.mem ⟨ePick12_ok, trivial⟩) glR_two
/-- A raw configuration's room; a raw key; a raw pair. -/
def rmD (room : Int) : Nat := (1 + ipick room 12).toNat
theorem rmD_f (room : Int) : 1 ≤ rmD room ∧ rmD room ≤ 12 ∧ ((rmD room : Nat) : Int) = 1 + ipick room 12 := by
  obtain ⟨h1, h2⟩ := ipick_bounds room (n := 12) (by omega)
  unfold rmD; omega
theorem fits_rm (room : Int) : fitsB 3 1 (rmD room) = true := by
  obtain ⟨h1, h2, -⟩ := rmD_f room
  exact decide_eq_true (by omega)
def keyD (n : Int) : Int := if ipick n 16 > 11 then 4611686018427387904 - (ipick n 16 - 12) else ipick n 16
theorem keyD_f (n : Int) : 0 ≤ keyD n ∧ keyD n ≤ 4611686018427387904 := by
  obtain ⟨h1, h2⟩ := ipick_bounds n (n := 16) (by omega)
  unfold keyD; split <;> omega
set_option maxRecDepth 100000 in
theorem key12_pure (n : Int) (hr : I64 n) : Pure Tryd.prog glR 13 [.v (.int .i64 n)] (.v (.int .u64 (keyD n))) := by
  obtain ⟨h1, h2⟩ := ipick_bounds n (n := 16) (by omega)
  have e : IntKind.u64.wrap (ipick n 16) = ipick n 16 := wrapU (by omega) (by omega)
  refine pure_of (C := ctxLw12 Tryd.prog) ctxLw12_good Tryd.func13 (c := bodyOf Tryd.f13) (by rfl) (Nat.le_of_ble_eq_true (by rfl)) 4 0 [0, 2, 3, 8] ?_
  conv => whnf
  refine And.intro ⟨hr, by omega, by omega⟩ ?_
  conv => whnf
  rw [e]
  refine ifB_dec (fun h => ?_) (fun h => ?_)
  · conv => whnf
    rw [wrapU (a := ipick n 16 - 12) (by omega) (by omega), wrapU (by omega) (by omega)]
    unfold keyD; rw [if_pos h]
  · conv => whnf
    unfold keyD; rw [if_neg h]
noncomputable def eKey12 : Entry := ⟨13, 4, fun l => match l with | [.v (.int .i64 n)] => some (some (I64 n), .v (.int .u64 (keyD n)), []) | _ => none⟩
theorem eKey12_ok : eKey12.ok Tryd.prog glR := ⟨Am.enters_of Tryd.func13 (by kernel_rfl) (by kernel_rfl), by
  intro args c t bs h hc
  simp only [eKey12] at h
  split at h <;> cases h
  replace hc := hc _ rfl
  exact key12_pure _ hc⟩
def prR (a b : Int) : R := (keyD a, ipick b 1000)
noncomputable def ctxLw12b (P : Program) : Ctx := ctx P glR [ePick12, eKey12] [] (noEq P) [] (fun _ h => by cases h)
theorem ctxLw12b_good : (ctxLw12b Tryd.prog).good := ctx_good (by kernel_rfl) (AllOk.mem ⟨ePick12_ok, eKey12_ok, trivial⟩) glR_two
set_option maxRecDepth 100000 in
theorem pair12_pure (a b : Int) (ha : I64 a) (hb : I64 b) : Pure Tryd.prog glR 7 [.agg [.v (.int .i64 a), .v (.int .i64 b)]] (.agg [.v (.int .u64 (keyD a)), .v (.int .u64 (ipick b 1000))]) := by
  obtain ⟨h1, h2⟩ := ipick_bounds b (n := 1000) (by omega)
  refine pure_of (C := ctxLw12b Tryd.prog) ctxLw12b_good Tryd.func7 (c := bodyOf Tryd.f7) (by rfl) (Nat.le_of_ble_eq_true (by rfl)) 4 0 [0, 1, 2] ?_
  conv => whnf
  repeat (refine And.intro (by first | decide | assumption | exact ⟨by assumption, by decide, by decide⟩) ?_; conv => whnf)
  rw [show IntKind.u64.wrap (ipick ([a, b].getD (0 + 1 + 0 * ([Am.T.v (Value.int IntKind.i64 b)].length + 1)) 0) 1000) = ipick b 1000 from wrapU h1 (by show ipick b 1000 < _; omega)]
  repeat' (first | exact trivial | exact rfl | (refine And.intro ?_ ?_) | ((conv => whnf); done) | ((conv => whnf); (first | rfl | (refine congrArg (fun b => T.v (Value.bool b)) ?_; first | rfl | exact (decide_eq_true (by omega)).symm | exact (decide_eq_false (by omega)).symm | exact decide_eq_decide.2 (by omega)) | (refine congrArg (fun b => T.v (Value.int _ b)) ?_; first | rfl | omega) | omega)) | (first | rfl | (refine congrArg (fun b => T.v (Value.bool b)) ?_; first | rfl | exact (decide_eq_true (by omega)).symm | exact (decide_eq_false (by omega)).symm | exact decide_eq_decide.2 (by omega)) | (refine congrArg (fun b => T.v (Value.int _ b)) ?_; first | rfl | omega) | omega))
noncomputable def ePair12 : Entry := ⟨7, 5, fun l => match l with | [.agg [.v (.int .i64 a), .v (.int .i64 b)]] => some (some (I64 a ∧ I64 b), .agg [.v (.int .u64 (keyD a)), .v (.int .u64 (ipick b 1000))], []) | _ => none⟩
theorem ePair12_ok : ePair12.ok Tryd.prog glR := ⟨Am.enters_of Tryd.func7 (by kernel_rfl) (by kernel_rfl), by
  intro args c t bs h hc
  simp only [ePair12] at h
  split at h <;> cases h
  replace hc := hc _ rfl
  exact pair12_pure _ _ hc.1 hc.2⟩
set_option maxRecDepth 100000 in
theorem zero12_pure (k p : Int) (m : Nat) (hm : m ≤ 1000) : Pure Tryd.prog glR 9 [.agg [.v (.int .i64 k), .v (.int .i64 p), .v (.int .i64 m)]] (.ow 0 1 (1 + 4 * m)) [(0, .fl [.u64] (List.replicate (1 + 4 * m) 0))] := by
  have e : IntKind.i64.wrap (1 + IntKind.i64.wrap (4 * (m : Int))) = ((1 + 4 * m : Nat) : Int) := by rw [wrap64 (a := 4 * (m : Int)) (by omega) (by omega), wrap64 (by omega) (by omega)]; omega
  refine pure_of (C := ctx0 Tryd.prog) ctx0_good Tryd.func9 (c := bodyOf Tryd.f9) (by rfl) (Nat.le_of_ble_eq_true (by rfl)) 4 0 [0, 1, 2] ?_
  conv => whnf
  rw [e]
  refine And.intro (by omega) ?_
  conv => whnf
  rw [Int.toNat_natCast]
  repeat' (first | exact trivial | exact rfl | (refine And.intro ?_ ?_) | ((conv => whnf); done) | ((conv => whnf); (first | rfl | (refine congrArg (fun b => T.v (Value.bool b)) ?_; first | rfl | exact (decide_eq_true (by omega)).symm | exact (decide_eq_false (by omega)).symm | exact decide_eq_decide.2 (by omega)) | (refine congrArg (fun b => T.v (Value.int _ b)) ?_; first | rfl | omega) | omega)) | (first | rfl | (refine congrArg (fun b => T.v (Value.bool b)) ?_; first | rfl | exact (decide_eq_true (by omega)).symm | exact (decide_eq_false (by omega)).symm | exact decide_eq_decide.2 (by omega)) | (refine congrArg (fun b => T.v (Value.int _ b)) ?_; first | rfl | omega) | omega))
noncomputable def eZero12 : Entry := ⟨9, 4, fun l => match l with | [.agg [.v (.int .i64 k), .v (.int .i64 p), .v (.int .i64 n)]] => some (some (0 ≤ n ∧ n ≤ 1000), .ow 0 1 (1 + 4 * n.toNat), [(0, .fl [.u64] (List.replicate (1 + 4 * n.toNat) 0))]) | _ => none⟩
theorem eZero12_ok : eZero12.ok Tryd.prog glR := ⟨Am.enters_of Tryd.func9 (by kernel_rfl) (by kernel_rfl), by
  intro args c t bs h hc
  simp only [eZero12] at h
  split at h <;> cases h
  replace hc := hc _ rfl
  exact (by obtain ⟨h1, h2⟩ := hc; obtain ⟨m, rfl⟩ := Int.eq_ofNat_of_zero_le h1; exact zero12_pure _ _ m (by omega))⟩
end Go.Proofs.YtnplgklnkcjmnaaDoor.DcT
