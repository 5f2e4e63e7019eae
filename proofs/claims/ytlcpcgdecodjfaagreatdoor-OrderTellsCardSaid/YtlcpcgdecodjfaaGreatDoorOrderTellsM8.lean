/- Texts put together: Bits, FltW, FltW2, FltRO, RefW1, RefW2, FltSum, FltP, RefW3, BaseW, OrA, OrB, OrC, OrD. -/
import Derived.Test.YtlcpcgdecodjfaaGreatDoorOrderTellsM7
import Derived.Laws.BitsAllLaws
import Derived.Laws.Bits64
import Derived.WalkKit
import Derived.WalkLawsBesides
import Derived.Deep.Draws
import Derived.KernelRfl
namespace Go.Proofs.YtlcpcgdecodjfaaGreatDoor.Bits
set_option linter.unusedVariables false
set_option linter.unusedSimpArgs false

theorem and_top_lo (c : Nat) (h : c < 9223372036854775808) : c &&& 9223372036854775808 = 0 := by
  refine Nat.eq_of_testBit_eq fun i => ?_
  rw [Nat.testBit_and, Nat.zero_testBit, show (9223372036854775808 : Nat) = 2 ^ 63 from by decide, Nat.testBit_two_pow]
  by_cases e : 63 = i
  · subst e; rw [Nat.testBit_lt_two_pow (by omega)]; rfl
  · simp [e]

theorem or_top (c : Nat) (h : c < 9223372036854775808) : c ||| 9223372036854775808 = c + 9223372036854775808 := by
  have := Nat.two_pow_add_eq_or_of_lt (i := 63) (b := c) (by omega) 1
  rw [Nat.or_comm]
  simp only [show (2 : Nat) ^ 63 = 9223372036854775808 from by decide, Nat.mul_one] at this
  omega

theorem and_top_hi (c : Nat) (h : 9223372036854775808 ≤ c) (h2 : c < 18446744073709551616) : c &&& 9223372036854775808 = 9223372036854775808 := by
  obtain ⟨d, rfl⟩ : ∃ d, c = d + 9223372036854775808 := ⟨c - 9223372036854775808, by omega⟩
  rw [← or_top d (by omega), Nat.and_or_distrib_right, and_top_lo d (by omega), Nat.and_self, Nat.zero_or]

theorem not_top (c : Nat) : c &&& 9223372036854775807 = c % 9223372036854775808 := by
  have := Nat.and_two_pow_sub_one_eq_mod c 63
  exact this

theorem xor_max (c : Nat) (h : c < 18446744073709551616) : 18446744073709551615 ^^^ c = 18446744073709551615 - c := by
  have e : (BitVec.allOnes 64 ^^^ BitVec.ofNat 64 c).toNat = (~~~ BitVec.ofNat 64 c).toNat := by rw [BitVec.allOnes_xor]
  rw [BitVec.toNat_xor, BitVec.toNat_not, BitVec.toNat_allOnes, BitVec.toNat_ofNat, Nat.mod_eq_of_lt (by omega)] at e
  exact e

theorem xor_top_lo (c : Nat) (h : c < 9223372036854775808) : c ^^^ 9223372036854775808 = c + 9223372036854775808 := by
  rw [← or_top c h]
  refine Nat.eq_of_testBit_eq fun i => ?_
  rw [Nat.testBit_xor, Nat.testBit_or, show (9223372036854775808 : Nat) = 2 ^ 63 from by decide, Nat.testBit_two_pow]
  by_cases e : 63 = i
  · subst e; rw [Nat.testBit_lt_two_pow (by omega)]; rfl
  · simp [e]

theorem xor_top_hi (c : Nat) (h : 9223372036854775808 ≤ c) (h2 : c < 18446744073709551616) : c ^^^ 9223372036854775808 = c - 9223372036854775808 := by
  obtain ⟨d, rfl⟩ : ∃ d, c = d + 9223372036854775808 := ⟨c - 9223372036854775808, by omega⟩
  rw [← xor_top_lo d (by omega), Nat.xor_assoc, Nat.xor_self, Nat.xor_zero, xor_top_lo d (by omega)]; omega

/-! The same as the walk spells it. -/
theorem b_and_top (a : Int) (h0 : 0 ≤ a) (h1 : a < 18446744073709551616) : bits .and .u64 a 9223372036854775808 = if a < 9223372036854775808 then 0 else 9223372036854775808 := by
  rw [u64_and a _ h0 h1 (by decide) (by decide)]
  by_cases h : a < 9223372036854775808
  · rw [if_pos h, show (9223372036854775808 : Int).toNat = 9223372036854775808 from rfl, and_top_lo _ (by omega)]; rfl
  · rw [if_neg h, show (9223372036854775808 : Int).toNat = 9223372036854775808 from rfl, and_top_hi _ (by omega) (by omega)]; rfl

theorem b_or_top (a : Int) (h0 : 0 ≤ a) (h1 : a < 9223372036854775808) : bits .or .u64 a 9223372036854775808 = a + 9223372036854775808 := by
  rw [u64_or a _ h0 (by omega) (by decide) (by decide), show (9223372036854775808 : Int).toNat = 9223372036854775808 from rfl, or_top _ (by omega)]; omega

theorem b_not_top (a : Int) (h0 : 0 ≤ a) (h1 : a < 18446744073709551616) : bits .andNot .u64 a 9223372036854775808 = a % 9223372036854775808 := by
  rw [u64_andNot a _ h0 h1 (by decide) (by decide), show (18446744073709551615 - (9223372036854775808 : Int).toNat) = 9223372036854775807 from rfl, not_top]; omega

theorem b_xor_max (a : Int) (h0 : 0 ≤ a) (h1 : a < 18446744073709551616) : bits .xor .u64 IntKind.u64.max a = 18446744073709551615 - a := by
  rw [show IntKind.u64.max = 18446744073709551615 from rfl, u64_xor _ a (by decide) (by decide) h0 h1, show (18446744073709551615 : Int).toNat = 18446744073709551615 from rfl, xor_max _ (by omega)]; omega

theorem b_xor_top (a : Int) (h0 : 0 ≤ a) (h1 : a < 18446744073709551616) : bits .xor .u64 a 9223372036854775808 = if a < 9223372036854775808 then a + 9223372036854775808 else a - 9223372036854775808 := by
  rw [u64_xor a _ h0 h1 (by decide) (by decide), show (9223372036854775808 : Int).toNat = 9223372036854775808 from rfl]
  by_cases h : a < 9223372036854775808
  · rw [if_pos h, xor_top_lo _ (by omega)]; omega
  · rw [if_neg h, xor_top_hi _ (by omega) (by omega)]; omega

end Go.Proofs.YtlcpcgdecodjfaaGreatDoor.Bits
namespace Go.Proofs.YtlcpcgdecodjfaaGreatDoor
open Go.RowKit
set_option linter.unusedVariables false
set_option linter.unusedSimpArgs false

def iCanon (a : Int) : Int := (Flt.canon a.toNat : Nat)
def iKind (a : Int) : Int := (Flt.kind a.toNat : Nat)
def iRank (a : Int) : Int := (Flt.rank a.toNat : Nat)
def bLess (a b : Int) : Bool := decide (iRank a < iRank b)
def iTop (a b : Int) : Int := (Flt.top a.toNat b.toNat : Nat)
def iSum (a b : Int) : Int := (Flt.sum a.toNat b.toNat : Nat)
def iWord (a : Int) : Int := (Flt.word a.toNat : Nat)
def bWordOk (a : Int) : Bool := Flt.wordOk a.toNat
def iBack (a : Int) : Int := (Flt.back a.toNat : Nat)

theorem u64_nat {a : Int} (h : U64 a) : a.toNat < Flt.maxW := by
  have : Flt.maxW = 18446744073709551616 := rfl
  unfold U64 at h; omega
theorem canon_lt (w : Nat) (h : w < Flt.maxW) : Flt.canon w < Flt.maxW := by
  unfold Flt.canon
  split
  · decide
  · split
    · decide
    · exact h
theorem rank_lt (w : Nat) (h : w < Flt.maxW) : Flt.rank w < Flt.maxW := by
  have := canon_lt w h
  have : Flt.maxW = 18446744073709551616 := rfl
  have : Flt.sgnW = 9223372036854775808 := rfl
  unfold Flt.rank
  split <;> omega
theorem u64_canon {a : Int} (h : U64 a) : U64 (iCanon a) := by
  have h1 := canon_lt _ (u64_nat h)
  have : Flt.maxW = 18446744073709551616 := rfl
  unfold U64 iCanon; omega
theorem u64_rank {a : Int} (h : U64 a) : U64 (iRank a) := by
  have h1 := rank_lt _ (u64_nat h)
  have : Flt.maxW = 18446744073709551616 := rfl
  unfold U64 iRank; omega

@[go_sem] theorem frombits_run (a : Int) (w : World) : (callFunc 56 #[.int .u64 a]).run Tryz.prog w = .ok (.value (.float .f64 a.toNat)) w := by
  rw [run_callFunc_extern Tryz.func56 (by kernel_rfl) (by kernel_rfl) (by kernel_rfl) (e := Extern.MathFloatBits.float64frombits) (by kernel_rfl)]
  rfl
@[go_sem] theorem tobits_run (a : Nat) (w : World) : (callFunc 104 #[.float .f64 a]).run Tryz.prog w = .ok (.value (.int .u64 a)) w := by
  rw [run_callFunc_extern Tryz.func104 (by kernel_rfl) (by kernel_rfl) (by kernel_rfl) (e := Extern.MathFloatBits.float64bits) (by kernel_rfl)]
  rfl


theorem ord_nan (a : Nat) (b : Bool) (h : (FloatKind.f64.format.order a a != some .eq) = b) : decide (Flt.infR < Flt.mag a) = b := by
  rw [← Flt.order_self]; exact h
theorem ord_zero (a : Nat) (b : Bool) (h : (FloatKind.f64.format.order a 0 == some .eq) = b) : decide (Flt.mag a = 0) = b := by
  rw [← Flt.order_zero]; exact h

theorem canon_c1 {a : Int} (h : (FloatKind.f64.format.order a.toNat a.toNat != some .eq) = true) : (9221120237041090561 : Int) = iCanon a := by
  have h := of_decide_eq_true (ord_nan _ _ h)
  unfold iCanon Flt.canon; rw [if_pos h]; rfl
theorem canon_c2 {a : Int} (h : (FloatKind.f64.format.order a.toNat a.toNat != some .eq) = false) (h2 : (FloatKind.f64.format.order a.toNat 0 == some .eq) = true) : (0 : Int) = iCanon a := by
  have h := of_decide_eq_false (ord_nan _ _ h)
  have h2 := of_decide_eq_true (ord_zero _ _ h2)
  unfold iCanon Flt.canon; rw [if_neg h, if_pos h2]; rfl
theorem canon_c3 {a : Int} (ha : U64 a) (h : (FloatKind.f64.format.order a.toNat a.toNat != some .eq) = false) (h2 : (FloatKind.f64.format.order a.toNat 0 == some .eq) = false) : a = iCanon a := by
  have h := of_decide_eq_false (ord_nan _ _ h)
  have h2 := of_decide_eq_false (ord_zero _ _ h2)
  unfold iCanon Flt.canon; rw [if_neg h, if_neg h2]
  unfold U64 at ha; omega

theorem canon_any (a : Int) (ha : U64 a) (w : World) : Calls Tryz.prog 22 #[.int .u64 a] w fun e w' => e = .returned (.int .u64 (iCanon a)) ∧ w = w' := by
  go_enter Tryz.func22, Tryz.ntmps22
  go_wp2
  · go_ret; exact ⟨ret_int (canon_c1 ‹_›), rfl⟩
  · go_ret; exact ⟨ret_int (canon_c2 ‹_› ‹_›), rfl⟩
  · go_ret; exact ⟨ret_int (canon_c3 ha ‹_› ‹_›), rfl⟩

theorem ord_big {a : Int} (ha : U64 a) (hn : ¬ Flt.infR < Flt.mag a.toNat) (b : Bool) (h : (FloatKind.f64.format.order (bits BinOp.andNot IntKind.u64 (max a 0) 9223372036854775808).toNat 9218868437227405311 == some Ordering.gt) = b) :
    decide (Flt.mag a.toNat = Flt.infR) = b := by
  rw [← h]
  unfold U64 at ha
  have e : (bits BinOp.andNot IntKind.u64 (max a 0) 9223372036854775808).toNat = Flt.mag a.toNat := by
    rw [show max a 0 = a by omega, Bits.b_not_top a ha.1 ha.2]
    unfold Flt.mag
    have : Flt.sgnW = 9223372036854775808 := rfl
    rw [this]; omega
  rw [e]
  have e1 : Flt.infR = 9218868437227405312 := rfl
  have e2 : Flt.sgnW = 9223372036854775808 := rfl
  have hm : Flt.mag (Flt.mag a.toNat) = Flt.mag a.toNat := by unfold Flt.mag; exact Nat.mod_mod _ _
  have hg : Flt.neg (Flt.mag a.toNat) = false := by
    unfold Flt.neg Flt.mag; rw [e2]
    rw [Nat.div_eq_of_lt (Nat.mod_lt _ (by decide))]; rfl
  have hM : Flt.mag 9218868437227405311 = 9218868437227405311 := by decide
  have hG : Flt.neg 9218868437227405311 = false := by decide
  change _ = (Ieee.double.order _ _ == some Ordering.gt)
  by_cases i : Flt.mag a.toNat = Flt.infR
  · rw [i]; decide
  · have hl : Flt.mag a.toNat < Flt.infR := by omega
    rw [Flt.order_fin _ _ (by rw [hm]; exact hl) (by decide)]
    unfold Flt.sv
    rw [hg, hG, hm, hM]
    have : ¬ Flt.V 9218868437227405311 < Flt.V (Flt.mag a.toNat) := by rw [Flt.V_lt_iff]; omega
    simp only [i, decide_false]
    simp only [compare, compareOfLessAndEq, Bool.false_eq_true, if_false]
    split
    · rfl
    · rename_i hlt
      rw [if_pos (by omega)]; rfl

theorem kind_c1 {a : Int} (h : (FloatKind.f64.format.order a.toNat a.toNat != some .eq) = true) : (3 : Int) = iKind a := by
  have h := of_decide_eq_true (ord_nan _ _ h)
  unfold iKind Flt.kind; rw [if_pos h]; rfl
theorem kind_c2 {a : Int} (ha : U64 a) (h : (FloatKind.f64.format.order a.toNat a.toNat != some .eq) = false)
    (h1 : (FloatKind.f64.format.order (bits BinOp.andNot IntKind.u64 (max a 0) 9223372036854775808).toNat 9218868437227405311 == some Ordering.gt) = true) : (2 : Int) = iKind a := by
  have h := of_decide_eq_false (ord_nan _ _ h)
  have h1 := of_decide_eq_true (ord_big ha h _ h1)
  unfold iKind Flt.kind; rw [if_neg h, if_pos h1]; rfl
theorem kind_c3 {a : Int} (ha : U64 a) (h : (FloatKind.f64.format.order a.toNat a.toNat != some .eq) = false)
    (h1 : (FloatKind.f64.format.order (bits BinOp.andNot IntKind.u64 (max a 0) 9223372036854775808).toNat 9218868437227405311 == some Ordering.gt) = false)
    (h2 : (FloatKind.f64.format.order a.toNat 0 == some .eq) = true) : (0 : Int) = iKind a := by
  have h := of_decide_eq_false (ord_nan _ _ h)
  have h1 := of_decide_eq_false (ord_big ha h _ h1)
  have h2 := of_decide_eq_true (ord_zero _ _ h2)
  unfold iKind Flt.kind; rw [if_neg h, if_neg h1, if_pos h2]; rfl
theorem kind_c4 {a : Int} (ha : U64 a) (h : (FloatKind.f64.format.order a.toNat a.toNat != some .eq) = false)
    (h1 : (FloatKind.f64.format.order (bits BinOp.andNot IntKind.u64 (max a 0) 9223372036854775808).toNat 9218868437227405311 == some Ordering.gt) = false)
    (h2 : (FloatKind.f64.format.order a.toNat 0 == some .eq) = false) : (1 : Int) = iKind a := by
  have h := of_decide_eq_false (ord_nan _ _ h)
  have h1 := of_decide_eq_false (ord_big ha h _ h1)
  have h2 := of_decide_eq_false (ord_zero _ _ h2)
  unfold iKind Flt.kind; rw [if_neg h, if_neg h1, if_neg h2]; rfl

theorem kind_any (a : Int) (ha : U64 a) (w : World) : Calls Tryz.prog 23 #[.int .u64 a] w fun e w' => e = .returned (.int .i64 (iKind a)) ∧ w = w' := by
  go_enter Tryz.func23, Tryz.ntmps23
  go_wp2
  · go_ret; exact ⟨ret_int (kind_c1 ‹_›), rfl⟩
  · go_ret; exact ⟨ret_int (kind_c2 ha ‹_› ‹_›), rfl⟩
  · go_ret; exact ⟨ret_int (kind_c3 ha ‹_› ‹_› ‹_›), rfl⟩
  · go_ret; exact ⟨ret_int (kind_c4 ha ‹_› ‹_› ‹_›), rfl⟩

theorem rank_c1 {a : Int} (ha : U64 a) (h : (bits BinOp.and IntKind.u64 (iCanon a) 9223372036854775808 == 0) = true) : bits BinOp.or IntKind.u64 (iCanon a) 9223372036854775808 = iRank a := by
  have hc := u64_canon ha
  unfold U64 at hc
  rw [Bits.b_and_top _ hc.1 hc.2] at h
  have hl : iCanon a < 9223372036854775808 := by
    by_cases g : iCanon a < 9223372036854775808
    · exact g
    · rw [if_neg g] at h; simp at h
  rw [Bits.b_or_top _ hc.1 hl]
  have e2 : Flt.sgnW = 9223372036854775808 := rfl
  unfold iRank Flt.rank
  unfold iCanon at hl ⊢
  rw [if_pos (by omega)]; omega
theorem rank_c2 {a : Int} (ha : U64 a) (h : (bits BinOp.and IntKind.u64 (iCanon a) 9223372036854775808 == 0) = false) : bits BinOp.xor IntKind.u64 IntKind.u64.max (iCanon a) = iRank a := by
  have hc := u64_canon ha
  unfold U64 at hc
  rw [Bits.b_and_top _ hc.1 hc.2] at h
  have hl : ¬ iCanon a < 9223372036854775808 := by
    intro g
    rw [if_pos g] at h; simp at h
  rw [Bits.b_xor_max _ hc.1 hc.2]
  have e2 : Flt.sgnW = 9223372036854775808 := rfl
  have e3 : Flt.maxW = 18446744073709551616 := rfl
  unfold iRank Flt.rank
  unfold iCanon at hl hc ⊢
  rw [if_neg (by omega)]; omega

theorem rank_any (a : Int) (ha : U64 a) (w : World) : Calls Tryz.prog 44 #[.int .u64 a] w fun e w' => e = .returned (.int .u64 (iRank a)) ∧ w = w' := by
  go_enter Tryz.func44, Tryz.ntmps44
  go_wp2_with (go_at_call 22; refine (canon_any _ ha _).mono ?_; rintro e w' ⟨rfl, rfl⟩)
  · go_ret; exact ⟨ret_int (rank_c1 ha ‹_›), rfl⟩
  · go_ret; exact ⟨ret_int (rank_c2 ha ‹_›), rfl⟩

theorem less_any (a b : Int) (ha : U64 a) (hb : U64 b) (w : World) : Calls Tryz.prog 24 #[.int .u64 a, .int .u64 b] w fun e w' => e = .returned (.bool (bLess a b)) ∧ w = w' := by
  go_enter Tryz.func24, Tryz.ntmps24
  go_wp2_with fail
  refine (rank_any a ha _).mono ?_
  rintro e w' ⟨rfl, rfl⟩
  go_wp2_with fail
  refine (rank_any b hb _).mono ?_
  rintro e w' ⟨rfl, rfl⟩
  go_wp2_with fail
  go_ret; exact ⟨rfl, rfl⟩

end Go.Proofs.YtlcpcgdecodjfaaGreatDoor
namespace Go.Proofs.YtlcpcgdecodjfaaGreatDoor
open Go.RowKit
set_option linter.unusedVariables false
set_option linter.unusedSimpArgs false

theorem back_lt (r : Nat) (h : r < Flt.maxW) : Flt.back r < Flt.maxW := by
  have : Flt.maxW = 18446744073709551616 := rfl
  have : Flt.sgnW = 9223372036854775808 := rfl
  unfold Flt.back
  split <;> omega
theorem u64_back {a : Int} (h : U64 a) : U64 (iBack a) := by
  have h1 := back_lt _ (u64_nat h)
  have : Flt.maxW = 18446744073709551616 := rfl
  unfold U64 iBack; omega
theorem word_lt (r : Nat) (h : r < Flt.maxW) : Flt.word r < Flt.maxW := by
  unfold Flt.word
  split
  · exact back_lt r h
  · decide
theorem u64_word {a : Int} (h : U64 a) : U64 (iWord a) := by
  have h1 := word_lt _ (u64_nat h)
  have : Flt.maxW = 18446744073709551616 := rfl
  unfold U64 iWord; omega

theorem back_c1 {a : Int} (ha : U64 a) (h : a < 9223372036854775808) : bits BinOp.xor IntKind.u64 IntKind.u64.max a = iBack a := by
  unfold U64 at ha
  rw [Bits.b_xor_max _ ha.1 ha.2]
  have : Flt.maxW = 18446744073709551616 := rfl
  have : Flt.sgnW = 9223372036854775808 := rfl
  unfold iBack Flt.back
  rw [if_pos (by omega)]; omega
theorem back_c2 {a : Int} (ha : U64 a) (h : ¬ a < 9223372036854775808) : bits BinOp.andNot IntKind.u64 a 9223372036854775808 = iBack a := by
  unfold U64 at ha
  rw [Bits.b_not_top _ ha.1 ha.2]
  have : Flt.maxW = 18446744073709551616 := rfl
  have : Flt.sgnW = 9223372036854775808 := rfl
  unfold iBack Flt.back
  rw [if_neg (by omega)]; omega
theorem top_r1 {a : Int} (ha : U64 a) (h : (bits BinOp.and IntKind.u64 a 9223372036854775808 == 0) = true) : a < 9223372036854775808 := by
  unfold U64 at ha
  rw [Bits.b_and_top _ ha.1 ha.2] at h
  by_cases g : a < 9223372036854775808
  · exact g
  · rw [if_neg g] at h; simp at h
theorem top_r2 {a : Int} (ha : U64 a) (h : (bits BinOp.and IntKind.u64 a 9223372036854775808 == 0) = false) : ¬ a < 9223372036854775808 := by
  unfold U64 at ha
  rw [Bits.b_and_top _ ha.1 ha.2] at h
  intro g
  rw [if_pos g] at h; simp at h
theorem ok_c {a : Int} (ha : U64 a) (h : iCanon (iBack a) = iBack a) (h2 : (iRank (iBack a) == a) = true) : bWordOk a = true := by
  unfold U64 at ha
  unfold bWordOk Flt.wordOk
  simp only [beq_iff_eq] at h2
  unfold iCanon iRank iBack at *
  simp only [Int.toNat_natCast] at h h2
  refine decide_eq_true ⟨by omega, by omega⟩
theorem notok_c1 {a : Int} (h : ¬ iCanon (iBack a) = iBack a) : bWordOk a = false := by
  unfold bWordOk Flt.wordOk
  unfold iCanon iBack at *
  simp only [Int.toNat_natCast] at h
  refine decide_eq_false (fun g => h (by omega))
theorem notok_c2 {a : Int} (ha : U64 a) (h : (iRank (iBack a) == a) = false) : bWordOk a = false := by
  unfold U64 at ha
  unfold bWordOk Flt.wordOk
  simp only [beq_eq_false_iff_ne] at h
  unfold iRank iBack at *
  simp only [Int.toNat_natCast] at h
  refine decide_eq_false (fun g => h (by omega))
theorem word_yes {a : Int} (h : bWordOk a = true) : iBack a = iWord a := by
  unfold bWordOk at h; unfold iBack iWord Flt.word; rw [if_pos h]
theorem word_no {a : Int} (h : bWordOk a = false) : 0 = iWord a := by
  unfold bWordOk at h; unfold iWord Flt.word; rw [h]; rfl

theorem word_any (a : Int) (ha : U64 a) (w : World) : Calls Tryz.prog 73 #[.int .u64 a] w fun e w' => e = .returned (.tuple #[.int .u64 (iWord a), .bool (bWordOk a)]) ∧ w = w' := by
  have hb := u64_back ha
  go_enter Tryz.func73, Tryz.ntmps73
  go_wp2_with fail
  · rw [back_c1 ha (top_r1 ha ‹_›)]
    refine (canon_any _ hb _).mono ?_
    rintro e w' ⟨rfl, rfl⟩
    go_wp2_with fail
    · refine (rank_any _ hb _).mono ?_
      rintro e w' ⟨rfl, rfl⟩
      go_wp2_with fail
      · go_ret2; exact ⟨ret_int_bool (word_yes (ok_c ha ‹_› ‹_›)) (ok_c ha ‹_› ‹_›).symm, rfl⟩
      · go_ret2; exact ⟨ret_int_bool (word_no (notok_c2 ha ‹_›)) (notok_c2 ha ‹_›).symm, rfl⟩
    · go_ret2; exact ⟨ret_int_bool (word_no (notok_c1 ‹_›)) (notok_c1 ‹_›).symm, rfl⟩
  · rw [back_c2 ha (top_r2 ha ‹_›)]
    refine (canon_any _ hb _).mono ?_
    rintro e w' ⟨rfl, rfl⟩
    go_wp2_with fail
    · refine (rank_any _ hb _).mono ?_
      rintro e w' ⟨rfl, rfl⟩
      go_wp2_with fail
      · go_ret2; exact ⟨ret_int_bool (word_yes (ok_c ha ‹_› ‹_›)) (ok_c ha ‹_› ‹_›).symm, rfl⟩
      · go_ret2; exact ⟨ret_int_bool (word_no (notok_c2 ha ‹_›)) (notok_c2 ha ‹_›).symm, rfl⟩
    · go_ret2; exact ⟨ret_int_bool (word_no (notok_c1 ‹_›)) (notok_c1 ‹_›).symm, rfl⟩

/-! Ranks and back. -/
theorem canon_canon (w : Nat) : Flt.canon (Flt.canon w) = Flt.canon w := by
  by_cases h : Flt.infR < Flt.mag w
  · have : Flt.canon w = Flt.nanW := by unfold Flt.canon; rw [if_pos h]
    rw [this]; decide
  · by_cases h2 : Flt.mag w = 0
    · have : Flt.canon w = 0 := by unfold Flt.canon; rw [if_neg h, if_pos h2]
      rw [this]; decide
    · have : Flt.canon w = w := by unfold Flt.canon; rw [if_neg h, if_neg h2]
      rw [this, this]
theorem rank_canon (w : Nat) : Flt.rank (Flt.canon w) = Flt.rank w := by
  unfold Flt.rank; rw [canon_canon]
theorem back_rank (w : Nat) (h : w < Flt.maxW) : Flt.back (Flt.rank w) = Flt.canon w := by
  have := canon_lt w h
  have : Flt.maxW = 18446744073709551616 := rfl
  have : Flt.sgnW = 9223372036854775808 := rfl
  unfold Flt.rank
  split
  · unfold Flt.back; rw [if_neg (by omega)]; omega
  · unfold Flt.back; rw [if_pos (by omega)]; omega
theorem wordOk_rank (w : Nat) (h : w < Flt.maxW) : Flt.wordOk (Flt.rank w) = true := by
  unfold Flt.wordOk
  rw [back_rank w h, canon_canon, rank_canon]; simp
theorem word_rank (w : Nat) (h : w < Flt.maxW) : Flt.word (Flt.rank w) = Flt.canon w := by
  unfold Flt.word
  rw [wordOk_rank w h, back_rank w h]; rfl

theorem top_yes {a b : Int} (hb : U64 b) (h : iRank a < iRank b) : iWord (iRank b) = iTop a b := by
  unfold iRank at h
  unfold iWord iTop iRank Flt.top
  rw [if_pos (by omega), Int.toNat_natCast, word_rank _ (u64_nat hb)]
theorem top_no {a b : Int} (ha : U64 a) (h : iRank b ≤ iRank a) : iWord (iRank a) = iTop a b := by
  unfold iRank at h
  unfold iWord iTop iRank Flt.top
  rw [if_neg (by omega), Int.toNat_natCast, word_rank _ (u64_nat ha)]

/-! Sums. -/
theorem add_some {P : Program} (t : TypeId) (x y r : Nat) (h : Ieee.double.add x y = some r) (w : World) : (binOp .add t (.float .f64 x) (.float .f64 y)).run P w = .ok (.float .f64 r) w :=
  run_float_arith w .add t .f64 x y r h
theorem add_none {P : Program} (t : TypeId) (x y : Nat) (h : Ieee.double.add x y = none) (w : World) :
    ∃ r, r < 18446744073709551616 ∧ Flt.infR < Flt.mag r ∧ (binOp .add t (.float .f64 x) (.float .f64 y)).run P w = .ok (.float .f64 r) w.drew := by
  have h' : FloatKind.f64.format.add x y = none := h
  refine ⟨(Question.nanBits .f64 x y).cut (w.tape w.drawn (.nanBits .f64 x y)), ?_, ?_, ?_⟩
  · simp only [Question.cut]; omega
  · simp only [Question.cut]
    unfold Flt.mag
    have e1 : Flt.infR = 9218868437227405312 := rfl
    have e2 : Flt.sgnW = 9223372036854775808 := rfl
    rw [e1, e2]
    generalize w.tape w.drawn (.nanBits .f64 x y) = t
    have : t % 2 = 0 ∨ t % 2 = 1 := by omega
    rcases this with g | g <;> rw [g] <;> omega
  · simp [binOp, Op.floatArith, h', Question.forced]

theorem sum_c1 {a b : Int} {r : Nat} (ha : U64 a) (hb : U64 b) (h : Ieee.double.add a.toNat b.toNat = some r) : iCanon r = iSum a b := by
  unfold iCanon iSum
  rw [Int.toNat_natCast, Flt.sum_of_add _ _ _ (u64_nat ha) (u64_nat hb) h]
theorem sum_c2 {a b : Int} {r : Nat} (hr : Flt.infR < Flt.mag r) (h : Ieee.double.add a.toNat b.toNat = none) : iCanon r = iSum a b := by
  unfold iCanon iSum
  rw [Int.toNat_natCast, Flt.sum_of_none _ _ h]
  unfold Flt.canon; rw [if_pos hr]
theorem u64_nat' {r : Nat} (h : r < 18446744073709551616) : U64 r := by unfold U64; omega

end Go.Proofs.YtlcpcgdecodjfaaGreatDoor
namespace Go.Proofs.YtlcpcgdecodjfaaGreatDoor.Flt
set_option linter.unusedVariables false
set_option linter.unusedSimpArgs false

/-- n / 2^d, its last bit set if anything is lost. -/
def RO (n d : Nat) : Nat := if n % 2 ^ d = 0 then n / 2 ^ d else n / 2 ^ d / 2 * 2 + 1

theorem RO_zero (n : Nat) : RO n 0 = n := by unfold RO; simp [Nat.mod_one]
theorem RO_one (n : Nat) : RO n 1 = if n % 2 = 0 then n / 2 else n / 2 / 2 * 2 + 1 := by unfold RO; rfl
theorem mod_succ_zero (n d : Nat) : n % 2 ^ (d + 1) = 0 ↔ n % 2 ^ d = 0 ∧ n / 2 ^ d % 2 = 0 := by
  have h1 : n % 2 ^ (d + 1) = n % 2 ^ d + 2 ^ d * (n / 2 ^ d % 2) := by rw [Nat.pow_succ, Nat.mod_mul]
  have := pow_pos d
  rw [h1]
  constructor
  · intro h
    have : 2 ^ d * (n / 2 ^ d % 2) = 0 := by omega
    rcases Nat.mul_eq_zero.1 this with g | g <;> omega
  · intro ⟨g1, g2⟩; rw [g1, g2]; simp
theorem div_succ (n d : Nat) : n / 2 ^ (d + 1) = n / 2 ^ d / 2 := by rw [Nat.pow_succ, Nat.div_div_eq_div_mul]

theorem RO_RO (n d : Nat) : RO (RO n d) 1 = RO n (d + 1) := by
  rw [RO_one]
  unfold RO
  simp only [mod_succ_zero, div_succ]
  by_cases h : n % 2 ^ d = 0
  · simp only [h, if_true, true_and]
  · simp only [h, if_false, false_and]
    have e : (n / 2 ^ d / 2 * 2 + 1) % 2 ≠ 0 := by omega
    simp only [e, if_false]; omega

theorem RO_stays {n d : Nat} (h : RO n d ≤ 1) (k : Nat) : RO n (d + k) = RO n d := by
  induction k with
  | zero => rfl
  | succ k ih =>
    rw [← Nat.add_assoc, ← RO_RO, ih, RO_one]
    split <;> omega

/-- RO lies at n / 2^d, or one above. -/
theorem RO_lt (n d m : Nat) : RO n d < 2 * m ↔ n / 2 ^ d < 2 * m := by
  unfold RO; split <;> omega
theorem RO_le (n d : Nat) : n / 2 ^ d ≤ RO n d ∧ RO n d ≤ n / 2 ^ d + 1 := by
  unfold RO; split <;> omega
theorem RO_exact (n d : Nat) : RO (n * 2 ^ d) d = n := by
  unfold RO
  rw [Nat.mul_mod_left, if_pos rfl, Nat.mul_div_cancel _ (pow_pos d)]

theorem RO_add (x y d : Nat) (hx : x % 2 = 0) : x + RO y d = RO (x * 2 ^ d + y) d := by
  unfold RO
  rw [Nat.mul_add_mod', Nat.add_comm (x * 2 ^ d) y, Nat.add_mul_div_right _ _ (pow_pos d)]
  split <;> omega

theorem RO_sub (x y d : Nat) (hx : x % 2 = 0) (h : y ≤ x * 2 ^ d) : x - RO y d = RO (x * 2 ^ d - y) d := by
  have hp := pow_pos d
  have hdm := Nat.div_add_mod y (2 ^ d)
  have hm : y % 2 ^ d < 2 ^ d := Nat.mod_lt _ hp
  generalize hq : y / 2 ^ d = q at *
  generalize hr : y % 2 ^ d = r at *
  by_cases h0 : r = 0
  · subst h0
    have e : x * 2 ^ d - y = (x - q) * 2 ^ d := by rw [Nat.sub_mul, ← hdm]; rw [Nat.mul_comm (2 ^ d) q]; rfl
    rw [e, RO_exact]
    unfold RO; rw [hr, hq]; rfl
  · have hq1 : q < x := by
      refine Nat.lt_of_mul_lt_mul_left (a := 2 ^ d) ?_
      have := Nat.mul_comm x (2 ^ d)
      omega
    have e : x * 2 ^ d - y = (x - q - 1) * 2 ^ d + (2 ^ d - r) := by
      have e1 : x * 2 ^ d = (x - q - 1) * 2 ^ d + q * 2 ^ d + 2 ^ d := by
        rw [← Nat.add_mul, ← Nat.succ_mul]; congr 1; omega
      have := Nat.mul_comm q (2 ^ d)
      omega
    rw [e]
    unfold RO
    rw [hr, hq, Nat.mul_add_mod', Nat.mod_eq_of_lt (show 2 ^ d - r < 2 ^ d by omega), if_neg h0, if_neg (by omega), Nat.add_comm ((x - q - 1) * 2 ^ d), Nat.add_mul_div_right _ _ hp, Nat.div_eq_of_lt (show 2 ^ d - r < 2 ^ d by omega)]
    omega

/-- Rounding at two places or more behind RO is rounding. -/
theorem cut_RO (n d k : Nat) (hk : 2 ≤ k) : cut (RO n d) k = cut n (d + k) := by
  by_cases h : n % 2 ^ d = 0
  · have e : n = n / 2 ^ d * 2 ^ d := by have := Nat.div_add_mod n (2 ^ d); rw [Nat.mul_comm]; omega
    have : cut n (d + k) = cut (n / 2 ^ d) k := by
      rw [e, Nat.add_comm d k, cut_scale, ← e]
    rw [this]; unfold RO; rw [if_pos h]
  · have hp := pow_pos d
    have hf : n % 2 ^ d < 2 ^ d := Nat.mod_lt _ hp
    obtain ⟨j, rfl⟩ : ∃ j, k = j + 2 := ⟨k - 2, by omega⟩
    have hj := pow_pos j
    have hk4 : 2 ^ (j + 2) = 4 * 2 ^ j := by rw [Nat.pow_add, Nat.mul_comm]
    have hdiv : n / 2 ^ (d + (j + 2)) = n / 2 ^ d / 2 ^ (j + 2) := by rw [Nat.pow_add, Nat.div_div_eq_div_mul]
    have hmod : n % 2 ^ (d + (j + 2)) = n % 2 ^ d + 2 ^ d * (n / 2 ^ d % 2 ^ (j + 2)) := by rw [Nat.pow_add, Nat.mod_mul]
    have hpow : 2 ^ (d + (j + 2)) = 2 ^ d * (4 * 2 ^ j) := by rw [Nat.pow_add, hk4]
    unfold cut up RO
    rw [if_neg h, hdiv, hmod, hpow, hk4]
    generalize n / 2 ^ d = q at *
    generalize n % 2 ^ d = f at *
    generalize 2 ^ j = g at *
    generalize 2 ^ d = D at *
    have hqd := Nat.div_add_mod q (4 * g)
    have hql : q % (4 * g) < 4 * g := Nat.mod_lt _ (by omega)
    generalize ht : q % (4 * g) = t at *
    generalize hb : q / (4 * g) = b at *
    have hodd : q / 2 * 2 + 1 = 4 * g * b + (t / 2 * 2 + 1) := by
      have : 4 * g * b = 2 * (2 * (g * b)) := by rw [Nat.mul_assoc]; omega
      omega
    have ht1 : t / 2 * 2 + 1 < 4 * g := by omega
    rw [hodd, Nat.mul_add_mod, Nat.mod_eq_of_lt ht1, Nat.mul_add_div (by omega), Nat.div_eq_of_lt ht1, Nat.add_zero]
    congr 1
    have A : (4 * g < 2 * (t / 2 * 2 + 1)) ↔ 2 * g ≤ t := by omega
    have B1 : ¬ (4 * g = 2 * (t / 2 * 2 + 1)) := by omega
    have C : (D * (4 * g) < 2 * (f + D * t)) ↔ 2 * g ≤ t := by
      constructor
      · intro hh
        refine Nat.le_of_lt_succ (Nat.lt_of_mul_lt_mul_left (a := D) ?_)
        have e1 : D * (4 * g) = 2 * (D * (2 * g)) := by rw [Nat.mul_left_comm 2 D (2 * g), ← Nat.mul_assoc 2 2 g]
        have e2 : D * (t + 1) = D * t + D := by rw [Nat.mul_add, Nat.mul_one]
        have e3 : D * t.succ = D * t + D := e2
        omega
      · intro hh
        have := Nat.mul_le_mul_left D hh
        have e1 : D * (4 * g) = 2 * (D * (2 * g)) := by rw [Nat.mul_left_comm 2 D (2 * g), ← Nat.mul_assoc 2 2 g]
        omega
    have E : ¬ (D * (4 * g) = 2 * (f + D * t)) := by
      intro hh
      have e1 : D * (4 * g) = 2 * (D * (2 * g)) := by rw [Nat.mul_left_comm 2 D (2 * g), ← Nat.mul_assoc 2 2 g]
      have e2 : D * (2 * g) = f + D * t := by omega
      rcases Nat.lt_or_ge t (2 * g) with h1 | h1
      · have := Nat.mul_le_mul_left D (Nat.succ_le_of_lt h1)
        have e3 : D * t.succ = D * t + D := by rw [Nat.succ_eq_add_one, Nat.mul_add, Nat.mul_one]
        omega
      · have := Nat.mul_le_mul_left D h1
        omega
    simp only [A, B1, C, E, false_and, or_false]

/-! ### What the document's 'made' makes -/
def norm1 (e m : Nat) : Nat × Nat := if 72057594037927936 ≤ m then (e + 1, RO m 1) else (e, m)
def norm2 : Nat → Nat → Nat × Nat
  | 0, m => (0, m)
  | 1, m => (1, m)
  | e + 2, m => if m < 36028797018963968 then norm2 (e + 1) (m * 2) else (e + 2, m)
def fin (e m : Nat) : Nat := min ((e - 1) * B + cut m 3) infR
def made (s e m : Nat) : Nat := if m = 0 then 0 else s * sgnW + fin (norm2 (norm1 e m).1 (norm1 e m).2).1 (norm2 (norm1 e m).1 (norm1 e m).2).2

/-- The last step, where nothing is to be shifted any more. -/
theorem fin_RN (N e m : Nat) (hc : cut m 3 = cut N (e - 1)) (hl : N.log2 - 52 = e - 1) : fin e m = RN N := by
  unfold fin RN; rw [hc, hl]

theorem log8 (N : Nat) (h : N ≠ 0) : (8 * N).log2 = N.log2 + 3 := by
  have := log2_mul_pow N 3 h
  rw [Nat.mul_comm]; exact this

theorem norm2_exact (N : Nat) : ∀ (e m : Nat), 1 ≤ e → m * 2 ^ (e - 1) = 8 * N → m < 72057594037927936 → m ≠ 0 → fin (norm2 e m).1 (norm2 e m).2 = RN N := by
  intro e
  induction e with
  | zero => intro m h; omega
  | succ e ih =>
    intro m _ hN hlt hm0
    rw [Nat.add_sub_cancel] at hN
    have hN0 : N ≠ 0 := by
      intro h; subst h
      have := pow_pos e
      rcases Nat.mul_eq_zero.1 hN with g | g <;> omega
    have final : (e = 0 ∨ 36028797018963968 ≤ m) → fin (e + 1) m = RN N := by
      intro hcase
      refine fin_RN N (e + 1) m ?_ ?_
      · rw [Nat.add_sub_cancel]
        have a1 := cut_scale m 3 e
        have a2 := cut_scale N e 3
        rw [hN, Nat.add_comm 3 e] at a1
        rw [Nat.mul_comm N] at a2
        rw [← a1, ← a2]
      · rw [Nat.add_sub_cancel]
        have l1 := log8 N hN0
        rw [← hN, log2_mul_pow m e hm0] at l1
        rcases hcase with h | h
        · subst h
          have := (Nat.log2_lt hm0 (k := 56)).2 (by omega)
          omega
        · have : m.log2 = 55 := (Nat.log2_eq_iff hm0).2 ⟨by omega, by omega⟩
          omega
    match e, ih, final, hN with
    | 0, _, final, _ => exact final (Or.inl rfl)
    | e + 1, ih, final, hN =>
      unfold norm2
      by_cases hb : m < 36028797018963968
      · rw [if_pos hb]
        refine ih (m * 2) (by omega) ?_ (by omega) (by omega)
        rw [Nat.add_sub_cancel, ← hN, Nat.pow_succ, Nat.mul_assoc, Nat.mul_comm 2]
      · rw [if_neg hb]; exact final (Or.inr (by omega))

theorem log_RO (n d j : Nat) (h1 : 2 ^ (j + 1) ≤ RO n d) (h2 : RO n d < 2 ^ (j + 2)) : n ≠ 0 ∧ n.log2 = j + 1 + d := by
  have hp := pow_pos d
  have e1 : (2 : Nat) ^ (j + 1) = 2 * 2 ^ j := by rw [Nat.pow_succ, Nat.mul_comm]
  have e2 : (2 : Nat) ^ (j + 2) = 2 * 2 ^ (j + 1) := by rw [Nat.pow_succ, Nat.mul_comm]
  have g1 : ¬ n / 2 ^ d < 2 ^ (j + 1) := by rw [e1, ← RO_lt, ← e1]; omega
  have g2 : n / 2 ^ d < 2 ^ (j + 2) := by rw [e2, ← RO_lt, ← e2]; exact h2
  rw [Nat.div_lt_iff_lt_mul hp] at g1 g2
  have hn : n ≠ 0 := by
    intro h; subst h
    have := Nat.mul_pos (pow_pos (j + 1)) hp
    omega
  refine ⟨hn, (Nat.log2_eq_iff hn).2 ⟨?_, ?_⟩⟩
  · rw [Nat.pow_add]; omega
  · rw [show j + 1 + d + 1 = (j + 2) + d by omega, Nat.pow_add]; exact g2

theorem norm2_sticky (N n d e f : Nat) (he : e = d + f) (hf : 1 ≤ f) (he2 : 2 ≤ e) (hN : 8 * N = n * 2 ^ (f - 1))
    (h1 : 18014398509481984 ≤ RO n d) (h2 : RO n d < 72057594037927936) : fin (norm2 e (RO n d)).1 (norm2 e (RO n d)).2 = RN N := by
  have hcut : ∀ k, k ≤ 1 → cut (RO n d) (3 - k) = cut N (e - 1 - k) := by
    intro k hk
    rw [cut_RO n d (3 - k) (by omega)]
    have a1 := cut_scale n (d + (3 - k)) (f - 1)
    have a2 := cut_scale N (e - 1 - k) 3
    rw [← a1, ← a2, ← hN, Nat.mul_comm N]
    congr 1; omega
  have hlog : ∀ j, 2 ^ (j + 1) ≤ RO n d → RO n d < 2 ^ (j + 2) → N.log2 + 3 = j + d + f := by
    intro j g1 g2
    obtain ⟨hn, hl⟩ := log_RO n d j g1 g2
    have hN0 : N ≠ 0 := by
      intro h; subst h
      have := pow_pos (f - 1)
      rcases Nat.mul_eq_zero.1 hN.symm with g | g <;> omega
    have l1 := log8 N hN0
    rw [hN, log2_mul_pow n _ hn, hl] at l1
    omega
  obtain ⟨i, rfl⟩ : ∃ i, e = i + 2 := ⟨e - 2, by omega⟩
  unfold norm2
  by_cases hb : RO n d < 36028797018963968
  · rw [if_pos hb]
    have hl := hlog 53 (by omega) (by omega)
    have hs : norm2 (i + 1) (RO n d * 2) = (i + 1, RO n d * 2) := by
      match i with
      | 0 => rfl
      | i + 1 => unfold norm2; rw [if_neg (by omega)]
    rw [hs]
    refine fin_RN N _ _ ?_ (by show N.log2 - 52 = i + 1 - 1; omega)
    show cut (RO n d * 2) 3 = cut N (i + 1 - 1)
    have a := hcut 1 (by omega)
    have b := cut_scale (RO n d) 2 1
    rw [show 3 - 1 = 2 by rfl, ← b] at a
    exact a
  · rw [if_neg hb]
    have hl := hlog 54 (by omega) (by omega)
    have a : cut (RO n d) 3 = cut N (i + 2 - 1) := by
      have := hcut 0 (by omega)
      rw [Nat.sub_zero, Nat.sub_zero] at this
      exact this
    dsimp only
    have b : N.log2 - 52 = i + 2 - 1 := by clear a hcut; omega
    unfold fin RN
    rw [a, b]

/-- What 'made' makes of n / 2^d eighths at exponent d + f: the rung nearest to what that is. -/
theorem made_RN (s N n d f : Nat) (hf : 1 ≤ f) (hN : 8 * N = n * 2 ^ (f - 1)) (h2 : RO n d < 144115188075855872)
    (hx : n % 2 ^ d = 0 ∨ (2 ≤ d + f ∧ 18014398509481984 ≤ RO n d)) : made s (d + f) (RO n d) = if N = 0 then 0 else s * sgnW + RN N := by
  unfold made
  by_cases h0 : N = 0
  · subst h0
    have hn : n = 0 := by
      have := pow_pos (f - 1)
      rcases Nat.mul_eq_zero.1 hN.symm with g | g <;> omega
    subst hn
    have : RO 0 d = 0 := by unfold RO; simp
    rw [if_pos this, if_pos rfl]
  · have hr : RO n d ≠ 0 := by
      intro h
      rcases hx with hx | hx
      · have hn : n = 0 := by
          have := Nat.div_add_mod n (2 ^ d)
          unfold RO at h; rw [if_pos hx] at h; rw [h, hx] at this; simp at this; omega
        subst hn; simp at hN; omega
      · omega
    rw [if_neg hr, if_neg h0]
    refine congrArg (s * sgnW + ·) ?_
    unfold norm1
    by_cases hb : 72057594037927936 ≤ RO n d
    · rw [if_pos hb]
      simp only []
      have hge : 36028797018963968 ≤ RO (RO n d) 1 := by
        have := (RO_le (RO n d) 1).1
        omega
      have hlt : RO (RO n d) 1 < 72057594037927936 := by
        have := (RO_lt (RO n d) 1 36028797018963968).2 (by omega)
        omega
      rw [RO_RO] at hge hlt ⊢
      exact norm2_sticky N n (d + 1) (d + f + 1) f (by omega) hf (by omega) hN (by omega) hlt
    · rw [if_neg hb]
      simp only []
      rcases hx with hx | hx
      · refine norm2_exact N (d + f) (RO n d) (by omega) ?_ (by omega) hr
        have hn : n = RO n d * 2 ^ d := by
          have := Nat.div_add_mod n (2 ^ d)
          unfold RO; rw [if_pos hx, Nat.mul_comm]; omega
        rw [hN]
        have e1 : d + f - 1 = d + (f - 1) := by omega
        rw [e1, Nat.pow_add, ← Nat.mul_assoc, ← hn]
      · exact norm2_sticky N n d (d + f) f rfl hf hx.1 hN hx.2 (by omega)

/-! ### The document's sum is the sum -/
theorem even_of (x : Nat) : 8 * x % 2 = 0 := by omega

def expo (w : Nat) : Nat := w / B % 2048
def frac (w : Nat) : Nat := w % B
/-- exponent and fraction in eighths, as the document writes them -/
def wholeE (w : Nat) : Nat := if expo w = 0 then 1 else expo w
def wholeM (w : Nat) : Nat := if expo w = 0 then frac w * 8 else (frac w + B) * 8
def mant (w : Nat) : Nat := if expo w = 0 then frac w else frac w + B

theorem wholeM_eq (w : Nat) : wholeM w = 8 * mant w := by unfold wholeM mant; split <;> omega
theorem expo_mag (w : Nat) : expo w = mag w / B := by
  have h1 : sgnW = B * 2048 := by decide
  unfold expo mag
  rw [h1, Nat.mod_mul_right_div_self]
theorem frac_mag (w : Nat) : frac w = mag w % B := by
  have h1 : sgnW = B * 2048 := by decide
  unfold frac mag
  rw [h1, Nat.mod_mul_right_mod]
theorem V_mant (w : Nat) : V (mag w) = mant w * 2 ^ (wholeE w - 1) := by
  have hB : 0 < B := by decide
  unfold V mant wholeE
  rw [expo_mag, frac_mag]
  by_cases h : mag w < B
  · rw [if_pos h, if_pos (Nat.div_eq_of_lt h), if_pos (Nat.div_eq_of_lt h), Nat.mod_eq_of_lt h]; simp
  · have : 1 ≤ mag w / B := (Nat.le_div_iff_mul_le hB).2 (by omega)
    rw [if_neg h, if_neg (by omega), if_neg (by omega), Nat.add_comm]
theorem mant_lt (w : Nat) : mant w < 2 * B := by
  have hB : 0 < B := by decide
  have : frac w < B := Nat.mod_lt _ hB
  unfold mant; split <;> omega
theorem wholeE_pos (w : Nat) : 1 ≤ wholeE w := by unfold wholeE; split <;> omega
theorem mant_ge (w : Nat) (h : 2 ≤ wholeE w) : B ≤ mant w := by
  unfold wholeE at h; unfold mant
  split at h
  · omega
  · rw [if_neg (by assumption)]; omega
theorem wholeE_mono {a b : Nat} (h : mag b ≤ mag a) : wholeE b ≤ wholeE a := by
  have hB : 0 < B := by decide
  have := Nat.div_le_div_right (c := B) h
  unfold wholeE
  rw [expo_mag, expo_mag]
  split <;> split <;> omega

/-- The document's way to a sum of two whose signs are the same (plus) or not: of sizes that fall. -/
theorem made_add (s a b : Nat) (h : mag b ≤ mag a) :
    made s (wholeE a) (wholeM a + RO (wholeM b) (wholeE a - wholeE b)) = if V (mag a) + V (mag b) = 0 then 0 else s * sgnW + RN (V (mag a) + V (mag b)) := by
  have he := wholeE_mono h
  have hB : B = 4503599627370496 := rfl
  have ma := mant_lt a
  have mb := mant_lt b
  have pb := wholeE_pos b
  obtain ⟨d, hd⟩ : ∃ d, wholeE a = d + wholeE b := ⟨wholeE a - wholeE b, by omega⟩
  rw [wholeM_eq, wholeM_eq, show wholeE a - wholeE b = d by omega, RO_add _ _ _ (even_of _)]
  have hlt : RO (8 * mant a * 2 ^ d + 8 * mant b) d < 144115188075855872 := by
    rw [← RO_add _ _ _ (even_of _)]
    have := (RO_le (8 * mant b) d).2
    have : 8 * mant b / 2 ^ d ≤ 8 * mant b := Nat.div_le_self _ _
    omega
  rw [hd]
  refine made_RN s _ _ d (wholeE b) pb ?_ hlt ?_
  · rw [V_mant, V_mant, hd, show d + wholeE b - 1 = d + (wholeE b - 1) by omega, Nat.pow_add, ← Nat.mul_assoc, ← Nat.add_mul, ← Nat.mul_assoc, Nat.mul_add, ← Nat.mul_assoc]
  · by_cases h3 : d ≤ 3
    · left
      have e : 8 * mant a * 2 ^ d + 8 * mant b = (8 * mant a + mant b * 2 ^ (3 - d)) * 2 ^ d := by
        rw [Nat.add_mul, Nat.mul_assoc (mant b), ← Nat.pow_add, show 3 - d + d = 3 by omega, Nat.mul_comm (mant b)]
      rw [e, Nat.mul_mod_left]
    · right
      have := mant_ge a (by omega)
      refine ⟨by omega, ?_⟩
      rw [← RO_add _ _ _ (even_of _)]
      omega

theorem made_sub (s a b : Nat) (h : mag b ≤ mag a) :
    made s (wholeE a) (wholeM a - RO (wholeM b) (wholeE a - wholeE b)) = if V (mag a) - V (mag b) = 0 then 0 else s * sgnW + RN (V (mag a) - V (mag b)) := by
  have he := wholeE_mono h
  have hB : B = 4503599627370496 := rfl
  have ma := mant_lt a
  have mb := mant_lt b
  have pb := wholeE_pos b
  obtain ⟨d, hd⟩ : ∃ d, wholeE a = d + wholeE b := ⟨wholeE a - wholeE b, by omega⟩
  have hV : V (mag b) ≤ V (mag a) := by
    rcases Nat.lt_or_ge (mag b) (mag a) with g | g
    · exact Nat.le_of_lt (V_lt g)
    · rw [Nat.le_antisymm h g]; exact Nat.le_refl _
  have hle : 8 * mant b ≤ 8 * mant a * 2 ^ d := by
    rw [V_mant, V_mant, hd, show d + wholeE b - 1 = d + (wholeE b - 1) by omega, Nat.pow_add, ← Nat.mul_assoc] at hV
    have := Nat.le_of_mul_le_mul_right hV (pow_pos _)
    rw [Nat.mul_assoc]; omega
  rw [wholeM_eq, wholeM_eq, show wholeE a - wholeE b = d by omega, RO_sub _ _ _ (even_of _) hle]
  have hsub := RO_sub (8 * mant a) (8 * mant b) d (even_of _) hle
  have hlt : RO (8 * mant a * 2 ^ d - 8 * mant b) d < 144115188075855872 := by
    rw [← hsub]; omega
  rw [hd]
  refine made_RN s _ _ d (wholeE b) pb ?_ hlt ?_
  · rw [V_mant, V_mant, hd, show d + wholeE b - 1 = d + (wholeE b - 1) by omega, Nat.pow_add, ← Nat.mul_assoc, ← Nat.sub_mul, ← Nat.mul_assoc, Nat.mul_sub, ← Nat.mul_assoc]
  · by_cases h3 : d ≤ 3
    · left
      have e : 8 * mant a * 2 ^ d - 8 * mant b = (8 * mant a - mant b * 2 ^ (3 - d)) * 2 ^ d := by
        rw [Nat.sub_mul, Nat.mul_assoc (mant b), ← Nat.pow_add, show 3 - d + d = 3 by omega, Nat.mul_comm (mant b)]
      rw [e, Nat.mul_mod_left]
    · right
      have := mant_ge a (by omega)
      refine ⟨by omega, ?_⟩
      rw [← hsub]
      have r2 := (RO_le (8 * mant b) d).2
      have h16 : 16 ≤ 2 ^ d := by
        have : 2 ^ 4 ≤ 2 ^ d := Nat.pow_le_pow_right (by decide) (by omega)
        omega
      have : 8 * mant b / 2 ^ d ≤ 8 * mant b / 16 := Nat.div_le_div_left h16 (by decide)
      omega

end Go.Proofs.YtlcpcgdecodjfaaGreatDoor.Flt
namespace Go.Proofs.YtlcpcgdecodjfaaGreatDoor
open Go.RowKit
set_option linter.unusedVariables false
set_option linter.unusedSimpArgs false

theorem rparts_any (a : Int) (ha : U64 a) (w : World) : Calls Tryz.prog 105 #[.int .u64 a] w fun e w' => e = .returned (.tuple #[.int .i64 (a / 4503599627370496 % 2048), .int .u64 (a % 4503599627370496)]) ∧ w = w' := by
  obtain ⟨h0, h1⟩ := ha
  go_enter Tryz.func105, Tryz.ntmps105
  go_wp2
  go_ret2
  exact ⟨rfl, rfl⟩

theorem kind_of {a : Int} (ha : U64 a) : iKind a =
    if a / 4503599627370496 % 2048 = 2047 then (if a % 4503599627370496 = 0 then 2 else 3) else if a / 4503599627370496 % 2048 = 0 ∧ a % 4503599627370496 = 0 then 0 else 1 := by
  unfold U64 at ha
  have e1 : Flt.infR = 9218868437227405312 := rfl
  have e2 : Flt.sgnW = 9223372036854775808 := rfl
  unfold iKind Flt.kind Flt.mag
  rw [e1, e2]
  by_cases g1 : a / 4503599627370496 % 2048 = 2047
  · rw [if_pos g1]
    by_cases g2 : a % 4503599627370496 = 0
    · rw [if_pos g2, if_neg (by omega), if_pos (by omega)]; rfl
    · rw [if_neg g2, if_pos (by omega)]; rfl
  · rw [if_neg g1, if_neg (by omega), if_neg (by omega)]
    by_cases g3 : a / 4503599627370496 % 2048 = 0 ∧ a % 4503599627370496 = 0
    · rw [if_pos g3, if_pos (by omega)]; rfl
    · rw [if_neg g3, if_neg (by omega)]; rfl


theorem rkind_any (a : Int) (ha : U64 a) (w : World) : Calls Tryz.prog 83 #[.int .u64 a] w fun e w' => e = .returned (.int .i64 (iKind a)) ∧ w = w' := by
  have hk := kind_of ha
  have H := (show Hid _ from hk)
  clear hk
  go_enter Tryz.func83, Tryz.ntmps83
  go_wp2_with fail
  refine (rparts_any a ha _).mono ?_
  rintro e w' ⟨rfl, rfl⟩
  go_wp2_with fail
  · go_ret; exact ⟨ret_int (by rw [H.out, if_pos ‹_›, if_neg (bne_iff_ne.1 ‹_›)]), rfl⟩
  · go_ret; exact ⟨ret_int (by rw [H.out, if_pos ‹_›, if_pos (bne_false ‹_›)]), rfl⟩
  · go_ret; exact ⟨ret_int (by rw [H.out, if_neg ‹_›, if_pos ⟨‹_›, beq_iff_eq.1 ‹_›⟩]), rfl⟩
  · go_ret; exact ⟨ret_int (by rw [H.out, if_neg ‹_›, if_neg (fun g => beq_eq_false_iff_ne.1 ‹(a % 4503599627370496 == 0) = false› g.2)]), rfl⟩
  · go_ret; exact ⟨ret_int (by rw [H.out, if_neg ‹_›, if_neg (fun g => ‹¬a / 4503599627370496 % 2048 = 0› g.1)]), rfl⟩

theorem shift_or (n : Int) (h0 : 0 ≤ n) (h1 : n < 18446744073709551616) : bits BinOp.or IntKind.u64 (n / 2) (n % 2) = (Flt.RO n.toNat 1 : Nat) := by
  have hor : ∀ q : Nat, q ||| 1 = q / 2 * 2 + 1 := by
    intro q
    have h := Nat.two_pow_add_eq_or_of_lt (i := 1) (b := 1) (by omega) (q / 2)
    rcases Nat.mod_two_eq_zero_or_one q with g | g
    · have : 2 ^ 1 * (q / 2) = q := by omega
      rw [this] at h; omega
    · have hq : q = 2 ^ 1 * (q / 2) + 1 := by omega
      have h2 : q ||| 1 = (2 ^ 1 * (q / 2) ||| 1) ||| 1 := by rw [← h]; rw [← hq]
      rw [h2, Nat.or_assoc, Nat.or_self, ← h]; omega
  obtain ⟨m, rfl⟩ := Int.eq_ofNat_of_zero_le h0
  rw [u64_or _ _ (by omega) (by omega) (by omega) (by omega), Flt.RO_one]
  have e1 : ((m : Int) / 2).toNat = m / 2 := by omega
  have e2 : ((m : Int) % 2).toNat = m % 2 := by omega
  rw [e1, e2, Int.toNat_natCast]
  rcases Nat.mod_two_eq_zero_or_one m with g | g
  · rw [if_pos g, g, Nat.or_zero]
  · rw [if_neg (by omega), g, hor]

theorem RO_u64 (n k : Nat) (h : n < 18446744073709551616) : Flt.RO n k < 18446744073709551616 := by
  cases k with
  | zero => rw [Flt.RO_zero]; exact h
  | succ k =>
    have := (Flt.RO_lt n (k + 1) 9223372036854775808).2 (Nat.lt_of_le_of_lt (Nat.div_le_self _ _) h)
    omega

theorem shifted_end {m k r : Nat} {b v : Int} (hk : (k : Int) ≤ b) (hr : Flt.RO m k = r) (h : (r : Int) ≤ 1 ∨ b ≤ (k : Int)) (hv : v = (r : Int) ∨ (r : Int) = v) : v = (Flt.RO m b.toNat : Nat) := by
  have hv : v = (r : Int) := by omega
  subst hv
  by_cases g : b ≤ (k : Int)
  · have : b.toNat = k := by omega
    rw [this, hr]
  · have h1 := Flt.RO_stays (n := m) (d := k) (by omega) (b.toNat - k)
    rw [show k + (b.toNat - k) = b.toNat by omega, hr] at h1
    rw [h1]

theorem rshifted_any (m : Nat) (b : Int) (hm : m < 18446744073709551616) (hb : 0 ≤ b) (hb2 : b ≤ 4096) (w : World) :
    Calls Tryz.prog 111 #[.int .u64 m, .int .i64 b] w fun e w' => e = .returned (.int .u64 (Flt.RO m b.toNat : Nat)) ∧ w = w' := by
  go_enter Tryz.func111, Tryz.ntmps111
  go_wp2
  go_loop [0, 5] (fun v i => ∃ k : Nat, (k : Int) ≤ b ∧ i = .int .i64 k ∧ v = .int .u64 (Flt.RO m k : Nat)) (fun _ i => (b - intOf i).toNat)
  case atStart => exact ⟨0, by omega, rfl, by rw [Flt.RO_zero]⟩
  case round =>
    obtain ⟨k, hk, rfl, rfl⟩ := hrel
    have hu := RO_u64 m k hm
    have hso := shift_or (Flt.RO m k : Nat) (by omega) (by omega)
    rw [Int.toNat_natCast, Flt.RO_RO] at hso
    have H : Hid (bits BinOp.or IntKind.u64 (((Flt.RO m k : Nat) : Int) / 2) (((Flt.RO m k : Nat) : Int) % 2) = (Flt.RO m (k + 1) : Nat)) := hso
    clear hso
    generalize hr : Flt.RO m k = r at *
    have HR : Hid (Flt.RO m k = r) := hr
    clear hr
    go_wp2
    · go_round
      case rel => exact ⟨k + 1, by omega, by go_num, by rw [H.out]⟩
      case measure => simp [intOf]; omega
    · go_ret; exact ⟨ret_int (shifted_end hk HR.out (Or.inl (by omega)) (Or.inr (beq_iff_eq.1 ‹_›))), rfl⟩
    · go_ret; exact ⟨ret_int (shifted_end hk HR.out (Or.inl (by omega)) (Or.inl rfl)), rfl⟩
    · go_ret; exact ⟨ret_int (shifted_end hk HR.out (Or.inr (by assumption)) (Or.inr (beq_iff_eq.1 ‹_›))), rfl⟩
    · go_ret; exact ⟨ret_int (shifted_end hk HR.out (Or.inr (by assumption)) (Or.inl rfl)), rfl⟩
    · go_ret; exact ⟨ret_int (shifted_end hk HR.out (Or.inr (by assumption)) (Or.inl rfl)), rfl⟩

theorem made_zero (s e : Nat) : Flt.made s e 0 = 0 := rfl
theorem shift_or' (n : Int) (h0 : 0 ≤ n) (h1 : n < 18446744073709551616) : ∃ r : Int, r = (Flt.RO n.toNat 1 : Nat) ∧ bits BinOp.or IntKind.u64 (n / 2) (n % 2) = r ∧ n / 2 ≤ r ∧ r ≤ n / 2 + 1 ∧ (n < 144115188075855872 → r < 72057594037927936) := by
  refine ⟨_, rfl, shift_or n h0 h1, ?_⟩
  have e : n.toNat / 2 ^ 1 = (n / 2).toNat := by omega
  have h := Flt.RO_le n.toNat 1
  have h2 := Flt.RO_lt n.toNat 1 36028797018963968
  rw [e] at h h2
  omega
theorem norm1_hi {x y : Int} (h : 72057594037927936 ≤ y) (hx : 0 ≤ x) {r : Int} (hr : r = (Flt.RO y.toNat 1 : Nat)) (hlt : r < 72057594037927936) : Flt.norm1 (x + 1).toNat r.toNat = Flt.norm1 x.toNat y.toNat := by
  have e : r.toNat = Flt.RO y.toNat 1 := by omega
  unfold Flt.norm1
  rw [if_neg (by omega), if_pos (by omega), e, show (x + 1).toNat = x.toNat + 1 by omega]
theorem norm1_lo {x y : Int} (h : y < 72057594037927936) : Flt.norm1 x.toNat y.toNat = (x.toNat, y.toNat) := by
  unfold Flt.norm1; rw [if_neg (by omega)]
theorem norm2_lo {x y : Int} (h : y < 36028797018963968) (hx : 1 < x) (hy : 0 ≤ y) : Flt.norm2 (x - 1).toNat (y * 2).toNat = Flt.norm2 x.toNat y.toNat := by
  obtain ⟨i, hi⟩ : ∃ i, x.toNat = i + 2 := ⟨x.toNat - 2, by omega⟩
  rw [hi, show (x - 1).toNat = i + 1 by omega, show (y * 2).toNat = y.toNat * 2 by omega]
  conv => rhs; unfold Flt.norm2
  rw [if_pos (by omega)]
theorem norm2_end {x y : Int} (hx : 1 ≤ x) (h : x = 1 ∨ 36028797018963968 ≤ y) : Flt.norm2 x.toNat y.toNat = (x.toNat, y.toNat) := by
  rcases h with h | h
  · subst h; rfl
  · match hx : x.toNat with
    | 0 => rfl
    | 1 => rfl
    | i + 2 => unfold Flt.norm2; rw [if_neg (by omega)]

theorem made_eq {s e m x y x1 y1 : Int} (hs0 : 0 ≤ s) (hx1 : 1 ≤ x1) (hy1 : 1 ≤ y1) (h0 : ¬ m = 0) (hm : 0 ≤ m) (h1 : Flt.norm1 e.toNat m.toNat = (x.toNat, y.toNat)) (h2 : Flt.norm2 x.toNat y.toNat = (x1.toNat, y1.toNat)) :
    ∃ q : Int, ((4 < y1 % 8 ∨ y1 % 8 = 4 ∧ y1 / 8 % 2 = 1) → q = y1 / 8 + 1) ∧ (¬ (4 < y1 % 8 ∨ y1 % 8 = 4 ∧ y1 / 8 % 2 = 1) → q = y1 / 8) ∧
    ((Flt.made s.toNat e.toNat m.toNat : Nat) : Int) = s * 9223372036854775808 + min ((x1 - 1) * 4503599627370496 + q) 9218868437227405312 := by
  refine ⟨(Flt.cut y1.toNat 3 : Nat), ?_, ?_, ?_⟩
  · intro h
    unfold Flt.cut Flt.up
    rw [if_pos (by omega)]; omega
  · intro h
    unfold Flt.cut Flt.up
    rw [if_neg (by omega)]; omega
  · unfold Flt.made Flt.fin
    rw [if_neg (by omega), h1]
    simp only []
    rw [h2]
    simp only []
    have e1 : Flt.infR = 9218868437227405312 := rfl
    have e2 : Flt.sgnW = 9223372036854775808 := rfl
    have e3 : Flt.B = 4503599627370496 := rfl
    rw [e1, e2, e3]
    generalize Flt.cut y1.toNat 3 = c
    omega

set_option maxRecDepth 10000 in
set_option maxHeartbeats 400000 in
theorem rmade_any (s e m : Int) (hs0 : 0 ≤ s) (hs : s ≤ 1) (he : 1 ≤ e) (he2 : e ≤ 2046) (hm0 : 0 ≤ m) (hm : m < 144115188075855872) (w : World) :
    Calls Tryz.prog 112 #[.int .u64 s, .int .i64 e, .int .u64 m] w fun e' w' => e' = .returned (.int .u64 (Flt.made s.toNat e.toNat m.toNat : Nat)) ∧ w = w' := by
  by_cases h0 : m = 0
  · subst h0
    go_enter Tryz.func112, Tryz.ntmps112
    go_wp2
    go_ret
    exact ⟨ret_int (by rw [Int.toNat_zero, made_zero]; rfl), rfl⟩
  · have h0' : (m == 0) = false := by simp; exact h0
    go_enter Tryz.func112, Tryz.ntmps112
    go_wp2
    go_loop [1, 2] (fun e' m' => ∃ x y : Int, e' = .int .i64 x ∧ m' = .int .u64 y ∧ Hid (Flt.norm1 x.toNat y.toNat = Flt.norm1 e.toNat m.toNat) ∧ y < 144115188075855872 ∧ 1 ≤ x ∧ x ≤ 2047 ∧ (x ≤ 2046 ∨ y < 72057594037927936) ∧ 1 ≤ y) (fun _ m' => (intOf m').toNat)
    case atStart => exact ⟨e, m, rfl, rfl, rfl, hm, he, by omega, Or.inl he2, by omega⟩
    case round =>
      obtain ⟨x, y, rfl, rfl, H1, hy, hx1, hx2, hxy, hy1⟩ := hrel
      by_cases hb : 72057594037927936 ≤ y
      · obtain ⟨r, hr, hso, hr1, hr2, hr3⟩ := shift_or' y (by omega) (by omega)
        have HR : Hid (r = (Flt.RO y.toNat 1 : Nat)) := hr
        have hr3 := hr3 hy
        clear hr h0 h0'
        have hx3 : x ≤ 2046 := by omega
        clear hxy
        go_wp2
        go_round
        case rel =>
          refine ⟨x + 1, r, rfl, rfl, ?_, by omega, by omega, by omega, by omega, by omega⟩
          show _ = _
          rw [← H1.out]
          exact norm1_hi hb (by omega) HR.out hr3
        case measure => simp only [intOf]; omega
      · have hb' : y < 72057594037927936 := by omega
        have H2 : Hid (Flt.norm1 e.toNat m.toNat = (x.toNat, y.toNat)) := by
          show _ = _
          rw [← H1.out]; exact norm1_lo hb'
        clear H1 hxy h0' hb
        have H0 : Hid (¬ m = 0) := h0
        clear h0
        go_wp2
        go_loop [1, 2] (fun e' m' => ∃ x1 y1 : Int, e' = .int .i64 x1 ∧ m' = .int .u64 y1 ∧ Hid (Flt.norm2 x1.toNat y1.toNat = Flt.norm2 x.toNat y.toNat) ∧ y1 < 72057594037927936 ∧ 1 ≤ x1 ∧ x1 ≤ 2047 ∧ 1 ≤ y1) (fun e' _ => (intOf e').toNat)
        case atStart => exact ⟨x, y, rfl, rfl, rfl, hb', hx1, hx2, hy1⟩
        case round =>
          obtain ⟨x1, y1, rfl, rfl, H1, hyy, hxx1, hxx2, hyy1⟩ := hrel
          by_cases c1 : y1 < 36028797018963968 ∧ 1 < x1
          · obtain ⟨c1, c2⟩ := c1
            go_wp2
            go_round
            case rel =>
              refine ⟨x1 - 1, y1 * 2, rfl, rfl, ?_, by omega, by omega, by omega, by omega⟩
              show _ = _
              rw [← H1.out]
              exact norm2_lo c1 c2 (by omega)
            case measure => simp [intOf]; omega
          · have H3 : Hid (Flt.norm2 x.toNat y.toNat = (x1.toNat, y1.toNat)) := by
              show _ = _
              rw [← H1.out]; exact norm2_end (by omega) (by omega)
            clear H1
            by_cases c2 : y1 < 36028797018963968
            · have ex : ¬ 1 < x1 := by omega
              clear c1
              go_wp2
              all_goals (go_ret; refine ⟨ret_int ?_, rfl⟩)
              all_goals (obtain ⟨q, q1, q2, q3⟩ := made_eq (s := s) hs0 hxx1 hyy1 H0.out hm0 H2.out H3.out; rw [q3]; clear q3 H3 H2 H0)
              all_goals (simp only [beq_iff_eq, beq_eq_false_iff_ne, ne_eq] at *)
              all_goals omega
            · clear c1
              go_wp2
              all_goals (go_ret; refine ⟨ret_int ?_, rfl⟩)
              all_goals (obtain ⟨q, q1, q2, q3⟩ := made_eq (s := s) hs0 hxx1 hyy1 H0.out hm0 H2.out H3.out; rw [q3]; clear q3 H3 H2 H0)
              all_goals (simp only [beq_iff_eq, beq_eq_false_iff_ne, ne_eq] at *)
              all_goals omega
end Go.Proofs.YtlcpcgdecodjfaaGreatDoor
namespace Go.Proofs.YtlcpcgdecodjfaaGreatDoor
open Go.RowKit
set_option linter.unusedVariables false
set_option linter.unusedSimpArgs false

theorem kind_canon {a : Int} : iCanon a = if iKind a = 3 then 9221120237041090561 else if iKind a = 0 then 0 else (a.toNat : Int) := by
  have e1 : Flt.nanW = 9221120237041090561 := rfl
  have hp : 0 < Flt.infR := by decide
  unfold iCanon iKind Flt.canon Flt.kind
  rw [e1]
  by_cases g1 : Flt.infR < Flt.mag a.toNat
  · simp [g1]
  · by_cases g2 : Flt.mag a.toNat = 0
    · have g3 : ¬ Flt.mag a.toNat = Flt.infR := by rw [g2]; omega
      rw [if_neg g1, if_pos g2, if_neg g1, if_neg g3, if_pos g2]; rfl
    · rw [if_neg g1, if_neg g2, if_neg g1, if_neg g2]
      by_cases g3 : Flt.mag a.toNat = Flt.infR <;> simp [g3]

theorem rcanon_any (a : Int) (ha : U64 a) (w : World) : Calls Tryz.prog 60 #[.int .u64 a] w fun e w' => e = .returned (.int .u64 (iCanon a)) ∧ w = w' := by
  have ht : (a.toNat : Int) = a := by unfold U64 at ha; omega
  have H := (show Hid _ from @kind_canon a)
  have HT : Hid ((a.toNat : Int) = a) := ht
  clear ht
  go_enter Tryz.func60, Tryz.ntmps60
  go_wp2_with fail
  refine (rkind_any a ha _).mono ?_
  rintro e w' ⟨rfl, rfl⟩
  go_wp2_with fail
  · go_ret; exact ⟨ret_int (by rw [H.out, if_pos (beq_iff_eq.1 ‹_›)]), rfl⟩
  · go_ret; exact ⟨ret_int (by rw [H.out, if_neg (beq_eq_false_iff_ne.1 ‹(iKind a == 3) = false›), if_pos (beq_iff_eq.1 ‹(iKind a == 0) = true›)]), rfl⟩
  · go_ret; exact ⟨ret_int (by rw [H.out, if_neg (beq_eq_false_iff_ne.1 ‹(iKind a == 3) = false›), if_neg (beq_eq_false_iff_ne.1 ‹(iKind a == 0) = false›), HT.out]), rfl⟩

theorem rank_eq {a : Int} (ha : U64 a) : iRank a = if iCanon a < 9223372036854775808 then iCanon a + 9223372036854775808 else 18446744073709551615 - iCanon a := by
  have hc := u64_canon ha
  have e2 : Flt.sgnW = 9223372036854775808 := rfl
  have e3 : Flt.maxW = 18446744073709551616 := rfl
  unfold U64 iCanon at hc
  unfold iRank Flt.rank iCanon
  rw [e2, e3]
  split <;> split <;> omega

theorem rrank_any (a : Int) (ha : U64 a) (w : World) : Calls Tryz.prog 45 #[.int .u64 a] w fun e w' => e = .returned (.int .u64 (iRank a)) ∧ w = w' := by
  have H := (show Hid _ from rank_eq ha)
  obtain ⟨c0, c1⟩ := u64_canon ha
  go_enter Tryz.func45, Tryz.ntmps45
  go_wp2_with fail
  refine (rcanon_any a ha _).mono ?_
  rintro e w' ⟨rfl, rfl⟩
  generalize iCanon a = c at *
  by_cases hl : c < 9223372036854775808
  · go_wp2_with fail
    go_ret; exact ⟨ret_int (by rw [H.out, if_pos hl]), rfl⟩
  · go_wp2_with fail
    go_ret; exact ⟨ret_int (by rw [H.out, if_neg (by omega), Bits.b_xor_max _ c0 c1]), rfl⟩

theorem rless_any (a b : Int) (ha : U64 a) (hb : U64 b) (w : World) : Calls Tryz.prog 106 #[.int .u64 a, .int .u64 b] w fun e w' => e = .returned (.bool (bLess a b)) ∧ w = w' := by
  go_enter Tryz.func106, Tryz.ntmps106
  go_wp2_with fail
  refine (rrank_any a ha _).mono ?_
  rintro e w' ⟨rfl, rfl⟩
  go_wp2_with fail
  refine (rrank_any b hb _).mono ?_
  rintro e w' ⟨rfl, rfl⟩
  go_wp2_with fail
  go_ret; exact ⟨rfl, rfl⟩

theorem top_eq {a b : Int} : iTop a b = if bLess a b = true then iCanon b else iCanon a := by
  unfold iTop bLess iRank iCanon Flt.top
  by_cases h : Flt.rank a.toNat < Flt.rank b.toNat
  · rw [if_pos h, if_pos (decide_eq_true (by omega))]
  · rw [if_neg h, if_neg (by rw [decide_eq_true_eq]; omega)]

theorem rmax_any (a b : Int) (ha : U64 a) (hb : U64 b) (w : World) : Calls Tryz.prog 89 #[.int .u64 a, .int .u64 b] w fun e w' => e = .returned (.int .u64 (iTop a b)) ∧ w = w' := by
  have H := (show Hid _ from @top_eq a b)
  go_enter Tryz.func89, Tryz.ntmps89
  go_wp2_with fail
  refine (rless_any a b ha hb _).mono ?_
  rintro e w' ⟨rfl, rfl⟩
  go_wp2_with fail
  · refine (rcanon_any b hb _).mono ?_
    rintro e w' ⟨rfl, rfl⟩
    go_wp2_with fail
    go_ret; exact ⟨ret_int (by rw [H.out, if_pos ‹_›]), rfl⟩
  · refine (rcanon_any a ha _).mono ?_
    rintro e w' ⟨rfl, rfl⟩
    go_wp2_with fail
    go_ret; exact ⟨ret_int (by rw [H.out, if_neg (by rw [Bool.not_eq_true]; assumption)]), rfl⟩


theorem rback_c1 {a : Int} (ha : U64 a) (h : a < 9223372036854775808) : bits BinOp.xor IntKind.u64 IntKind.u64.max a = iBack a := back_c1 ha h
theorem rback_c2 {a : Int} (ha : U64 a) (h : ¬ a < 9223372036854775808) : a - 9223372036854775808 = iBack a := by
  unfold U64 at ha
  have e2 : Flt.sgnW = 9223372036854775808 := rfl
  unfold iBack Flt.back
  rw [if_neg (by omega)]; omega

theorem rword_any (a : Int) (ha : U64 a) (w : World) : Calls Tryz.prog 117 #[.int .u64 a] w fun e w' => e = .returned (.tuple #[.int .u64 (iWord a), .bool (bWordOk a)]) ∧ w = w' := by
  have hb := u64_back ha
  obtain ⟨a0, a1⟩ := id ha
  by_cases hl : a < 9223372036854775808
  · go_enter Tryz.func117, Tryz.ntmps117
    go_wp2_with fail
    rw [rback_c1 ha hl]
    refine (rcanon_any _ hb _).mono ?_
    rintro e w' ⟨rfl, rfl⟩
    go_wp2_with fail
    · refine (rrank_any _ hb _).mono ?_
      rintro e w' ⟨rfl, rfl⟩
      go_wp2_with fail
      · go_ret2; exact ⟨ret_int_bool (word_no (notok_c2 ha (bne_beq ‹_›))) (notok_c2 ha (bne_beq ‹_›)).symm, rfl⟩
      · go_ret2; exact ⟨ret_int_bool (word_yes (ok_c ha ‹_› (bne_beq' ‹_›))) (ok_c ha ‹_› (bne_beq' ‹_›)).symm, rfl⟩
    · go_ret2; exact ⟨ret_int_bool (word_no (notok_c1 ‹_›)) (notok_c1 ‹_›).symm, rfl⟩
  · go_enter Tryz.func117, Tryz.ntmps117
    go_wp2_with fail
    rw [rback_c2 ha (by omega)]
    refine (rcanon_any _ hb _).mono ?_
    rintro e w' ⟨rfl, rfl⟩
    go_wp2_with fail
    · refine (rrank_any _ hb _).mono ?_
      rintro e w' ⟨rfl, rfl⟩
      go_wp2_with fail
      · go_ret2; exact ⟨ret_int_bool (word_no (notok_c2 ha (bne_beq ‹_›))) (notok_c2 ha (bne_beq ‹_›)).symm, rfl⟩
      · go_ret2; exact ⟨ret_int_bool (word_yes (ok_c ha ‹_› (bne_beq' ‹_›))) (ok_c ha ‹_› (bne_beq' ‹_›)).symm, rfl⟩
    · go_ret2; exact ⟨ret_int_bool (word_no (notok_c1 ‹_›)) (notok_c1 ‹_›).symm, rfl⟩

/-! ### The sum -/
theorem rlesser_any (a b : Int) (ha : U64 a) (hb : U64 b) (w : World) : Calls Tryz.prog 109 #[.int .u64 a, .int .u64 b] w fun e w' => e = .returned (.bool (decide (a % 9223372036854775808 < b % 9223372036854775808))) ∧ w = w' := by
  obtain ⟨a0, a1⟩ := id ha
  obtain ⟨b0, b1⟩ := id hb
  go_enter Tryz.func109, Tryz.ntmps109
  go_wp2
  go_ret; exact ⟨rfl, rfl⟩

theorem whole_eq {a : Int} (ha : U64 a) : ((Flt.wholeE a.toNat : Nat) : Int) = (if a / 4503599627370496 % 2048 = 0 then 1 else a / 4503599627370496 % 2048) ∧
    ((Flt.wholeM a.toNat : Nat) : Int) = (if a / 4503599627370496 % 2048 = 0 then a % 4503599627370496 * 8 else (a % 4503599627370496 + 4503599627370496) * 8) := by
  unfold U64 at ha
  have e1 : Flt.B = 4503599627370496 := rfl
  unfold Flt.wholeE Flt.wholeM Flt.expo Flt.frac
  rw [e1]
  constructor <;> split <;> split <;> omega

theorem rwhole_any (a : Int) (ha : U64 a) (w : World) : Calls Tryz.prog 110 #[.int .u64 a] w fun e w' => e = .returned (.tuple #[.int .i64 (Flt.wholeE a.toNat : Nat), .int .u64 (Flt.wholeM a.toNat : Nat)]) ∧ w = w' := by
  obtain ⟨a0, a1⟩ := id ha
  have H := (show Hid _ from whole_eq ha)
  go_enter Tryz.func110, Tryz.ntmps110
  go_wp2_with fail
  refine (rparts_any a ha _).mono ?_
  rintro e w' ⟨rfl, rfl⟩
  go_wp2_with fail
  · have h := beq_iff_eq.1 ‹(a / 4503599627370496 % 2048 == 0) = true›
    go_ret2; exact ⟨ret_int2 (by rw [H.out.1, if_pos h]) (by rw [H.out.2, if_pos h]), rfl⟩
  · have h := beq_eq_false_iff_ne.1 ‹(a / 4503599627370496 % 2048 == 0) = false›
    go_ret2; exact ⟨ret_int2 (by rw [H.out.1, if_neg h]) (by rw [H.out.2, if_neg h]), rfl⟩

end Go.Proofs.YtlcpcgdecodjfaaGreatDoor
namespace Go.Proofs.YtlcpcgdecodjfaaGreatDoor
set_option linter.unusedVariables false
set_option linter.unusedSimpArgs false
namespace Flt
theorem canon_word (s r : Nat) (hs : s ≤ 1) (h0 : 0 < r) (h1 : r ≤ infR) : canon (s * sgnW + r) = s * sgnW + r := by
  have e1 : infR = 9218868437227405312 := rfl
  have e2 : sgnW = 9223372036854775808 := rfl
  unfold canon mag
  rw [e1] at h1; rw [e1, e2]
  rw [if_neg (by omega), if_neg (by omega)]
theorem mag_canon_nan (a : Nat) : infR < mag (canon a) ↔ infR < mag a := by
  unfold canon
  by_cases h : infR < mag a
  · rw [if_pos h]; exact ⟨fun _ => h, fun _ => by decide⟩
  · rw [if_neg h]
    by_cases g : mag a = 0
    · rw [if_pos g]; exact ⟨fun k => absurd k (by decide), fun k => absurd k h⟩
    · rw [if_neg g]
theorem canon_self (a : Nat) (h : ¬ infR < mag a) (g : mag a ≠ 0) : canon a = a := by unfold canon; rw [if_neg h, if_neg g]
theorem sv_canon (a : Nat) (h : ¬ infR < mag a) : sv (canon a) = sv a ∧ mag (canon a) = mag a := by
  by_cases g : mag a = 0
  · have : canon a = 0 := by unfold canon; rw [if_neg h, if_pos g]
    rw [this, (sv_zero a).2 g, g]; decide
  · rw [canon_self a h g]; exact ⟨rfl, rfl⟩
theorem sum_canon (a b : Nat) : sum (canon a) (canon b) = sum a b := by
  unfold sum
  simp only [mag_canon_nan]
  by_cases hn : infR < mag a ∨ infR < mag b
  · rw [if_pos hn, if_pos hn]
  · rw [if_neg hn, if_neg hn]
    obtain ⟨a1, a2⟩ := sv_canon a (by omega)
    obtain ⟨b1, b2⟩ := sv_canon b (by omega)
    have hi : infR ≠ 0 := by decide
    rw [a2, b2]
    unfold sumFin
    rw [a1, b1]
    by_cases ha : mag a = infR
    · have ea : canon a = a := canon_self a (by omega) (by omega)
      by_cases hb : mag b = infR
      · have eb : canon b = b := canon_self b (by omega) (by omega)
        rw [ea, eb]
      · rw [ea, if_pos ha, if_pos ha, if_neg (fun g => hb g.1), if_neg (fun g => hb g.1)]
    · rw [if_neg ha, if_neg ha]
      by_cases hb : mag b = infR
      · have eb : canon b = b := canon_self b (by omega) (by omega)
        rw [eb]
      · rw [if_neg hb, if_neg hb]
theorem same_inf (a b : Nat) (ha : a < maxW) (hb : b < maxW) (h1 : mag a = infR) (h2 : mag b = infR) : neg a = neg b ↔ a = b := by
  constructor
  · intro h
    have self : ∀ w, w < maxW → w = (if neg w then sgnW else 0) + mag w := by
      intro w hw
      unfold neg mag
      have e1 : sgnW = 9223372036854775808 := rfl
      have e2 : maxW = 18446744073709551616 := rfl
      rw [e2] at hw; rw [e1]
      by_cases g : w / 9223372036854775808 % 2 = 1
      · simp [g]; omega
      · simp [g]; omega
    rw [self a ha, self b hb, h1, h2, h]
  · intro h; rw [h]
theorem sum_comm (a b : Nat) (ha : a < maxW) (hb : b < maxW) : sum a b = sum b a := by
  unfold sum
  by_cases hn : infR < mag a ∨ infR < mag b
  · rw [if_pos hn, if_pos (Or.comm.1 hn)]
  · rw [if_neg hn, if_neg (fun h => hn (Or.comm.1 h))]
    by_cases h1 : mag a = infR
    · by_cases h2 : mag b = infR
      · have := same_inf a b ha hb h1 h2
        simp only [h1, h2, if_true, true_and]
        by_cases e : a = b
        · subst e; rfl
        · have n1 : neg a ≠ neg b := fun h => e (this.1 h)
          simp [n1, Ne.symm n1]
      · simp [h1, h2]
    · by_cases h2 : mag b = infR
      · simp [h1, h2]
      · simp only [h1, h2, if_false]
        unfold sumFin
        rw [Int.add_comm]

/-- What the document makes of two canonical finite words, the first one's size not less, is their sum. -/
theorem made_sum (x y : Nat) (hx : x < maxW) (hy : y < maxW) (h1 : mag x < infR) (h2 : mag y < infR) (h : mag y ≤ mag x) :
    canon (if x / sgnW = y / sgnW then made (x / sgnW) (wholeE x) (wholeM x + RO (wholeM y) (wholeE x - wholeE y))
      else made (x / sgnW) (wholeE x) (wholeM x - RO (wholeM y) (wholeE x - wholeE y))) = sum x y := by
  have e2 : sgnW = 9223372036854775808 := rfl
  have e3 : maxW = 18446744073709551616 := rfl
  have sx : x / sgnW = if neg x then 1 else 0 := by
    unfold neg; rw [e2]; rw [e3] at hx
    by_cases g : x / 9223372036854775808 % 2 = 1
    · simp [g]; omega
    · simp [g]; omega
  have sy : y / sgnW = if neg y then 1 else 0 := by
    unfold neg; rw [e2]; rw [e3] at hy
    by_cases g : y / 9223372036854775808 % 2 = 1
    · simp [g]; omega
    · simp [g]; omega
  have hV : V (mag y) ≤ V (mag x) := by
    rcases Nat.lt_or_ge (mag y) (mag x) with g | g
    · exact Nat.le_of_lt (V_lt g)
    · rw [Nat.le_antisymm h g]; exact Nat.le_refl _
  have hc0 : canon 0 = 0 := by decide
  have close : ∀ s n, s ≤ 1 → canon (if n = 0 then 0 else s * sgnW + RN n) = if n = 0 then 0 else s * sgnW + RN n := by
    intro s n hs
    by_cases g : n = 0
    · rw [if_pos g, hc0]
    · rw [if_neg g, canon_word s _ hs (RN_pos n (by omega)) (RN_le n)]
  have hsum : sum x y = sumFin x y := by
    unfold sum; rw [if_neg (by omega), if_neg (by omega), if_neg (by omega)]
  rw [hsum, made_add _ _ _ h, made_sub _ _ _ h]
  have hs1 : x / sgnW ≤ 1 := by rw [sx]; split <;> omega
  unfold sumFin sv
  by_cases hs : x / sgnW = y / sgnW
  · rw [if_pos hs, close _ _ hs1]
    have hn : neg x = neg y := by
      rw [sx, sy] at hs
      cases h1 : neg x <;> cases h2 : neg y <;> rw [h1, h2] at hs <;> simp at hs <;> rfl
    rw [sx, ← hn]
    cases neg x
    · simp only [Bool.false_eq_true, if_false]
      rw [show ((V (mag x) : Nat) : Int) + (V (mag y) : Nat) = ((V (mag x) + V (mag y) : Nat) : Int) by omega]
      generalize V (mag x) + V (mag y) = t
      rw [Int.natAbs_natCast]
      by_cases g : t = 0
      · subst g; rfl
      · rw [if_neg g, if_neg (by omega), if_neg (by omega)]; omega
    · simp only [if_true]
      rw [show -((V (mag x) : Nat) : Int) + -((V (mag y) : Nat) : Int) = -((V (mag x) + V (mag y) : Nat) : Int) by omega]
      generalize V (mag x) + V (mag y) = t
      rw [Int.natAbs_neg, Int.natAbs_natCast]
      by_cases g : t = 0
      · subst g; rfl
      · rw [if_neg g, if_neg (by omega), if_pos (by omega)]; omega
  · rw [if_neg hs, close _ _ hs1]
    have hn : neg y = !neg x := by
      rw [sx, sy] at hs
      cases h1 : neg x <;> cases h2 : neg y <;> rw [h1, h2] at hs <;> simp at hs <;> rfl
    rw [sx, hn]
    cases neg x
    · simp only [Bool.false_eq_true, if_false, Bool.not_false, if_true]
      rw [show ((V (mag x) : Nat) : Int) + -((V (mag y) : Nat) : Int) = ((V (mag x) - V (mag y) : Nat) : Int) by omega]
      generalize V (mag x) - V (mag y) = t
      rw [Int.natAbs_natCast]
      by_cases g : t = 0
      · subst g; rfl
      · rw [if_neg g, if_neg (by omega), if_neg (by omega)]; omega
    · simp only [if_true, Bool.not_true, Bool.false_eq_true, if_false]
      rw [show -((V (mag x) : Nat) : Int) + ((V (mag y) : Nat) : Int) = -((V (mag x) - V (mag y) : Nat) : Int) by omega]
      generalize V (mag x) - V (mag y) = t
      rw [Int.natAbs_neg, Int.natAbs_natCast]
      by_cases g : t = 0
      · subst g; rfl
      · rw [if_neg g, if_neg (by omega), if_pos (by omega)]; omega
end Flt
end Go.Proofs.YtlcpcgdecodjfaaGreatDoor
namespace Go.Proofs.YtlcpcgdecodjfaaGreatDoor
open Go.RowKit
set_option linter.unusedVariables false
set_option linter.unusedSimpArgs false
namespace Flt
theorem self_eq (w : Nat) (hw : w < maxW) : w = (if neg w then sgnW else 0) + mag w := by
  unfold neg mag
  have e1 : sgnW = 9223372036854775808 := rfl
  have e2 : maxW = 18446744073709551616 := rfl
  rw [e2] at hw; rw [e1]
  by_cases g : w / 9223372036854775808 % 2 = 1
  · simp [g]; omega
  · simp [g]; omega
theorem mag_lt (w : Nat) : mag w < sgnW := Nat.mod_lt _ (by decide)
theorem word_eq (w : Nat) (hw : w < maxW) : (neg w = true ∧ w = sgnW + mag w) ∨ (neg w = false ∧ w = mag w) := by
  have := self_eq w hw
  cases h : neg w <;> rw [h] at this <;> simp at this
  · exact Or.inr ⟨rfl, this⟩
  · exact Or.inl ⟨rfl, this⟩
theorem sv_neg {w : Nat} (h : neg w = true) : sv w = -((V (mag w) : Nat) : Int) := by unfold sv; rw [h]; rfl
theorem sv_pos {w : Nat} (h : neg w = false) : sv w = ((V (mag w) : Nat) : Int) := by unfold sv; rw [h]; rfl
theorem rank_self (w : Nat) (h : canon w = w) : rank w = if w < sgnW then w + sgnW else maxW - 1 - w := by unfold rank; rw [h]
/-- Of a canonical word that is negative the size is not 0. -/
theorem canon_neg {w : Nat} (h : canon w = w) (hn : w = sgnW + mag w) : 0 < mag w := by
  have e1 : sgnW = 9223372036854775808 := rfl
  rcases Nat.eq_zero_or_pos (mag w) with g | g
  · exfalso
    unfold canon at h
    have : 0 < infR := by decide
    rw [if_neg (by omega), if_pos g] at h
    omega
  · exact g
theorem rank_sv (x y : Nat) (hx : x < maxW) (hy : y < maxW) (cx : canon x = x) (cy : canon y = y) : rank x < rank y ↔ sv x < sv y := by
  have e1 : sgnW = 9223372036854775808 := rfl
  have e2 : maxW = 18446744073709551616 := rfl
  have mx := mag_lt x
  have my := mag_lt y
  rw [rank_self x cx, rank_self y cy]
  rcases word_eq x hx with ⟨nx, ex⟩ | ⟨nx, ex⟩ <;> rcases word_eq y hy with ⟨ny, ey⟩ | ⟨ny, ey⟩
  · rw [sv_neg nx, sv_neg ny, if_neg (by omega), if_neg (by omega)]
    have := V_lt_iff (mag y) (mag x)
    omega
  · rw [sv_neg nx, sv_pos ny, if_neg (by omega), if_pos (by omega)]
    have p := canon_neg cx ex
    have := V_lt p
    omega
  · rw [sv_pos nx, sv_neg ny, if_pos (by omega), if_neg (by omega)]
    omega
  · rw [sv_pos nx, sv_pos ny, if_pos (by omega), if_pos (by omega)]
    have := V_lt_iff (mag x) (mag y)
    omega
theorem sv_inj (x y : Nat) (hx : x < maxW) (hy : y < maxW) (cx : canon x = x) (cy : canon y = y) (h : sv x = sv y) : x = y := by
  rcases word_eq x hx with ⟨nx, ex⟩ | ⟨nx, ex⟩ <;> rcases word_eq y hy with ⟨ny, ey⟩ | ⟨ny, ey⟩
  · rw [sv_neg nx, sv_neg ny] at h
    have := V_inj (r := mag x) (s := mag y) (by omega)
    omega
  · rw [sv_neg nx, sv_pos ny] at h
    have p := canon_neg cx ex
    have := V_lt p
    omega
  · rw [sv_pos nx, sv_neg ny] at h
    have p := canon_neg cy ey
    have := V_lt p
    omega
  · rw [sv_pos nx, sv_pos ny] at h
    have := V_inj (r := mag x) (s := mag y) (by omega)
    omega

theorem rank_inj (x y : Nat) (hx : x < maxW) (hy : y < maxW) : rank x = rank y ↔ canon x = canon y := by
  constructor
  · intro h; rw [← back_rank x hx, ← back_rank y hy, h]
  · intro h; rw [← rank_canon x, ← rank_canon y, h]

/-- A canonical word's size is at most that of what is infinite, but for the one that is no number. -/
theorem canon_cases (w : Nat) (hw : w < maxW) : canon w = nanW ∨ (canon w = 0) ∨ (canon w = w ∧ mag w ≤ infR) := by
  unfold canon
  by_cases h : infR < mag w
  · left; rw [if_pos h]
  · rw [if_neg h]
    by_cases g : mag w = 0
    · right; left; rw [if_pos g]
    · right; right; rw [if_neg g]; exact ⟨rfl, by omega⟩
theorem rank_ge (w : Nat) (hw : w < maxW) : 4503599627370495 ≤ rank w := by
  have e1 : sgnW = 9223372036854775808 := rfl
  have e2 : maxW = 18446744073709551616 := rfl
  have e3 : nanW = 9221120237041090561 := rfl
  have e4 : infR = 9218868437227405312 := rfl
  unfold rank
  rcases canon_cases w hw with h | h | ⟨h, g⟩
  · rw [h, e3, e1]; decide
  · rw [h, e1]; decide
  · rw [h]
    rcases word_eq w hw with ⟨nx, ex⟩ | ⟨nx, ex⟩
    · rw [if_neg (by omega)]; omega
    · rw [if_pos (by omega)]; omega
theorem rank_le (w : Nat) (hw : w < maxW) : rank w ≤ 18444492273895866369 ∧ (rank w = 18444492273895866369 ↔ infR < mag w) := by
  have e1 : sgnW = 9223372036854775808 := rfl
  have e2 : maxW = 18446744073709551616 := rfl
  have e3 : nanW = 9221120237041090561 := rfl
  have e4 : infR = 9218868437227405312 := rfl
  have hc : infR < mag w ↔ canon w = nanW := by
    constructor
    · intro h; unfold canon; rw [if_pos h]
    · intro h
      rw [← mag_canon_nan, h]; decide
  rw [hc]
  unfold rank
  rcases canon_cases w hw with h | h | ⟨h, g⟩
  · rw [h, e3, e1]; decide
  · rw [h, e3, e1]; decide
  · rw [h, e3]
    rcases word_eq w hw with ⟨nx, ex⟩ | ⟨nx, ex⟩
    · rw [if_neg (by omega)]; omega
    · rw [if_pos (by omega)]; omega

theorem top_rank (a b : Nat) : rank (top a b) = max (rank a) (rank b) := by
  unfold top
  split
  · rw [rank_canon]; omega
  · rw [rank_canon]; omega
theorem top_canon (a b : Nat) : canon (top a b) = top a b := by
  unfold top; split <;> rw [canon_canon]
theorem top_lt (a b : Nat) (ha : a < maxW) (hb : b < maxW) : top a b < maxW := by
  unfold top
  split
  · exact canon_lt b hb
  · exact canon_lt a ha
theorem canon_ext (x y : Nat) (hx : x < maxW) (hy : y < maxW) (cx : canon x = x) (cy : canon y = y) (h : rank x = rank y) : x = y := by
  have := (rank_inj x y hx hy).1 h
  rw [cx, cy] at this; exact this
theorem top_comm (a b : Nat) (ha : a < maxW) (hb : b < maxW) : top a b = top b a :=
  canon_ext _ _ (top_lt a b ha hb) (top_lt b a hb ha) (top_canon _ _) (top_canon _ _) (by rw [top_rank, top_rank]; omega)
theorem top_assoc (a b c : Nat) (ha : a < maxW) (hb : b < maxW) (hc : c < maxW) : top (top a b) c = top a (top b c) :=
  canon_ext _ _ (top_lt _ c (top_lt a b ha hb) hc) (top_lt a _ ha (top_lt b c hb hc)) (top_canon _ _) (top_canon _ _) (by rw [top_rank, top_rank, top_rank, top_rank]; omega)
theorem top_one (a b : Nat) : top a b = canon a ∨ top a b = canon b := by
  unfold top; split
  · exact Or.inr rfl
  · exact Or.inl rfl
theorem top_self (a : Nat) : top a a = canon a := by unfold top; rw [if_neg (by omega)]

theorem sum_lt (a b : Nat) (ha : a < maxW) (hb : b < maxW) : sum a b < maxW := by
  have e1 : sgnW = 9223372036854775808 := rfl
  have e2 : maxW = 18446744073709551616 := rfl
  have e4 : infR = 9218868437227405312 := rfl
  unfold sum
  split
  · decide
  · split
    · split
      · decide
      · exact ha
    · split
      · exact hb
      · unfold sumFin
        have := RN_le (sv a + sv b).natAbs
        split
        · decide
        · split <;> omega
/-- Every sum is canonical. -/
theorem sum_is_canon (a b : Nat) (ha : a < maxW) (hb : b < maxW) : canon (sum a b) = sum a b := by
  have hp : 0 < infR := by decide
  unfold sum
  split
  · decide
  · rename_i hn
    split
    · rename_i h1
      split
      · decide
      · exact canon_self a (by omega) (by omega)
    · split
      · exact canon_self b (by omega) (by omega)
      · unfold sumFin
        split
        · decide
        · rename_i h3
          have q1 := RN_pos (sv a + sv b).natAbs (by omega)
          have q2 := RN_le (sv a + sv b).natAbs
          split
          · have := canon_word 1 _ (by omega) q1 q2
            rw [Nat.one_mul] at this; exact this
          · have := canon_word 0 _ (by omega) q1 q2
            rw [Nat.zero_mul] at this; exact this

/-! ### A sum with the opposite -/
theorem mag_flip (y : Nat) (s : Nat) (h : y = s * sgnW + mag y) (t : Nat) : mag (t * sgnW + mag y) = mag y := by
  unfold mag
  rw [Nat.mul_add_mod_self_right, Nat.mod_mod]
def flip (y : Nat) : Nat := if y < sgnW then y + sgnW else y - sgnW
theorem flip_neg (y : Nat) (hy : y < maxW) : neg (flip y) = !neg y ∧ mag (flip y) = mag y ∧ flip y < maxW := by
  have e1 : sgnW = 9223372036854775808 := rfl
  have e2 : maxW = 18446744073709551616 := rfl
  unfold flip neg mag
  rw [e2] at hy; rw [e1, e2]
  by_cases h : y < 9223372036854775808
  · rw [if_pos h]
    have h1 : (y + 9223372036854775808) / 9223372036854775808 % 2 = 1 := by omega
    have h2 : y / 9223372036854775808 % 2 = 0 := by omega
    rw [h1, h2]
    refine ⟨rfl, by omega, by omega⟩
  · rw [if_neg h]
    have h1 : (y - 9223372036854775808) / 9223372036854775808 % 2 = 0 := by omega
    have h2 : y / 9223372036854775808 % 2 = 1 := by omega
    rw [h1, h2]
    refine ⟨rfl, by omega, by omega⟩
theorem sv_flip (y : Nat) (hy : y < maxW) : sv (flip y) = - sv y := by
  obtain ⟨h1, h2, _⟩ := flip_neg y hy
  cases g : neg y
  · rw [g] at h1
    rw [sv_neg h1, sv_pos g, h2]
  · rw [g] at h1
    rw [sv_pos h1, sv_neg g, h2]; omega

theorem sum_diff (x y : Nat) (hx : x < maxW) (hy : y < maxW) (cx : canon x = x) (cy : canon y = y) (nx : ¬ infR < mag x) (ny : ¬ infR < mag y) :
    (mag x = infR → x = y → sum x (canon (flip y)) = nanW) ∧
    (¬ (mag x = infR ∧ x = y) → (rank x < rank y ↔ rank (sum x (canon (flip y))) < rank 0) ∧ (x = y ↔ sum x (canon (flip y)) = 0)) := by
  have e1 : sgnW = 9223372036854775808 := rfl
  have e2 : maxW = 18446744073709551616 := rfl
  have e4 : infR = 9218868437227405312 := rfl
  obtain ⟨f1, f2, f3⟩ := flip_neg y hy
  have hsum : sum x (canon (flip y)) = sum x (flip y) := by
    have := sum_canon x (flip y)
    rw [cx] at this; exact this
  have hr0 : rank 0 = sgnW := by decide
  rw [hsum, hr0]
  have c2 := sum_is_canon x (flip y) hx f3
  have l2 := sum_lt x (flip y) hx f3
  -- a canonical word's rank is below that of 0 just if its highest bit is set
  have rk : ∀ d, d < maxW → canon d = d → (rank d < sgnW ↔ sgnW ≤ d) := by
    intro d hd hc
    rw [rank_self d hc]
    split <;> omega
  rw [rk _ l2 c2]
  constructor
  · intro h1 h2
    subst h2
    unfold sum
    rw [f2, if_neg (by omega), if_pos h1, if_pos ⟨h1, by rw [f1]; cases neg x <;> simp⟩]
  · intro hne
    unfold sum
    rw [f2, if_neg (by omega)]
    by_cases ix : mag x = infR
    · rw [if_pos ix]
      by_cases iy : mag y = infR
      · have hxy : x ≠ y := fun h => hne ⟨ix, h⟩
        have hn : neg x ≠ neg y := fun h => hxy ((same_inf x y hx hy ix iy).1 h)
        have hn2 : neg x = neg (flip y) := by rw [f1]; cases h1 : neg x <;> cases h2 : neg y <;> simp_all
        rw [if_neg (fun h => h.2 hn2)]
        rw [rank_self x cx, rank_self y cy]
        rcases word_eq x hx with ⟨a1, a2⟩ | ⟨a1, a2⟩ <;> rcases word_eq y hy with ⟨b1, b2⟩ | ⟨b1, b2⟩
        · exact absurd (a1.trans b1.symm) hn
        · rw [if_neg (by omega), if_pos (by omega)]; omega
        · rw [if_pos (by omega), if_neg (by omega)]; omega
        · exact absurd (a1.trans b1.symm) hn
      · rw [if_neg (fun h => iy h.1)]
        rw [rank_self x cx, rank_self y cy]
        have my := mag_lt y
        rcases word_eq x hx with ⟨a1, a2⟩ | ⟨a1, a2⟩ <;> rcases word_eq y hy with ⟨b1, b2⟩ | ⟨b1, b2⟩
        · rw [if_neg (by omega), if_neg (by omega)]; omega
        · rw [if_neg (by omega), if_pos (by omega)]; omega
        · rw [if_pos (by omega), if_neg (by omega)]; omega
        · rw [if_pos (by omega), if_pos (by omega)]; omega
    · rw [if_neg ix]
      by_cases iy : mag y = infR
      · rw [if_pos iy]
        rw [rank_self x cx, rank_self y cy]
        have mx := mag_lt x
        unfold flip
        rcases word_eq x hx with ⟨a1, a2⟩ | ⟨a1, a2⟩ <;> rcases word_eq y hy with ⟨b1, b2⟩ | ⟨b1, b2⟩
        · rw [if_neg (by omega), if_neg (by omega), if_neg (by omega)]; omega
        · rw [if_neg (by omega), if_pos (by omega), if_pos (by omega)]; omega
        · rw [if_pos (by omega), if_neg (by omega), if_neg (by omega)]; omega
        · rw [if_pos (by omega), if_pos (by omega), if_pos (by omega)]; omega
      · rw [if_neg iy, rank_sv x y hx hy cx cy]
        unfold sumFin
        rw [sv_flip y hy]
        have hxy : x = y ↔ sv x + -sv y = 0 := ⟨fun h => by rw [h]; omega, fun h => sv_inj x y hx hy cx cy (by omega)⟩
        rw [hxy]
        by_cases z : sv x + -sv y = 0
        · rw [if_pos z]; omega
        · rw [if_neg z]
          have q1 := RN_pos (sv x + -sv y).natAbs (by omega)
          have q2 := RN_le (sv x + -sv y).natAbs
          by_cases z2 : sv x + -sv y < 0
          · rw [if_pos z2]; omega
          · rw [if_neg z2]; omega

theorem sum_zero (x : Nat) (hx : x < maxW) (cx : canon x = x) (nx : ¬ infR < mag x) : sum x 0 = x := by
  have e4 : infR = 9218868437227405312 := rfl
  have m0 : mag 0 = 0 := by decide
  have s0 : sv 0 = 0 := by decide
  unfold sum
  rw [m0, if_neg (by omega)]
  by_cases ix : mag x = infR
  · rw [if_pos ix, if_neg (fun h => by omega)]
  · rw [if_neg ix, if_neg (by omega)]
    unfold sumFin
    rw [s0, Int.add_zero]
    rcases word_eq x hx with ⟨a1, a2⟩ | ⟨a1, a2⟩
    · have p := canon_neg cx a2
      have := V_lt p
      rw [sv_neg a1, if_neg (by omega), if_pos (by omega), Int.natAbs_neg, Int.natAbs_natCast, RN_V]
      omega
    · rw [sv_pos a1, Int.natAbs_natCast, RN_V]
      have := V_zero (mag x)
      by_cases z : ((V (mag x) : Nat) : Int) = 0
      · rw [if_pos z]; omega
      · rw [if_neg z, if_neg (by omega)]; omega

theorem sum_inf_right (x : Nat) (hx : x < maxW) (nx : mag x < infR) : sum x infR = infR ∧ sum 18442240474082181120 x = 18442240474082181120 := by
  have e4 : infR = 9218868437227405312 := rfl
  have m0 : mag infR = infR := by decide
  have m1 : mag 18442240474082181120 = infR := by decide
  unfold sum
  rw [m0, m1]
  constructor
  · rw [if_neg (by omega), if_neg (by omega), if_pos rfl]
  · rw [if_neg (by omega), if_pos rfl, if_neg (fun h => by omega)]

theorem sum_nan_right (x y : Nat) (h : infR < mag y) : sum x y = nanW := by unfold sum; rw [if_pos (Or.inr h)]

/-- Twice. -/
theorem sum_twice (a : Nat) (ha : a < maxW) : sum a a =
    if infR < mag a then nanW else if 9214364837600034816 ≤ mag a then (if neg a then sgnW else 0) + infR
    else if mag a = 0 then 0 else if mag a < B then (if neg a then sgnW else 0) + 2 * mag a else a + B := by
  have e1 : sgnW = 9223372036854775808 := rfl
  have e4 : infR = 9218868437227405312 := rfl
  have e5 : B = 4503599627370496 := rfl
  unfold sum
  by_cases hn : infR < mag a
  · rw [if_pos (Or.inl hn), if_pos hn]
  · rw [if_neg (by omega), if_neg hn]
    by_cases ix : mag a = infR
    · rw [if_pos ix, if_neg (fun h => h.2 rfl), if_pos (by omega), ← ix]
      exact self_eq a ha
    · rw [if_neg ix, if_neg ix]
      unfold sumFin
      have hV2 : ∀ n : Nat, n = V (mag a) + V (mag a) → (mag a ≠ 0 → n ≠ 0 ∧ RN n = if 9214364837600034816 ≤ mag a then infR else if mag a < B then 2 * mag a else mag a + B) := by
        intro n hn h0
        have hp : 0 < V (mag a) := by have := V_lt (r := 0) (s := mag a) (by omega); omega
        refine ⟨by omega, ?_⟩
        by_cases hb : mag a < B
        · rw [V_low _ (by omega)] at hn
          rw [if_neg (by omega), if_pos hb, RN_low n (by omega)]; omega
        · have := V_step (mag a) (by omega)
          have e : n = V (mag a + B) := by omega
          rw [e, RN_V]
          split <;> omega
      by_cases h0 : mag a = 0
      · have := (sv_zero a).2 h0
        rw [this, if_pos (by omega), if_neg (by omega), if_pos h0]
      · obtain ⟨g1, g2⟩ := hV2 _ rfl h0
        rcases word_eq a ha with ⟨a1, a2⟩ | ⟨a1, a2⟩
        · rw [sv_neg a1, show -((V (mag a) : Nat) : Int) + -((V (mag a) : Nat) : Int) = -((V (mag a) + V (mag a) : Nat) : Int) by omega, Int.natAbs_neg, Int.natAbs_natCast, if_neg (by omega), if_pos (by omega), g2, a1]
          simp only [if_true]
          split
          · rfl
          · split <;> omega
        · rw [sv_pos a1, show ((V (mag a) : Nat) : Int) + ((V (mag a) : Nat) : Int) = ((V (mag a) + V (mag a) : Nat) : Int) by omega, Int.natAbs_natCast, if_neg (by omega), if_neg (by omega), g2, a1]
          simp only [Bool.false_eq_true, if_false]
          split
          · rfl
          · split <;> omega
end Flt

/-! ### As the walks spell them -/
theorem kind3 {a : Int} : iKind a = 3 ↔ Flt.infR < Flt.mag a.toNat := by
  unfold iKind Flt.kind
  by_cases g1 : Flt.infR < Flt.mag a.toNat
  · simp [g1]
  · rw [if_neg g1]
    by_cases g2 : Flt.mag a.toNat = Flt.infR <;> by_cases g3 : Flt.mag a.toNat = 0 <;> simp [g1, g2, g3] <;> split <;> omega
theorem kind2 {a : Int} : iKind a = 2 ↔ Flt.mag a.toNat = Flt.infR := by
  unfold iKind Flt.kind
  by_cases g1 : Flt.infR < Flt.mag a.toNat
  · rw [if_pos g1]; omega
  · rw [if_neg g1]
    by_cases g2 : Flt.mag a.toNat = Flt.infR
    · rw [if_pos g2]; simp [g2]
    · rw [if_neg g2]; split <;> omega

theorem p_wordOk {a : Int} (ha : U64 a) : bWordOk (iRank a) = true := by
  unfold bWordOk iRank; rw [Int.toNat_natCast]; exact wordOk_rank _ (u64_nat ha)
theorem p_word {a : Int} (ha : U64 a) : iWord (iRank a) = iCanon a := by
  unfold iWord iRank iCanon; rw [Int.toNat_natCast, word_rank _ (u64_nat ha)]
theorem p_canon2 (a : Int) : iCanon (iCanon a) = iCanon a := by
  unfold iCanon; rw [Int.toNat_natCast, canon_canon]
theorem p_rank_canon (a : Int) : iRank (iCanon a) = iRank a := by
  unfold iRank iCanon; rw [Int.toNat_natCast, rank_canon]
theorem p_kind_canon (a : Int) : iKind (iCanon a) = iKind a := by
  unfold iKind iCanon; rw [Int.toNat_natCast]
  have hp : 0 < Flt.infR := by decide
  unfold Flt.kind
  by_cases h : Flt.infR < Flt.mag a.toNat
  · rw [if_pos h, if_pos ((Flt.mag_canon_nan _).2 h)]
  · rw [if_neg h, if_neg (fun g => h ((Flt.mag_canon_nan _).1 g)), (Flt.sv_canon _ h).2]
theorem p_rank_inj {a b : Int} (ha : U64 a) (hb : U64 b) : iRank a = iRank b ↔ iCanon a = iCanon b := by
  have := Flt.rank_inj a.toNat b.toNat (u64_nat ha) (u64_nat hb)
  unfold iRank iCanon; omega
theorem p_rank_eq {a b : Int} (ha : U64 a) (hb : U64 b) : (iRank a == iRank b) = (iCanon a == iCanon b) := by
  rw [Bool.eq_iff_iff, beq_iff_eq, beq_iff_eq, p_rank_inj ha hb]
theorem p_less {a b : Int} : bLess a b = true ↔ iRank a < iRank b := by unfold bLess; exact decide_eq_true_iff
theorem p_less_no {a b : Int} : bLess a b = false ↔ ¬ iRank a < iRank b := by unfold bLess; exact decide_eq_false_iff_not
theorem p_neginf : iRank 18442240474082181120 = 4503599627370495 := by decide +kernel
theorem p_nan : iRank 9221120237041090561 = 18444492273895866369 := by decide +kernel
theorem p_rank_ge {a : Int} (ha : U64 a) : 4503599627370495 ≤ iRank a := by
  have := Flt.rank_ge a.toNat (u64_nat ha)
  unfold iRank; omega
theorem p_rank_le {a : Int} (ha : U64 a) : iRank a ≤ 18444492273895866369 ∧ (iRank a = 18444492273895866369 ↔ iKind a = 3) := by
  have h := Flt.rank_le a.toNat (u64_nat ha)
  have k := @kind3 a
  rw [k, ← h.2]
  unfold iRank; omega
theorem u64_top {a b : Int} (ha : U64 a) (hb : U64 b) : U64 (iTop a b) := by
  have h1 := Flt.top_lt _ _ (u64_nat ha) (u64_nat hb)
  have e2 : Flt.maxW = 18446744073709551616 := rfl
  unfold U64 iTop; omega
theorem u64_sum {a b : Int} (ha : U64 a) (hb : U64 b) : U64 (iSum a b) := by
  have h1 := Flt.sum_lt _ _ (u64_nat ha) (u64_nat hb)
  have e2 : Flt.maxW = 18446744073709551616 := rfl
  unfold U64 iSum; omega
theorem p_sum_canon {a b : Int} (ha : U64 a) (hb : U64 b) : iCanon (iSum a b) = iSum a b := by
  unfold iCanon iSum; rw [Int.toNat_natCast, Flt.sum_is_canon _ _ (u64_nat ha) (u64_nat hb)]
theorem p_top_comm {a b : Int} (ha : U64 a) (hb : U64 b) : iTop a b = iTop b a := by
  unfold iTop; rw [Flt.top_comm _ _ (u64_nat ha) (u64_nat hb)]
theorem p_top_assoc {a b c : Int} (ha : U64 a) (hb : U64 b) (hc : U64 c) : iTop (iTop a b) c = iTop a (iTop b c) := by
  unfold iTop; rw [Int.toNat_natCast, Int.toNat_natCast, Flt.top_assoc _ _ _ (u64_nat ha) (u64_nat hb) (u64_nat hc)]
theorem p_top_one {a b : Int} : iTop a b = iCanon a ∨ iTop a b = iCanon b := by
  unfold iTop iCanon
  rcases Flt.top_one a.toNat b.toNat with h | h <;> rw [h]
  · exact Or.inl rfl
  · exact Or.inr rfl
theorem p_top_self {a : Int} : iTop a a = iCanon a := by unfold iTop iCanon; rw [Flt.top_self]
theorem p_top_rank {a b : Int} : iRank (iTop a b) = max (iRank a) (iRank b) := by
  unfold iRank iTop; rw [Int.toNat_natCast, Flt.top_rank]; omega
end Go.Proofs.YtlcpcgdecodjfaaGreatDoor
namespace Go.Proofs.YtlcpcgdecodjfaaGreatDoor
open Go.RowKit
set_option linter.unusedVariables false
set_option linter.unusedSimpArgs false


theorem rshifted_int (m b : Int) (h0 : 0 ≤ m) (hm : m < 18446744073709551616) (hb : 0 ≤ b) (hb2 : b ≤ 4096) (w : World) :
    Calls Tryz.prog 111 #[.int .u64 m, .int .i64 b] w fun e w' => e = .returned (.int .u64 (Flt.RO m.toNat b.toNat : Nat)) ∧ w = w' := by
  obtain ⟨n, rfl⟩ := Int.eq_ofNat_of_zero_le h0
  rw [Int.toNat_natCast]
  exact rshifted_any n b (by omega) hb hb2 w

/-- What is known of a finite word's parts. -/
theorem whole_bounds {x : Int} (hx : U64 x) (hf : Flt.mag x.toNat < Flt.infR) : ∃ e m : Int, ((Flt.wholeE x.toNat : Nat) : Int) = e ∧ ((Flt.wholeM x.toNat : Nat) : Int) = m ∧
    1 ≤ e ∧ e ≤ 2046 ∧ 0 ≤ m ∧ m < 72057594037927936 := by
  refine ⟨_, _, rfl, rfl, ?_⟩
  obtain ⟨h1, h2⟩ := whole_eq hx
  rw [h1, h2]
  have e1 : Flt.infR = 9218868437227405312 := rfl
  have e2 : Flt.sgnW = 9223372036854775808 := rfl
  unfold Flt.mag at hf
  rw [e1, e2] at hf
  unfold U64 at hx
  split <;> omega

theorem top_bits {x y : Int} (hx : 0 ≤ x) (hy : 0 ≤ y) : x / 9223372036854775808 = y / 9223372036854775808 ↔ x.toNat / 9223372036854775808 = y.toNat / 9223372036854775808 := by omega

theorem made_sum_int {x y e m f n r : Int} (hx : U64 x) (hy : U64 y) (h1 : Flt.mag x.toNat < Flt.infR) (h2 : Flt.mag y.toNat < Flt.infR) (h : y % 9223372036854775808 ≤ x % 9223372036854775808)
    (he : ((Flt.wholeE x.toNat : Nat) : Int) = e) (hm : ((Flt.wholeM x.toNat : Nat) : Int) = m) (hf : ((Flt.wholeE y.toNat : Nat) : Int) = f) (hn : ((Flt.wholeM y.toNat : Nat) : Int) = n)
    (hr : ((Flt.RO n.toNat (e - f).toNat : Nat) : Int) = r) :
    (x / 9223372036854775808 = y / 9223372036854775808 → iCanon ((Flt.made (x / 9223372036854775808).toNat e.toNat (m + r).toNat : Nat) : Int) = iSum x y) ∧
    (¬ x / 9223372036854775808 = y / 9223372036854775808 → iCanon ((Flt.made (x / 9223372036854775808).toNat e.toNat (m - r).toNat : Nat) : Int) = iSum x y) := by
  have hx' := u64_nat hx
  have hy' := u64_nat hy
  unfold U64 at hx hy
  have e2 : Flt.sgnW = 9223372036854775808 := rfl
  have key := Flt.made_sum x.toNat y.toNat hx' hy' h1 h2 (by unfold Flt.mag; rw [e2]; omega)
  have a1 : (x / 9223372036854775808).toNat = x.toNat / Flt.sgnW := by rw [e2]; omega
  have a2 : e.toNat = Flt.wholeE x.toNat := by omega
  have a3 : n.toNat = Flt.wholeM y.toNat := by omega
  have a4 : (e - f).toNat = Flt.wholeE x.toNat - Flt.wholeE y.toNat := by omega
  rw [a3, a4] at hr
  generalize Flt.RO (Flt.wholeM y.toNat) (Flt.wholeE x.toNat - Flt.wholeE y.toNat) = R at hr key
  have a5 : (m + r).toNat = Flt.wholeM x.toNat + R := by omega
  have a6 : (m - r).toNat = Flt.wholeM x.toNat - R := by omega
  have a7 : x / 9223372036854775808 = y / 9223372036854775808 ↔ x.toNat / Flt.sgnW = y.toNat / Flt.sgnW := top_bits hx.1 hy.1
  unfold iCanon iSum
  rw [Int.toNat_natCast, Int.toNat_natCast, a1, a2, a5, a6, a7]
  constructor
  · intro g; rw [if_pos g] at key; rw [key]
  · intro g; rw [if_neg g] at key; rw [key]

theorem shifted_bounds {n r : Int} {k : Nat} (h0 : 0 ≤ n) (hn : n < 72057594037927936) (hr : ((Flt.RO n.toNat k : Nat) : Int) = r) : 0 ≤ r ∧ r < 72057594037927936 := by
  have h1 := (Flt.RO_lt n.toNat k 36028797018963968).2 (Nat.lt_of_le_of_lt (Nat.div_le_self _ _) (by omega))
  omega
/-- Of two that fall in size the shifted one is no greater. -/
theorem shifted_le {x y e m f n r : Int} (hx : U64 x) (hy : U64 y) (h1 : Flt.mag x.toNat < Flt.infR) (h2 : Flt.mag y.toNat < Flt.infR) (h : y % 9223372036854775808 ≤ x % 9223372036854775808)
    (he : ((Flt.wholeE x.toNat : Nat) : Int) = e) (hm : ((Flt.wholeM x.toNat : Nat) : Int) = m) (hf : ((Flt.wholeE y.toNat : Nat) : Int) = f) (hn : ((Flt.wholeM y.toNat : Nat) : Int) = n)
    (hr : ((Flt.RO n.toNat (e - f).toNat : Nat) : Int) = r) : f ≤ e ∧ r ≤ m := by
  have e2 : Flt.sgnW = 9223372036854775808 := rfl
  unfold U64 at hx hy
  have hmag : Flt.mag y.toNat ≤ Flt.mag x.toNat := by unfold Flt.mag; rw [e2]; omega
  have g1 := Flt.wholeE_mono hmag
  refine ⟨by omega, ?_⟩
  have a3 : n.toNat = Flt.wholeM y.toNat := by omega
  have a4 : (e - f).toNat = Flt.wholeE x.toNat - Flt.wholeE y.toNat := by omega
  rw [a3, a4] at hr
  have hV : Flt.V (Flt.mag y.toNat) ≤ Flt.V (Flt.mag x.toNat) := by
    rcases Nat.lt_or_ge (Flt.mag y.toNat) (Flt.mag x.toNat) with g | g
    · exact Nat.le_of_lt (Flt.V_lt g)
    · rw [Nat.le_antisymm hmag g]; exact Nat.le_refl _
  have pb := Flt.wholeE_pos y.toNat
  obtain ⟨d, hd⟩ : ∃ d, Flt.wholeE x.toNat = d + Flt.wholeE y.toNat := ⟨Flt.wholeE x.toNat - Flt.wholeE y.toNat, by omega⟩
  rw [show Flt.wholeE x.toNat - Flt.wholeE y.toNat = d by omega] at hr
  have hle : 8 * Flt.mant y.toNat ≤ 8 * Flt.mant x.toNat * 2 ^ d := by
    rw [Flt.V_mant, Flt.V_mant, hd, show d + Flt.wholeE y.toNat - 1 = d + (Flt.wholeE y.toNat - 1) by omega, Nat.pow_add, ← Nat.mul_assoc] at hV
    have := Nat.le_of_mul_le_mul_right hV (Flt.pow_pos _)
    rw [Nat.mul_assoc]; omega
  have hq : Flt.wholeM y.toNat / 2 ^ d ≤ Flt.wholeM x.toNat := by
    rw [Flt.wholeM_eq, Flt.wholeM_eq]
    exact Nat.div_le_of_le_mul (by rw [Nat.mul_comm (2 ^ d)]; exact hle)
  have h8 := Flt.wholeM_eq x.toNat
  -- both even: 'RO' may add one only where something is left
  have : Flt.RO (Flt.wholeM y.toNat) d ≤ Flt.wholeM x.toNat := by
    rcases Nat.lt_or_ge (Flt.wholeM y.toNat / 2 ^ d) (Flt.wholeM x.toNat) with g | g
    · have := (Flt.RO_lt (Flt.wholeM y.toNat) d (4 * Flt.mant x.toNat)).2 (by omega)
      omega
    · have e : Flt.wholeM y.toNat / 2 ^ d = Flt.wholeM x.toNat := by omega
      have hdm := Nat.div_add_mod (Flt.wholeM y.toNat) (2 ^ d)
      have hz : Flt.wholeM y.toNat % 2 ^ d = 0 := by
        rw [e, Nat.mul_comm] at hdm
        rw [← Flt.wholeM_eq, ← Flt.wholeM_eq] at hle
        omega
      unfold Flt.RO; rw [if_pos hz, e]; exact Nat.le_refl _
  omega

theorem sum_nan {a b : Int} (h : iKind (iCanon a) = 3 ∨ iKind (iCanon b) = 3) : (9221120237041090561 : Int) = iSum a b := by
  rw [kind3, kind3] at h
  unfold iCanon at h; rw [Int.toNat_natCast, Int.toNat_natCast, Flt.mag_canon_nan, Flt.mag_canon_nan] at h
  unfold iSum Flt.sum; rw [if_pos h]; rfl
theorem sum_via {a b : Int} : iSum (iCanon a) (iCanon b) = iSum a b := by
  unfold iSum iCanon; rw [Int.toNat_natCast, Int.toNat_natCast, Flt.sum_canon]
theorem sum_swap {a b : Int} (ha : U64 a) (hb : U64 b) : iSum a b = iSum b a := by
  unfold iSum; rw [Flt.sum_comm _ _ (u64_nat ha) (u64_nat hb)]
theorem sum_inf {x y : Int} (hx : U64 x) (hy : U64 y) (h1 : ¬ iKind x = 3) (h2 : ¬ iKind y = 3) :
    (iKind x = 2 → iKind y = 2 → ¬ x = y → (9221120237041090561 : Int) = iSum x y) ∧ (iKind x = 2 → (iKind y = 2 → x = y) → x = iSum x y) ∧ (¬ iKind x = 2 → iKind y = 2 → y = iSum x y) := by
  have hx' := u64_nat hx
  have hy' := u64_nat hy
  rw [kind3] at h1 h2
  rw [kind2, kind2]
  unfold U64 at hx hy
  have e : iSum x y = (Flt.sum x.toNat y.toNat : Nat) := rfl
  rw [e]
  unfold Flt.sum
  rw [if_neg (by omega)]
  refine ⟨?_, ?_, ?_⟩
  · intro g1 g2 g3
    have := (Flt.same_inf _ _ hx' hy' g1 g2)
    rw [if_pos g1, if_pos ⟨g2, fun g => g3 (by have := this.1 g; omega)⟩]; rfl
  · intro g1 g2
    rw [if_pos g1, if_neg (fun g => g.2 (by rw [g2 g.1]))]; omega
  · intro g1 g2
    rw [if_neg g1, if_pos g2]; omega

theorem made_u64 {s e m : Int} (h0 : 0 ≤ s) (h1 : s ≤ 1) (h2 : 1 ≤ e) : U64 ((Flt.made s.toNat e.toNat m.toNat : Nat) : Int) := by
  have e1 : Flt.infR = 9218868437227405312 := rfl
  have e2 : Flt.sgnW = 9223372036854775808 := rfl
  unfold U64 Flt.made
  refine ⟨by omega, ?_⟩
  split
  · decide
  · unfold Flt.fin
    rw [e1, e2]
    generalize (_ : Nat) + Flt.cut _ _ = t
    omega

set_option maxRecDepth 10000 in
set_option maxHeartbeats 1000000 in
theorem rsum_canon (a b x y : Int) (hx : U64 x) (hy : U64 y) (ha : U64 a) (hb : U64 b) (cx : Hid (iCanon a = x)) (cy : Hid (iCanon b = y)) (w : World) :
    Calls Tryz.prog 90 #[.int .u64 a, .int .u64 b] w fun e w' => e = .returned (.int .u64 (iSum x y)) ∧ w = w' := by
  go_enter Tryz.func90, Tryz.ntmps90
  go_wp2_with fail
  refine (rcanon_any a ha _).mono ?_
  rintro e w' ⟨rfl, rfl⟩
  rw [cx.out]
  go_wp2_with fail
  refine (rcanon_any b hb _).mono ?_
  rintro e w' ⟨rfl, rfl⟩
  rw [cy.out]
  by_cases k3x : iKind x = 3
  · have R : Hid (9221120237041090561 = iSum x y) := by
      show _ = _
      have := @sum_nan a b (Or.inl (by rw [cx.out]; exact k3x))
      rw [this, ← @sum_via a b, cx.out, cy.out]
    go_wp2_with (go_at_call 83; refine (rkind_any _ (by assumption) _).mono ?_; rintro e w' ⟨rfl, rfl⟩)
    all_goals (go_ret; exact ⟨ret_int R.out, rfl⟩)
  by_cases k3y : iKind y = 3
  · have R : Hid (9221120237041090561 = iSum x y) := by
      show _ = _
      have := @sum_nan a b (Or.inr (by rw [cy.out]; exact k3y))
      rw [this, ← @sum_via a b, cx.out, cy.out]
    go_wp2_with (go_at_call 83; refine (rkind_any _ (by assumption) _).mono ?_; rintro e w' ⟨rfl, rfl⟩)
    all_goals (go_ret; exact ⟨ret_int R.out, rfl⟩)
  have S := sum_inf hx hy k3x k3y
  have HS : Hid _ := S
  clear S
  have b3x : (iKind x == 3) = false := beq_eq_false_iff_ne.2 k3x
  have b3y : (iKind y == 3) = false := beq_eq_false_iff_ne.2 k3y
  by_cases k2x : iKind x = 2
  · by_cases k2y : iKind y = 2
    · by_cases exy : x = y
      · subst exy
        have R : Hid (x = iSum x x) := HS.out.2.1 k2x (fun _ => rfl)
        go_wp2_with (go_at_call 83; refine (rkind_any _ (by assumption) _).mono ?_; rintro e w' ⟨rfl, rfl⟩)
        all_goals (go_ret; exact ⟨ret_int R.out, rfl⟩)
      · have R : Hid _ := HS.out.1 k2x k2y exy
        have n2 : (x != y) = true := bne_iff_ne.2 exy
        go_wp2_with (go_at_call 83; refine (rkind_any _ (by assumption) _).mono ?_; rintro e w' ⟨rfl, rfl⟩)
        all_goals (go_ret; exact ⟨ret_int R.out, rfl⟩)
    · have R : Hid (x = iSum x y) := HS.out.2.1 k2x (fun h => absurd h k2y)
      have b2y : (iKind y == 2) = false := beq_eq_false_iff_ne.2 k2y
      go_wp2_with (go_at_call 83; refine (rkind_any _ (by assumption) _).mono ?_; rintro e w' ⟨rfl, rfl⟩)
      all_goals (go_ret; exact ⟨ret_int R.out, rfl⟩)
  have b2x : (iKind x == 2) = false := beq_eq_false_iff_ne.2 k2x
  by_cases k2y : iKind y = 2
  · have R : Hid (y = iSum x y) := HS.out.2.2 k2x k2y
    go_wp2_with (go_at_call 83; refine (rkind_any _ (by assumption) _).mono ?_; rintro e w' ⟨rfl, rfl⟩)
    all_goals (go_ret; exact ⟨ret_int R.out, rfl⟩)
  have b2y : (iKind y == 2) = false := beq_eq_false_iff_ne.2 k2y
  have fx : Flt.mag x.toNat < Flt.infR := by rw [kind3] at k3x; rw [kind2] at k2x; omega
  have fy : Flt.mag y.toNat < Flt.infR := by rw [kind3] at k3y; rw [kind2] at k2y; omega
  clear HS
  by_cases hlt : x % 9223372036854775808 < y % 9223372036854775808
  · have HLT : Hid (x % 9223372036854775808 < y % 9223372036854775808) := hlt
    have hd : decide (x % 9223372036854775808 < y % 9223372036854775808) = true := decide_eq_true hlt
    clear hlt
    go_wp2_with (first | (go_at_call 83; refine (rkind_any _ (by assumption) _).mono ?_; rintro e w' ⟨rfl, rfl⟩) | (go_at_call 109; refine (rlesser_any x y hx hy _).mono ?_; rintro e w' ⟨rfl, rfl⟩))
    clear k3x k3y k2x k2y b3x b3y b2x b2y hd
    · -- the greater one: y
      obtain ⟨e, m, he, hm, e1, e2, m1, m2⟩ := whole_bounds hy fy
      obtain ⟨f, n, hf, hn, f1, f2, n1, n2⟩ := whole_bounds hx fx
      have hle : x % 9223372036854775808 ≤ y % 9223372036854775808 := by have := HLT.out; omega
      have LE : Hid (x % 9223372036854775808 ≤ y % 9223372036854775808) := hle
      clear hle
      have HE : Hid _ := he
      have HM : Hid _ := hm
      have HF : Hid _ := hf
      have HN : Hid _ := hn
      have fe := (shifted_le hy hx fy fx LE.out he hm hf hn rfl).1
      clear he hm hf hn
      refine (rwhole_any y hy _).mono ?_
      rintro e' w' ⟨rfl, rfl⟩
      rw [HE.out, HM.out]
      go_wp2_with fail
      refine (rwhole_any x hx _).mono ?_
      rintro e' w' ⟨rfl, rfl⟩
      rw [HF.out, HN.out]
      go_wp2_with fail
      refine (rshifted_int n _ n1 (by omega) (by omega) (by omega) _).mono ?_
      rintro e' w' ⟨rfl, rfl⟩
      obtain ⟨r, hr⟩ : ∃ r : Int, ((Flt.RO n.toNat (e - f).toNat : Nat) : Int) = r := ⟨_, rfl⟩
      have hb := shifted_bounds n1 n2 hr
      have hl := (shifted_le hy hx fy fx LE.out HE.out HM.out HF.out HN.out hr).2
      have HS : Hid _ := made_sum_int hy hx fy fx LE.out HE.out HM.out HF.out HN.out hr
      rw [hr]
      clear hr
      obtain ⟨r0, r1⟩ := hb
      obtain ⟨x0, x1⟩ := id hy
      obtain ⟨y0, y1⟩ := id hx
      by_cases hs : y / 9223372036854775808 = x / 9223372036854775808
      · have R := HS.out.1 hs
        have HR : Hid _ := R
        have hs' : (y / 9223372036854775808 == x / 9223372036854775808) = true := by rw [hs]; exact beq_self_eq_true _
        clear R hs HS
        go_wp2_with fail
        refine (rmade_any _ _ _ (by omega) (by omega) e1 e2 (by omega) (by omega) _).mono ?_
        rintro e' w' ⟨rfl, rfl⟩
        go_wp2_with fail
        refine (rcanon_any _ (made_u64 (by omega) (by omega) (by omega)) _).mono ?_
        rintro e' w' ⟨rfl, rfl⟩
        go_wp2_with fail
        go_ret; exact ⟨ret_int (by rw [HR.out, sum_swap hy hx]), rfl⟩
      · have R := HS.out.2 hs
        have HR : Hid _ := R
        have hs' : (y / 9223372036854775808 == x / 9223372036854775808) = false := by rw [beq_eq_false_iff_ne]; exact hs
        clear R hs HS
        go_wp2_with fail
        refine (rmade_any _ _ _ (by omega) (by omega) e1 e2 (by omega) (by omega) _).mono ?_
        rintro e' w' ⟨rfl, rfl⟩
        go_wp2_with fail
        refine (rcanon_any _ (made_u64 (by omega) (by omega) (by omega)) _).mono ?_
        rintro e' w' ⟨rfl, rfl⟩
        go_wp2_with fail
        go_ret; exact ⟨ret_int (by rw [HR.out, sum_swap hy hx]), rfl⟩
  · have HLT : Hid (¬ x % 9223372036854775808 < y % 9223372036854775808) := hlt
    have hd : decide (x % 9223372036854775808 < y % 9223372036854775808) = false := decide_eq_false hlt
    clear hlt
    go_wp2_with (first | (go_at_call 83; refine (rkind_any _ (by assumption) _).mono ?_; rintro e w' ⟨rfl, rfl⟩) | (go_at_call 109; refine (rlesser_any x y hx hy _).mono ?_; rintro e w' ⟨rfl, rfl⟩))
    clear k3x k3y k2x k2y b3x b3y b2x b2y hd
    · -- the greater one: x
      obtain ⟨e, m, he, hm, e1, e2, m1, m2⟩ := whole_bounds hx fx
      obtain ⟨f, n, hf, hn, f1, f2, n1, n2⟩ := whole_bounds hy fy
      have hle : y % 9223372036854775808 ≤ x % 9223372036854775808 := by have := HLT.out; omega
      have LE : Hid (y % 9223372036854775808 ≤ x % 9223372036854775808) := hle
      clear hle
      have HE : Hid _ := he
      have HM : Hid _ := hm
      have HF : Hid _ := hf
      have HN : Hid _ := hn
      have fe := (shifted_le hx hy fx fy LE.out he hm hf hn rfl).1
      clear he hm hf hn
      refine (rwhole_any x hx _).mono ?_
      rintro e' w' ⟨rfl, rfl⟩
      rw [HE.out, HM.out]
      go_wp2_with fail
      refine (rwhole_any y hy _).mono ?_
      rintro e' w' ⟨rfl, rfl⟩
      rw [HF.out, HN.out]
      go_wp2_with fail
      refine (rshifted_int n _ n1 (by omega) (by omega) (by omega) _).mono ?_
      rintro e' w' ⟨rfl, rfl⟩
      obtain ⟨r, hr⟩ : ∃ r : Int, ((Flt.RO n.toNat (e - f).toNat : Nat) : Int) = r := ⟨_, rfl⟩
      have hb := shifted_bounds n1 n2 hr
      have hl := (shifted_le hx hy fx fy LE.out HE.out HM.out HF.out HN.out hr).2
      have HS : Hid _ := made_sum_int hx hy fx fy LE.out HE.out HM.out HF.out HN.out hr
      rw [hr]
      clear hr
      obtain ⟨r0, r1⟩ := hb
      obtain ⟨x0, x1⟩ := id hx
      obtain ⟨y0, y1⟩ := id hy
      by_cases hs : x / 9223372036854775808 = y / 9223372036854775808
      · have R := HS.out.1 hs
        have HR : Hid _ := R
        have hs' : (x / 9223372036854775808 == y / 9223372036854775808) = true := by rw [hs]; exact beq_self_eq_true _
        clear R hs HS
        go_wp2_with fail
        refine (rmade_any _ _ _ (by omega) (by omega) e1 e2 (by omega) (by omega) _).mono ?_
        rintro e' w' ⟨rfl, rfl⟩
        go_wp2_with fail
        refine (rcanon_any _ (made_u64 (by omega) (by omega) (by omega)) _).mono ?_
        rintro e' w' ⟨rfl, rfl⟩
        go_wp2_with fail
        go_ret; exact ⟨ret_int (by rw [HR.out]), rfl⟩
      · have R := HS.out.2 hs
        have HR : Hid _ := R
        have hs' : (x / 9223372036854775808 == y / 9223372036854775808) = false := by rw [beq_eq_false_iff_ne]; exact hs
        clear R hs HS
        go_wp2_with fail
        refine (rmade_any _ _ _ (by omega) (by omega) e1 e2 (by omega) (by omega) _).mono ?_
        rintro e' w' ⟨rfl, rfl⟩
        go_wp2_with fail
        refine (rcanon_any _ (made_u64 (by omega) (by omega) (by omega)) _).mono ?_
        rintro e' w' ⟨rfl, rfl⟩
        go_wp2_with fail
        go_ret; exact ⟨ret_int (by rw [HR.out]), rfl⟩

theorem rsum_any (a b : Int) (ha : U64 a) (hb : U64 b) (w : World) : Calls Tryz.prog 90 #[.int .u64 a, .int .u64 b] w fun e w' => e = .returned (.int .u64 (iSum a b)) ∧ w = w' := by
  have h := rsum_canon a b _ _ (u64_canon ha) (u64_canon hb) ha hb rfl rfl w
  rw [sum_via] at h
  exact h

end Go.Proofs.YtlcpcgdecodjfaaGreatDoor
namespace Go.Proofs.YtlcpcgdecodjfaaGreatDoor
open Go.RowKit Go.Proofs.YtlcpcgdecodjfaaGreatDoor.Am
set_option linter.unusedVariables false
set_option linter.unusedSimpArgs false

def ipick (c n : Int) : Int := (if c < 0 then -(c + 1) else c) % n
theorem ipick_bounds (c : Int) {n : Int} (hn : 0 < n) : 0 ≤ ipick c n ∧ ipick c n < n := ⟨Int.emod_nonneg _ (by omega), Int.emod_lt_of_pos _ hn⟩
theorem ipick_val (c n : Int) (hc : I64 c) : (if c < 0 then IntKind.i64.wrap (0 - IntKind.i64.wrap (c + 1)) else c).tmod n = ipick c n := by
  obtain ⟨c1, c2⟩ := hc
  have e : (if c < 0 then IntKind.i64.wrap (0 - IntKind.i64.wrap (c + 1)) else c) = if c < 0 then -(c + 1) else c := by
    split
    · rw [wrap64 (a := c + 1) (by omega) (by omega), wrap64 (by omega) (by omega)]; omega
    · rfl
  rw [e]; unfold ipick
  exact Int.tmod_eq_emod_of_nonneg (by split <;> omega)
set_option maxRecDepth 100000 in
theorem pick09_pure (c n : Int) (hc : I64 c) (hn : 0 < n) (hn2 : n ≤ 4096) : Pure Tryz.prog glR 50 [.v (.int .i64 c), .v (.int .i64 n)] (.v (.int .i64 (ipick c n))) := by
  have hv := ipick_val c n hc
  refine pure_of (C := ctx0 Tryz.prog) ctx0_good Tryz.func50 (c := bodyOf Tryz.f50) (by rfl) (Nat.le_of_ble_eq_true (by rfl)) 4 0 [0, 1, 2, 4, 6] ?_
  conv => whnf
  repeat' (first | (refine ifB_t (by assumption) ?_; conv => whnf) | (refine ifB_f (by assumption) ?_; conv => whnf) | (refine ifB_dec (fun h => ?_) (fun h => ?_) <;> (first | (exfalso; omega) | (conv => whnf))) | (refine ifB_eq (fun h => ?_) (fun h => ?_) <;> (first | (exfalso; omega) | (conv => whnf))) | (refine ifB_ne (fun h => ?_) (fun h => ?_) <;> (first | (exfalso; omega) | (conv => whnf))) | (refine ifB_not ?_; conv => whnf) | (refine ifB_and ?_; conv => whnf) | (refine ifB_or ?_; conv => whnf) | (refine And.intro ?_ ?_; (first | omega | assumption | (exact allU_getD (by assumption) _) | (simp only [cutL]; omega) | (refine And.intro ?_ ?_ <;> first | assumption | exact allU_getD (by assumption) _) | (simp only [cutL, IntKind.wrap_u64, IntKind.wrap_i64] at *; omega) | decide); conv => whnf))
  · rw [if_pos h] at hv; exact congrArg (fun b => T.v (Value.int .i64 b)) hv
  · rw [if_neg h] at hv; exact congrArg (fun b => T.v (Value.int .i64 b)) hv
def ePick09 : Entry := ⟨50, 3, fun l => match l with | [.v (.int .i64 c), .v (.int .i64 n)] => some (some (I64 c ∧ 0 < n ∧ n ≤ 4096), .v (.int .i64 (ipick c n)), []) | _ => none⟩
theorem ePick09_ok : ePick09.ok Tryz.prog glR := ⟨Am.enters_of Tryz.func50 (by kernel_rfl) (by kernel_rfl), by
  intro args c t bs h hc
  simp only [ePick09] at h
  split at h <;> cases h
  replace hc := hc _ rfl
  exact pick09_pure _ _ hc.1 hc.2.1 hc.2.2⟩
set_option maxRecDepth 100000 in
theorem pick13_pure (c n : Int) (hc : I64 c) (hn : 0 < n) (hn2 : n ≤ 4096) : Pure Tryz.prog glR 8 [.v (.int .i64 c), .v (.int .i64 n)] (.v (.int .i64 (ipick c n))) := by
  have hv := ipick_val c n hc
  refine pure_of (C := ctx0 Tryz.prog) ctx0_good Tryz.func8 (c := bodyOf Tryz.f8) (by rfl) (Nat.le_of_ble_eq_true (by rfl)) 4 0 [0, 1, 2, 4, 6] ?_
  conv => whnf
  repeat' (first | (refine ifB_t (by assumption) ?_; conv => whnf) | (refine ifB_f (by assumption) ?_; conv => whnf) | (refine ifB_dec (fun h => ?_) (fun h => ?_) <;> (first | (exfalso; omega) | (conv => whnf))) | (refine ifB_eq (fun h => ?_) (fun h => ?_) <;> (first | (exfalso; omega) | (conv => whnf))) | (refine ifB_ne (fun h => ?_) (fun h => ?_) <;> (first | (exfalso; omega) | (conv => whnf))) | (refine ifB_not ?_; conv => whnf) | (refine ifB_and ?_; conv => whnf) | (refine ifB_or ?_; conv => whnf) | (refine And.intro ?_ ?_; (first | omega | assumption | (exact allU_getD (by assumption) _) | (simp only [cutL]; omega) | (refine And.intro ?_ ?_ <;> first | assumption | exact allU_getD (by assumption) _) | (simp only [cutL, IntKind.wrap_u64, IntKind.wrap_i64] at *; omega) | decide); conv => whnf))
  · rw [if_pos h] at hv; exact congrArg (fun b => T.v (Value.int .i64 b)) hv
  · rw [if_neg h] at hv; exact congrArg (fun b => T.v (Value.int .i64 b)) hv
def ePick13 : Entry := ⟨8, 3, fun l => match l with | [.v (.int .i64 c), .v (.int .i64 n)] => some (some (I64 c ∧ 0 < n ∧ n ≤ 4096), .v (.int .i64 (ipick c n)), []) | _ => none⟩
theorem ePick13_ok : ePick13.ok Tryz.prog glR := ⟨Am.enters_of Tryz.func8 (by kernel_rfl) (by kernel_rfl), by
  intro args c t bs h hc
  simp only [ePick13] at h
  split at h <;> cases h
  replace hc := hc _ rfl
  exact pick13_pure _ _ hc.1 hc.2.1 hc.2.2⟩
/-! ### floats -/
theorem canon_pure (a : Int) (ha : U64 a) : Pure Tryz.prog glR 22 [.v (.int .u64 a)] (.v (.int .u64 (iCanon a))) := pure_v1 rfl rfl fun w _ => (canon_any a ha w).mono (by rintro e w' ⟨rfl, rfl⟩; exact ⟨rfl, Below.refl _ _⟩)
def eCanon : Entry := ⟨22, 3, fun l => match l with | [.v (.int .u64 a)] => some (some (U64 a), .v (.int .u64 (iCanon a)), []) | _ => none⟩
theorem eCanon_ok : eCanon.ok Tryz.prog glR := ⟨Am.enters_of Tryz.func22 (by kernel_rfl) (by kernel_rfl), by
  intro args c t bs h hc
  simp only [eCanon] at h
  split at h <;> cases h
  replace hc := hc _ rfl
  exact canon_pure _ hc⟩
theorem rank_pure (a : Int) (ha : U64 a) : Pure Tryz.prog glR 44 [.v (.int .u64 a)] (.v (.int .u64 (iRank a))) := pure_v1 rfl rfl fun w _ => (rank_any a ha w).mono (by rintro e w' ⟨rfl, rfl⟩; exact ⟨rfl, Below.refl _ _⟩)
def eRank : Entry := ⟨44, 3, fun l => match l with | [.v (.int .u64 a)] => some (some (U64 a), .v (.int .u64 (iRank a)), []) | _ => none⟩
theorem eRank_ok : eRank.ok Tryz.prog glR := ⟨Am.enters_of Tryz.func44 (by kernel_rfl) (by kernel_rfl), by
  intro args c t bs h hc
  simp only [eRank] at h
  split at h <;> cases h
  replace hc := hc _ rfl
  exact rank_pure _ hc⟩
theorem less_pure (a b : Int) (ha : U64 a) (hb : U64 b) : Pure Tryz.prog glR 24 [.v (.int .u64 a), .v (.int .u64 b)] (.v (.bool (bLess a b))) := pure_v1 rfl rfl fun w _ => (less_any a b ha hb w).mono (by rintro e w' ⟨rfl, rfl⟩; exact ⟨rfl, Below.refl _ _⟩)
def eLess : Entry := ⟨24, 3, fun l => match l with | [.v (.int .u64 a), .v (.int .u64 b)] => some (some (U64 a ∧ U64 b), .v (.bool (bLess a b)), []) | _ => none⟩
theorem eLess_ok : eLess.ok Tryz.prog glR := ⟨Am.enters_of Tryz.func24 (by kernel_rfl) (by kernel_rfl), by
  intro args c t bs h hc
  simp only [eLess] at h
  split at h <;> cases h
  replace hc := hc _ rfl
  exact less_pure _ _ hc.1 hc.2⟩
theorem word_pure (a : Int) (ha : U64 a) : Pure Tryz.prog glR 73 [.v (.int .u64 a)] (.tup [.v (.int .u64 (iWord a)), .v (.bool (bWordOk a))]) := pure_v2 rfl rfl rfl fun w _ => (word_any a ha w).mono (by rintro e w' ⟨rfl, rfl⟩; exact ⟨rfl, Below.refl _ _⟩)
def eWord : Entry := ⟨73, 3, fun l => match l with | [.v (.int .u64 a)] => some (some (U64 a), .tup [.v (.int .u64 (iWord a)), .v (.bool (bWordOk a))], []) | _ => none⟩
theorem eWord_ok : eWord.ok Tryz.prog glR := ⟨Am.enters_of Tryz.func73 (by kernel_rfl) (by kernel_rfl), by
  intro args c t bs h hc
  simp only [eWord] at h
  split at h <;> cases h
  replace hc := hc _ rfl
  exact word_pure _ hc⟩
theorem rcanon_pure (a : Int) (ha : U64 a) : Pure Tryz.prog glR 60 [.v (.int .u64 a)] (.v (.int .u64 (iCanon a))) := pure_v1 rfl rfl fun w _ => (rcanon_any a ha w).mono (by rintro e w' ⟨rfl, rfl⟩; exact ⟨rfl, Below.refl _ _⟩)
def eRCanon : Entry := ⟨60, 3, fun l => match l with | [.v (.int .u64 a)] => some (some (U64 a), .v (.int .u64 (iCanon a)), []) | _ => none⟩
theorem eRCanon_ok : eRCanon.ok Tryz.prog glR := ⟨Am.enters_of Tryz.func60 (by kernel_rfl) (by kernel_rfl), by
  intro args c t bs h hc
  simp only [eRCanon] at h
  split at h <;> cases h
  replace hc := hc _ rfl
  exact rcanon_pure _ hc⟩
theorem rrank_pure (a : Int) (ha : U64 a) : Pure Tryz.prog glR 45 [.v (.int .u64 a)] (.v (.int .u64 (iRank a))) := pure_v1 rfl rfl fun w _ => (rrank_any a ha w).mono (by rintro e w' ⟨rfl, rfl⟩; exact ⟨rfl, Below.refl _ _⟩)
def eRRank : Entry := ⟨45, 3, fun l => match l with | [.v (.int .u64 a)] => some (some (U64 a), .v (.int .u64 (iRank a)), []) | _ => none⟩
theorem eRRank_ok : eRRank.ok Tryz.prog glR := ⟨Am.enters_of Tryz.func45 (by kernel_rfl) (by kernel_rfl), by
  intro args c t bs h hc
  simp only [eRRank] at h
  split at h <;> cases h
  replace hc := hc _ rfl
  exact rrank_pure _ hc⟩
theorem rless_pure (a b : Int) (ha : U64 a) (hb : U64 b) : Pure Tryz.prog glR 106 [.v (.int .u64 a), .v (.int .u64 b)] (.v (.bool (bLess a b))) := pure_v1 rfl rfl fun w _ => (rless_any a b ha hb w).mono (by rintro e w' ⟨rfl, rfl⟩; exact ⟨rfl, Below.refl _ _⟩)
def eRLess : Entry := ⟨106, 3, fun l => match l with | [.v (.int .u64 a), .v (.int .u64 b)] => some (some (U64 a ∧ U64 b), .v (.bool (bLess a b)), []) | _ => none⟩
theorem eRLess_ok : eRLess.ok Tryz.prog glR := ⟨Am.enters_of Tryz.func106 (by kernel_rfl) (by kernel_rfl), by
  intro args c t bs h hc
  simp only [eRLess] at h
  split at h <;> cases h
  replace hc := hc _ rfl
  exact rless_pure _ _ hc.1 hc.2⟩
theorem rword_pure (a : Int) (ha : U64 a) : Pure Tryz.prog glR 117 [.v (.int .u64 a)] (.tup [.v (.int .u64 (iWord a)), .v (.bool (bWordOk a))]) := pure_v2 rfl rfl rfl fun w _ => (rword_any a ha w).mono (by rintro e w' ⟨rfl, rfl⟩; exact ⟨rfl, Below.refl _ _⟩)
def eRWord : Entry := ⟨117, 3, fun l => match l with | [.v (.int .u64 a)] => some (some (U64 a), .tup [.v (.int .u64 (iWord a)), .v (.bool (bWordOk a))], []) | _ => none⟩
theorem eRWord_ok : eRWord.ok Tryz.prog glR := ⟨Am.enters_of Tryz.func117 (by kernel_rfl) (by kernel_rfl), by
  intro args c t bs h hc
  simp only [eRWord] at h
  split at h <;> cases h
  replace hc := hc _ rfl
  exact rword_pure _ hc⟩
theorem rmax_pure (a b : Int) (ha : U64 a) (hb : U64 b) : Pure Tryz.prog glR 89 [.v (.int .u64 a), .v (.int .u64 b)] (.v (.int .u64 (iTop a b))) := pure_v1 rfl rfl fun w _ => (rmax_any a b ha hb w).mono (by rintro e w' ⟨rfl, rfl⟩; exact ⟨rfl, Below.refl _ _⟩)
def eRMax : Entry := ⟨89, 3, fun l => match l with | [.v (.int .u64 a), .v (.int .u64 b)] => some (some (U64 a ∧ U64 b), .v (.int .u64 (iTop a b)), []) | _ => none⟩
theorem eRMax_ok : eRMax.ok Tryz.prog glR := ⟨Am.enters_of Tryz.func89 (by kernel_rfl) (by kernel_rfl), by
  intro args c t bs h hc
  simp only [eRMax] at h
  split at h <;> cases h
  replace hc := hc _ rfl
  exact rmax_pure _ _ hc.1 hc.2⟩
theorem rsum_pure (a b : Int) (ha : U64 a) (hb : U64 b) : Pure Tryz.prog glR 90 [.v (.int .u64 a), .v (.int .u64 b)] (.v (.int .u64 (iSum a b))) := pure_v1 rfl rfl fun w _ => (rsum_any a b ha hb w).mono (by rintro e w' ⟨rfl, rfl⟩; exact ⟨rfl, Below.refl _ _⟩)
def eRSum : Entry := ⟨90, 3, fun l => match l with | [.v (.int .u64 a), .v (.int .u64 b)] => some (some (U64 a ∧ U64 b), .v (.int .u64 (iSum a b)), []) | _ => none⟩
theorem eRSum_ok : eRSum.ok Tryz.prog glR := ⟨Am.enters_of Tryz.func90 (by kernel_rfl) (by kernel_rfl), by
  intro args c t bs h hc
  simp only [eRSum] at h
  split at h <;> cases h
  replace hc := hc _ rfl
  exact rsum_pure _ _ hc.1 hc.2⟩

/-! ### slices -/
set_option maxRecDepth 100000 in
theorem equal_pure (n m : Nat) (xs ys : List Int) : Pure Tryz.prog glR 74 [.fl [.u64] n xs, .fl [.u64] m ys] (.v (.bool (decide (xs = ys)))) := by
  refine pure_wf fun hw => ?_
  obtain ⟨⟨w1, w2⟩, ⟨w3, w4⟩, -⟩ := hw
  simp only [List.length_cons, List.length_nil, Nat.zero_add, Nat.mul_one] at w1 w3
  refine pure_of (C := ctx0 Tryz.prog) ctx0_good Tryz.func74 (c := bodyOf Tryz.f74) (by rfl) (Nat.le_of_ble_eq_true (by rfl)) 4 0 [0, 1, 4, 5, 10, 12, 13, 14, 24] ?_
  conv => whnf
  repeat' (first | (refine ifB_t (by assumption) ?_; conv => whnf) | (refine ifB_f (by assumption) ?_; conv => whnf) | (refine ifB_dec (fun h => ?_) (fun h => ?_) <;> (first | (exfalso; omega) | (conv => whnf))) | (refine ifB_eq (fun h => ?_) (fun h => ?_) <;> (first | (exfalso; omega) | (conv => whnf))) | (refine ifB_ne (fun h => ?_) (fun h => ?_) <;> (first | (exfalso; omega) | (conv => whnf))) | (refine ifB_not ?_; conv => whnf) | (refine ifB_and ?_; conv => whnf) | (refine ifB_or ?_; conv => whnf) | (refine And.intro ?_ ?_; (first | omega | assumption | (exact allU_getD (by assumption) _) | (simp only [cutL]; omega) | (refine And.intro ?_ ?_ <;> first | assumption | exact allU_getD (by assumption) _) | (simp only [cutL, IntKind.wrap_u64, IntKind.wrap_i64] at *; omega) | decide); conv => whnf))
  · exact congrArg (fun b => T.v (Value.bool b)) (decide_eq_false (fun e => by subst e; omega)).symm
  · refine TW.loopD ctx0_good 0 (base := 0) (lv := [0, 1, 4, 5, 10, 12, 13, 14, 24]) [13] [] [] (fun j : Nat => [.v (.int .i64 j)]) (fun _ => []) (fun j => j ≤ n ∧ xs.take j = ys.take j) (fun j => n - j) ?_
    conv => whnf
    refine ⟨⟨0, ⟨rfl, rfl, rfl⟩, by omega, rfl⟩, fun j ⟨hj, ht⟩ => ?_⟩
    conv => whnf
    repeat' (first | (refine ifB_t (by assumption) ?_; conv => whnf) | (refine ifB_f (by assumption) ?_; conv => whnf) | (refine ifB_dec (fun h => ?_) (fun h => ?_) <;> (first | (exfalso; omega) | (conv => whnf))) | (refine ifB_eq (fun h => ?_) (fun h => ?_) <;> (first | (exfalso; omega) | (conv => whnf))) | (refine ifB_ne (fun h => ?_) (fun h => ?_) <;> (first | (exfalso; omega) | (conv => whnf))) | (refine ifB_not ?_; conv => whnf) | (refine ifB_and ?_; conv => whnf) | (refine ifB_or ?_; conv => whnf) | (refine And.intro ?_ ?_; (first | omega | assumption | (exact allU_getD (by assumption) _) | (simp only [cutL]; omega) | (refine And.intro ?_ ?_ <;> first | assumption | exact allU_getD (by assumption) _) | (simp only [cutL, IntKind.wrap_u64, IntKind.wrap_i64] at *; omega) | decide); conv => whnf))
    · simp only [Nat.zero_add, Nat.mul_one, Int.toNat_natCast] at h
      exact congrArg (fun b => T.v (Value.bool b)) (decide_eq_false (fun e => by subst e; exact h rfl)).symm
    · simp only [Nat.zero_add, Nat.mul_one, Int.toNat_natCast] at h
      rw [wsucc (n := n) (by omega) w2]
      exact ⟨j + 1, [], ⟨rfl, rfl, rfl⟩, ⟨by omega, take_same (by omega) (by omega) ht h⟩, by (try dsimp only); omega⟩
    · have e : j = n := by omega
      rw [e, List.take_of_length_le (by omega), List.take_of_length_le (by omega)] at ht
      exact congrArg (fun b => T.v (Value.bool b)) (decide_eq_true ht).symm
def eEqual : Entry := ⟨74, 3, fun l => match l with | [.fl [.u64] n xs, .fl [.u64] m ys] => some (none, .v (.bool (decide (xs = ys))), []) | _ => none⟩
theorem eEqual_ok : eEqual.ok Tryz.prog glR := ⟨Am.enters_of Tryz.func74 (by kernel_rfl) (by kernel_rfl), by
  intro args c t bs h hc
  simp only [eEqual] at h
  split at h <;> cases h
  exact equal_pure _ _ _ _⟩
set_option maxRecDepth 100000 in
theorem words_pure (n m : Nat) (xs ys : List Int) : Pure Tryz.prog glR 13 [.fl [.u64] n xs, .fl [.u64] m ys] (.v (.bool (decide (xs = ys)))) := by
  refine pure_wf fun hw => ?_
  obtain ⟨⟨w1, w2⟩, ⟨w3, w4⟩, -⟩ := hw
  simp only [List.length_cons, List.length_nil, Nat.zero_add, Nat.mul_one] at w1 w3
  refine pure_of (C := ctx0 Tryz.prog) ctx0_good Tryz.func13 (c := bodyOf Tryz.f13) (by rfl) (Nat.le_of_ble_eq_true (by rfl)) 4 0 [0, 1, 4, 5, 10, 14, 25] ?_
  conv => whnf
  repeat' (first | (refine ifB_t (by assumption) ?_; conv => whnf) | (refine ifB_f (by assumption) ?_; conv => whnf) | (refine ifB_dec (fun h => ?_) (fun h => ?_) <;> (first | (exfalso; omega) | (conv => whnf))) | (refine ifB_eq (fun h => ?_) (fun h => ?_) <;> (first | (exfalso; omega) | (conv => whnf))) | (refine ifB_ne (fun h => ?_) (fun h => ?_) <;> (first | (exfalso; omega) | (conv => whnf))) | (refine ifB_not ?_; conv => whnf) | (refine ifB_and ?_; conv => whnf) | (refine ifB_or ?_; conv => whnf) | (refine And.intro ?_ ?_; (first | omega | assumption | (exact allU_getD (by assumption) _) | (simp only [cutL]; omega) | (refine And.intro ?_ ?_ <;> first | assumption | exact allU_getD (by assumption) _) | (simp only [cutL, IntKind.wrap_u64, IntKind.wrap_i64] at *; omega) | decide); conv => whnf))
  · exact congrArg (fun b => T.v (Value.bool b)) (decide_eq_false (fun e => by subst e; omega)).symm
  · refine TW.loopD ctx0_good 0 (base := 0) (lv := [0, 1, 4, 5, 10, 14, 25]) [5] [] [] (fun j : Nat => [.v (.int .i64 j)]) (fun _ => []) (fun j => j ≤ n ∧ xs.take j = ys.take j) (fun j => n - j) ?_
    conv => whnf
    refine ⟨⟨0, ⟨rfl, rfl, rfl⟩, by omega, rfl⟩, fun j ⟨hj, ht⟩ => ?_⟩
    conv => whnf
    repeat' (first | (refine ifB_t (by assumption) ?_; conv => whnf) | (refine ifB_f (by assumption) ?_; conv => whnf) | (refine ifB_dec (fun h => ?_) (fun h => ?_) <;> (first | (exfalso; omega) | (conv => whnf))) | (refine ifB_eq (fun h => ?_) (fun h => ?_) <;> (first | (exfalso; omega) | (conv => whnf))) | (refine ifB_ne (fun h => ?_) (fun h => ?_) <;> (first | (exfalso; omega) | (conv => whnf))) | (refine ifB_not ?_; conv => whnf) | (refine ifB_and ?_; conv => whnf) | (refine ifB_or ?_; conv => whnf) | (refine And.intro ?_ ?_; (first | omega | assumption | (exact allU_getD (by assumption) _) | (simp only [cutL]; omega) | (refine And.intro ?_ ?_ <;> first | assumption | exact allU_getD (by assumption) _) | (simp only [cutL, IntKind.wrap_u64, IntKind.wrap_i64] at *; omega) | decide); conv => whnf))
    · simp only [Nat.zero_add, Nat.mul_one, Int.toNat_natCast] at h
      exact congrArg (fun b => T.v (Value.bool b)) (decide_eq_false (fun e => by subst e; exact h rfl)).symm
    · simp only [Nat.zero_add, Nat.mul_one, Int.toNat_natCast] at h
      rw [wsucc (n := n) (by omega) w2]
      exact ⟨j + 1, [], ⟨rfl, rfl, rfl⟩, ⟨by omega, take_same (by omega) (by omega) ht h⟩, by (try dsimp only); omega⟩
    · have e : j = n := by omega
      rw [e, List.take_of_length_le (by omega), List.take_of_length_le (by omega)] at ht
      exact congrArg (fun b => T.v (Value.bool b)) (decide_eq_true ht).symm
def eWords : Entry := ⟨13, 3, fun l => match l with | [.fl [.u64] n xs, .fl [.u64] m ys] => some (none, .v (.bool (decide (xs = ys))), []) | _ => none⟩
theorem eWords_ok : eWords.ok Tryz.prog glR := ⟨Am.enters_of Tryz.func13 (by kernel_rfl) (by kernel_rfl), by
  intro args c t bs h hc
  simp only [eWords] at h
  split at h <;> cases h
  exact words_pure _ _ _ _⟩
set_option maxRecDepth 100000 in
theorem ints_pure (n m : Nat) (xs ys : List Int) : Pure Tryz.prog glR 18 [.fl [.i64] n xs, .fl [.i64] m ys] (.v (.bool (decide (xs = ys)))) := by
  refine pure_wf fun hw => ?_
  obtain ⟨⟨w1, w2⟩, ⟨w3, w4⟩, -⟩ := hw
  simp only [List.length_cons, List.length_nil, Nat.zero_add, Nat.mul_one] at w1 w3
  refine pure_of (C := ctx0 Tryz.prog) ctx0_good Tryz.func18 (c := bodyOf Tryz.f18) (by rfl) (Nat.le_of_ble_eq_true (by rfl)) 4 0 [0, 1, 4, 5, 10, 14, 25] ?_
  conv => whnf
  repeat' (first | (refine ifB_t (by assumption) ?_; conv => whnf) | (refine ifB_f (by assumption) ?_; conv => whnf) | (refine ifB_dec (fun h => ?_) (fun h => ?_) <;> (first | (exfalso; omega) | (conv => whnf))) | (refine ifB_eq (fun h => ?_) (fun h => ?_) <;> (first | (exfalso; omega) | (conv => whnf))) | (refine ifB_ne (fun h => ?_) (fun h => ?_) <;> (first | (exfalso; omega) | (conv => whnf))) | (refine ifB_not ?_; conv => whnf) | (refine ifB_and ?_; conv => whnf) | (refine ifB_or ?_; conv => whnf) | (refine And.intro ?_ ?_; (first | omega | assumption | (exact allU_getD (by assumption) _) | (simp only [cutL]; omega) | (refine And.intro ?_ ?_ <;> first | assumption | exact allU_getD (by assumption) _) | (simp only [cutL, IntKind.wrap_u64, IntKind.wrap_i64] at *; omega) | decide); conv => whnf))
  · exact congrArg (fun b => T.v (Value.bool b)) (decide_eq_false (fun e => by subst e; omega)).symm
  · refine TW.loopD ctx0_good 0 (base := 0) (lv := [0, 1, 4, 5, 10, 14, 25]) [5] [] [] (fun j : Nat => [.v (.int .i64 j)]) (fun _ => []) (fun j => j ≤ n ∧ xs.take j = ys.take j) (fun j => n - j) ?_
    conv => whnf
    refine ⟨⟨0, ⟨rfl, rfl, rfl⟩, by omega, rfl⟩, fun j ⟨hj, ht⟩ => ?_⟩
    conv => whnf
    repeat' (first | (refine ifB_t (by assumption) ?_; conv => whnf) | (refine ifB_f (by assumption) ?_; conv => whnf) | (refine ifB_dec (fun h => ?_) (fun h => ?_) <;> (first | (exfalso; omega) | (conv => whnf))) | (refine ifB_eq (fun h => ?_) (fun h => ?_) <;> (first | (exfalso; omega) | (conv => whnf))) | (refine ifB_ne (fun h => ?_) (fun h => ?_) <;> (first | (exfalso; omega) | (conv => whnf))) | (refine ifB_not ?_; conv => whnf) | (refine ifB_and ?_; conv => whnf) | (refine ifB_or ?_; conv => whnf) | (refine And.intro ?_ ?_; (first | omega | assumption | (exact allU_getD (by assumption) _) | (simp only [cutL]; omega) | (refine And.intro ?_ ?_ <;> first | assumption | exact allU_getD (by assumption) _) | (simp only [cutL, IntKind.wrap_u64, IntKind.wrap_i64] at *; omega) | decide); conv => whnf))
    · simp only [Nat.zero_add, Nat.mul_one, Int.toNat_natCast] at h
      exact congrArg (fun b => T.v (Value.bool b)) (decide_eq_false (fun e => by subst e; exact h rfl)).symm
    · simp only [Nat.zero_add, Nat.mul_one, Int.toNat_natCast] at h
      rw [wsucc (n := n) (by omega) w2]
      exact ⟨j + 1, [], ⟨rfl, rfl, rfl⟩, ⟨by omega, take_same (by omega) (by omega) ht h⟩, by (try dsimp only); omega⟩
    · have e : j = n := by omega
      rw [e, List.take_of_length_le (by omega), List.take_of_length_le (by omega)] at ht
      exact congrArg (fun b => T.v (Value.bool b)) (decide_eq_true ht).symm
def eInts : Entry := ⟨18, 3, fun l => match l with | [.fl [.i64] n xs, .fl [.i64] m ys] => some (none, .v (.bool (decide (xs = ys))), []) | _ => none⟩
theorem eInts_ok : eInts.ok Tryz.prog glR := ⟨Am.enters_of Tryz.func18 (by kernel_rfl) (by kernel_rfl), by
  intro args c t bs h hc
  simp only [eInts] at h
  split at h <;> cases h
  exact ints_pure _ _ _ _⟩

/-! ### what fits -/
def fitsB (k p n : Int) : Bool := decide (1 ≤ k ∧ k ≤ 5 ∧ 1 ≤ p ∧ p ≤ 16 ∧ 1 ≤ n ∧ n ≤ 256)
def homeI (k n : Int) : Int := if k = 1 then 1 else if k = 2 then 1 + 2 * n else if k = 3 then 1 + 4 * n else if k = 4 then 2 + 4 * n else 9 + n
set_option maxRecDepth 100000 in
theorem fits_pure (k p n : Int) : Pure Tryz.prog glR 69 [.agg [.v (.int .i64 k), .v (.int .i64 p), .v (.int .i64 n)]] (.v (.bool (fitsB k p n))) := by
  refine pure_of (C := ctx0 Tryz.prog) ctx0_good Tryz.func69 (c := bodyOf Tryz.f69) (by rfl) (Nat.le_of_ble_eq_true (by rfl)) 4 0 [0, 1, 2] ?_
  conv => whnf
  repeat' (first | (refine ifB_t (by assumption) ?_; conv => whnf) | (refine ifB_f (by assumption) ?_; conv => whnf) | (refine ifB_dec (fun h => ?_) (fun h => ?_) <;> (first | (exfalso; omega) | (conv => whnf))) | (refine ifB_eq (fun h => ?_) (fun h => ?_) <;> (first | (exfalso; omega) | (conv => whnf))) | (refine ifB_ne (fun h => ?_) (fun h => ?_) <;> (first | (exfalso; omega) | (conv => whnf))) | (refine ifB_not ?_; conv => whnf) | (refine ifB_and ?_; conv => whnf) | (refine ifB_or ?_; conv => whnf) | (refine And.intro ?_ ?_; (first | omega | assumption | (exact allU_getD (by assumption) _) | (simp only [cutL]; omega) | (refine And.intro ?_ ?_ <;> first | assumption | exact allU_getD (by assumption) _) | (simp only [cutL, IntKind.wrap_u64, IntKind.wrap_i64] at *; omega) | decide); conv => whnf))
  all_goals (first | rfl | (refine congrArg (fun b => T.v (Value.bool b)) ?_; first | rfl | exact (decide_eq_true (by omega)).symm | exact (decide_eq_false (by omega)).symm | exact decide_eq_decide.2 (by omega)) | (refine congrArg (fun b => T.v (Value.int _ b)) ?_; first | rfl | omega) | omega)
def eFits : Entry := ⟨69, 3, fun l => match l with | [.agg [.v (.int .i64 k), .v (.int .i64 p), .v (.int .i64 n)]] => some (none, .v (.bool (fitsB k p n)), []) | _ => none⟩
theorem eFits_ok : eFits.ok Tryz.prog glR := ⟨Am.enters_of Tryz.func69 (by kernel_rfl) (by kernel_rfl), by
  intro args c t bs h hc
  simp only [eFits] at h
  split at h <;> cases h
  exact fits_pure _ _ _⟩
set_option maxRecDepth 100000 in
theorem rin_pure (n a b : Int) : Pure Tryz.prog glR 58 [.v (.int .i64 n), .v (.int .i64 a), .v (.int .i64 b)] (.v (.bool (decide (a ≤ n ∧ n ≤ b)))) := by
  refine pure_of (C := ctx0 Tryz.prog) ctx0_good Tryz.func58 (c := bodyOf Tryz.f58) (by rfl) (Nat.le_of_ble_eq_true (by rfl)) 4 0 [0, 1, 2, 6] ?_
  conv => whnf
  repeat' (first | (refine ifB_t (by assumption) ?_; conv => whnf) | (refine ifB_f (by assumption) ?_; conv => whnf) | (refine ifB_dec (fun h => ?_) (fun h => ?_) <;> (first | (exfalso; omega) | (conv => whnf))) | (refine ifB_eq (fun h => ?_) (fun h => ?_) <;> (first | (exfalso; omega) | (conv => whnf))) | (refine ifB_ne (fun h => ?_) (fun h => ?_) <;> (first | (exfalso; omega) | (conv => whnf))) | (refine ifB_not ?_; conv => whnf) | (refine ifB_and ?_; conv => whnf) | (refine ifB_or ?_; conv => whnf) | (refine And.intro ?_ ?_; (first | omega | assumption | (exact allU_getD (by assumption) _) | (simp only [cutL]; omega) | (refine And.intro ?_ ?_ <;> first | assumption | exact allU_getD (by assumption) _) | (simp only [cutL, IntKind.wrap_u64, IntKind.wrap_i64] at *; omega) | decide); conv => whnf))
  all_goals (first | rfl | (refine congrArg (fun b => T.v (Value.bool b)) ?_; first | rfl | exact (decide_eq_true (by omega)).symm | exact (decide_eq_false (by omega)).symm | exact decide_eq_decide.2 (by omega)) | (refine congrArg (fun b => T.v (Value.int _ b)) ?_; first | rfl | omega) | omega)
def eRIn : Entry := ⟨58, 3, fun l => match l with | [.v (.int .i64 n), .v (.int .i64 a), .v (.int .i64 b)] => some (none, .v (.bool (decide (a ≤ n ∧ n ≤ b))), []) | _ => none⟩
theorem eRIn_ok : eRIn.ok Tryz.prog glR := ⟨Am.enters_of Tryz.func58 (by kernel_rfl) (by kernel_rfl), by
  intro args c t bs h hc
  simp only [eRIn] at h
  split at h <;> cases h
  exact rin_pure _ _ _⟩
def ctxFits (P : Program) : Ctx := ctx P glR [eFits, eRIn] [] (noEq P) [] (fun _ h => by cases h)
theorem ctxFits_good : (ctxFits Tryz.prog).good := ctx_good (by kernel_rfl) (AllOk.mem ⟨eFits_ok, eRIn_ok, trivial⟩) glR_two
set_option maxRecDepth 100000 in
theorem rfits_pure (k p n : Int) : Pure Tryz.prog glR 27 [.agg [.v (.int .i64 k), .v (.int .i64 p), .v (.int .i64 n)]] (.v (.bool (fitsB k p n))) := by
  refine pure_of (C := ctxFits Tryz.prog) ctxFits_good Tryz.func27 (c := bodyOf Tryz.f27) (by rfl) (Nat.le_of_ble_eq_true (by rfl)) 4 0 [0, 1, 2] ?_
  conv => whnf
  repeat' (first | (refine ifB_t (by assumption) ?_; conv => whnf) | (refine ifB_f (by assumption) ?_; conv => whnf) | (refine ifB_dec (fun h => ?_) (fun h => ?_) <;> (first | (exfalso; omega) | (conv => whnf))) | (refine ifB_eq (fun h => ?_) (fun h => ?_) <;> (first | (exfalso; omega) | (conv => whnf))) | (refine ifB_ne (fun h => ?_) (fun h => ?_) <;> (first | (exfalso; omega) | (conv => whnf))) | (refine ifB_not ?_; conv => whnf) | (refine ifB_and ?_; conv => whnf) | (refine ifB_or ?_; conv => whnf) | (refine And.intro ?_ ?_; (first | omega | assumption | (exact allU_getD (by assumption) _) | (simp only [cutL]; omega) | (refine And.intro ?_ ?_ <;> first | assumption | exact allU_getD (by assumption) _) | (simp only [cutL, IntKind.wrap_u64, IntKind.wrap_i64] at *; omega) | decide); conv => whnf))
  all_goals (first | rfl | (refine congrArg (fun b => T.v (Value.bool b)) ?_; first | rfl | exact (decide_eq_true (by omega)).symm | exact (decide_eq_false (by omega)).symm | exact decide_eq_decide.2 (by omega)) | (refine congrArg (fun b => T.v (Value.int _ b)) ?_; first | rfl | omega) | omega)
def eRFits : Entry := ⟨27, 3, fun l => match l with | [.agg [.v (.int .i64 k), .v (.int .i64 p), .v (.int .i64 n)]] => some (none, .v (.bool (fitsB k p n)), []) | _ => none⟩
theorem eRFits_ok : eRFits.ok Tryz.prog glR := ⟨Am.enters_of Tryz.func27 (by kernel_rfl) (by kernel_rfl), by
  intro args c t bs h hc
  simp only [eRFits] at h
  split at h <;> cases h
  exact rfits_pure _ _ _⟩
def ctxHome (P : Program) : Ctx := ctx P glR [eFits, eRFits] [] (noEq P) [] (fun _ h => by cases h)
theorem ctxHome_good : (ctxHome Tryz.prog).good := ctx_good (by kernel_rfl) (AllOk.mem ⟨eFits_ok, eRFits_ok, trivial⟩) glR_two
set_option maxRecDepth 100000 in
theorem home_pure (k p n : Int) (hf : fitsB k p n = true) : Pure Tryz.prog glR 72 [.agg [.v (.int .i64 k), .v (.int .i64 p), .v (.int .i64 n)]] (.v (.int .i64 (homeI k n))) := by
  have hf' := of_decide_eq_true hf
  refine pure_of (C := ctxHome Tryz.prog) ctxHome_good Tryz.func72 (c := bodyOf Tryz.f72) (by rfl) (Nat.le_of_ble_eq_true (by rfl)) 4 0 [0, 1, 2, 3, 6] ?_
  conv => whnf
  refine ifB_not (ifB_mk (fun _ => ?_) (fun h => by rw [hf] at h; cases h))
  conv => whnf
  obtain ⟨h1, h2, h3, h4, h5, h6⟩ := hf'
  have : k = 1 ∨ k = 2 ∨ k = 3 ∨ k = 4 ∨ k = 5 := by omega
  rcases this with rfl | rfl | rfl | rfl | rfl <;> repeat' (first | (refine ifB_t (by assumption) ?_; conv => whnf) | (refine ifB_f (by assumption) ?_; conv => whnf) | (refine ifB_dec (fun h => ?_) (fun h => ?_) <;> (first | (exfalso; omega) | (conv => whnf))) | (refine ifB_eq (fun h => ?_) (fun h => ?_) <;> (first | (exfalso; omega) | (conv => whnf))) | (refine ifB_ne (fun h => ?_) (fun h => ?_) <;> (first | (exfalso; omega) | (conv => whnf))) | (refine ifB_not ?_; conv => whnf) | (refine ifB_and ?_; conv => whnf) | (refine ifB_or ?_; conv => whnf) | (refine And.intro ?_ ?_; (first | omega | assumption | (exact allU_getD (by assumption) _) | (simp only [cutL]; omega) | (refine And.intro ?_ ?_ <;> first | assumption | exact allU_getD (by assumption) _) | (simp only [cutL, IntKind.wrap_u64, IntKind.wrap_i64] at *; omega) | decide); conv => whnf))
  all_goals (refine congrArg (fun b => T.v (Value.int _ b)) ?_; simp [objX, homeI, idxN, IntKind.wrap_i64] <;> omega)
def eHome : Entry := ⟨72, 3, fun l => match l with | [.agg [.v (.int .i64 k), .v (.int .i64 p), .v (.int .i64 n)]] => some (some (fitsB k p n = true), .v (.int .i64 (homeI k n)), []) | _ => none⟩
theorem eHome_ok : eHome.ok Tryz.prog glR := ⟨Am.enters_of Tryz.func72 (by kernel_rfl) (by kernel_rfl), by
  intro args c t bs h hc
  simp only [eHome] at h
  split at h <;> cases h
  replace hc := hc _ rfl
  exact home_pure _ _ _ hc⟩
set_option maxHeartbeats 2000000 in
set_option maxRecDepth 100000 in
theorem rhome_pure (k p n : Int) (hf : fitsB k p n = true) : Pure Tryz.prog glR 97 [.agg [.v (.int .i64 k), .v (.int .i64 p), .v (.int .i64 n)]] (.v (.int .i64 (homeI k n))) := by
  have hf' := of_decide_eq_true hf
  refine pure_of (C := ctxHome Tryz.prog) ctxHome_good Tryz.func97 (c := bodyOf Tryz.f97) (by rfl) (Nat.le_of_ble_eq_true (by rfl)) 4 0 [0, 1, 2, 5, 7, 8, 10, 16, 22] ?_
  conv => whnf
  refine ifB_not (ifB_mk (fun _ => ?_) (fun h => by rw [hf] at h; cases h))
  conv => whnf
  obtain ⟨h1, h2, h3, h4, h5, h6⟩ := hf'
  have : k = 1 ∨ k = 2 ∨ k = 3 ∨ k = 4 ∨ k = 5 := by omega
  rcases this with rfl | rfl | rfl | rfl | rfl <;> repeat' (first | (refine ifB_t (by assumption) ?_; conv => whnf) | (refine ifB_f (by assumption) ?_; conv => whnf) | (refine ifB_dec (fun h => ?_) (fun h => ?_) <;> (first | (exfalso; omega) | (conv => whnf))) | (refine ifB_eq (fun h => ?_) (fun h => ?_) <;> (first | (exfalso; omega) | (conv => whnf))) | (refine ifB_ne (fun h => ?_) (fun h => ?_) <;> (first | (exfalso; omega) | (conv => whnf))) | (refine ifB_not ?_; conv => whnf) | (refine ifB_and ?_; conv => whnf) | (refine ifB_or ?_; conv => whnf) | (refine And.intro ?_ ?_; (first | omega | assumption | (exact allU_getD (by assumption) _) | (simp only [cutL]; omega) | (refine And.intro ?_ ?_ <;> first | assumption | exact allU_getD (by assumption) _) | (simp only [cutL, IntKind.wrap_u64, IntKind.wrap_i64] at *; omega) | decide); conv => whnf))
  all_goals (refine congrArg (fun b => T.v (Value.int _ b)) ?_; simp [homeI, IntKind.wrap_i64] <;> omega)
def eRHome : Entry := ⟨97, 3, fun l => match l with | [.agg [.v (.int .i64 k), .v (.int .i64 p), .v (.int .i64 n)]] => some (some (fitsB k p n = true), .v (.int .i64 (homeI k n)), []) | _ => none⟩
theorem eRHome_ok : eRHome.ok Tryz.prog glR := ⟨Am.enters_of Tryz.func97 (by kernel_rfl) (by kernel_rfl), by
  intro args c t bs h hc
  simp only [eRHome] at h
  split at h <;> cases h
  replace hc := hc _ rfl
  exact rhome_pure _ _ _ hc⟩
end Go.Proofs.YtlcpcgdecodjfaaGreatDoor
namespace Go.Proofs.YtlcpcgdecodjfaaGreatDoor
open Go.RowKit Go.Proofs.YtlcpcgdecodjfaaGreatDoor.Am
set_option linter.unusedVariables false
set_option linter.unusedSimpArgs false

/-- The right spine, its lowest one first: what goes behind a key is taken off; under: the last one that was. -/
def popB (bf : Int → Int → Bool) (xs : List Int) (k : Int) : List Nat → Nat → List Nat × Nat
  | [], u => ([], u)
  | t :: r, u => if bf k (xs.getD (t - 1) 0) = true then popB bf xs k r t else (t :: r, u)
def lkR (p : List Nat) (lk : List Int) (i : Nat) : List Int := match p with
  | [] => lk
  | t :: _ => lk.set ((t - 1) * 2 + 1) ((i + 1 : Nat) : Int)
/-- Spine and links behind so many keys. -/
def stB (bf : Int → Int → Bool) (xs : List Int) : Nat → List Nat × List Int
  | 0 => ([], List.replicate (xs.length * 2) 0)
  | i + 1 => ((i + 1) :: (popB bf xs (xs.getD i 0) (stB bf xs i).1 0).1, (lkR (popB bf xs (xs.getD i 0) (stB bf xs i).1 0).1 (stB bf xs i).2 i).set (i * 2) (((popB bf xs (xs.getD i 0) (stB bf xs i).1 0).2 : Nat) : Int))
def spL (sp : List Nat) : List Int := sp.reverse.map fun t => ((t : Nat) : Int)
def rootB (bf : Int → Int → Bool) (xs : List Int) : Int := (spL (stB bf xs xs.length).1).getD 0 0
def linksB (bf : Int → Int → Bool) (xs : List Int) : List Int := (stB bf xs xs.length).2
def rises (xs : List Int) : Prop := ∀ i, 0 < i → i < xs.length → xs.getD (i - 1) 0 < xs.getD i 0
theorem spL_len (sp : List Nat) : (spL sp).length = sp.length := by simp [spL]
theorem popB_suffix (bf : Int → Int → Bool) (xs : List Int) (k : Int) : ∀ (sp : List Nat) (u : Nat), ∃ pre, sp = pre ++ (popB bf xs k sp u).1
  | [], u => ⟨[], rfl⟩
  | t :: r, u => by
    simp only [popB]
    split
    · obtain ⟨pre, h⟩ := popB_suffix bf xs k r t; exact ⟨t :: pre, by rw [List.cons_append, ← h]⟩
    · exact ⟨[], rfl⟩
theorem popB_under (bf : Int → Int → Bool) (xs : List Int) (k : Int) (i : Nat) : ∀ (sp : List Nat) (u : Nat), (∀ t ∈ sp, t ≤ i) → u ≤ i → (popB bf xs k sp u).2 ≤ i
  | [], u, _, hu => hu
  | t :: r, u, h, hu => by
    simp only [popB]
    split
    · exact popB_under bf xs k i r t (fun s hs => h s (List.mem_cons_of_mem _ hs)) (h t (List.mem_cons_self ..))
    · exact hu
theorem stB_ok (bf : Int → Int → Bool) (xs : List Int) : ∀ i, (∀ t ∈ (stB bf xs i).1, 1 ≤ t ∧ t ≤ i) ∧ (stB bf xs i).1.length ≤ i ∧ (stB bf xs i).2.length = xs.length * 2
  | 0 => ⟨fun t ht => (by cases ht), Nat.le_refl _, by simp [stB]⟩
  | i + 1 => by
    obtain ⟨h1, h2, h3⟩ := stB_ok bf xs i
    obtain ⟨pre, hp⟩ := popB_suffix bf xs (xs.getD i 0) (stB bf xs i).1 0
    have hl := congrArg List.length hp
    rw [List.length_append] at hl
    refine ⟨fun t ht => ?_, ?_, ?_⟩
    · simp only [stB] at ht
      rcases List.mem_cons.1 ht with rfl | ht
      · omega
      · have := h1 t (by rw [hp]; exact List.mem_append.2 (.inr ht)); omega
    · simp only [stB, List.length_cons]; omega
    · simp only [stB, List.length_set, lkR]
      split
      · exact h3
      · rw [List.length_set]; exact h3
theorem spL_top {sp pre r : List Nat} {t : Nat} (h : sp = pre ++ t :: r) : (spL sp).getD r.length 0 = t := by
  subst h
  have : ((pre ++ t :: r).reverse)[r.length]? = some t := by
    rw [List.reverse_append, List.reverse_cons, List.append_assoc, List.getElem?_append_right (by simp)]
    simp
  simp [spL, List.getD, this]
theorem spL_take {sp pre r : List Nat} (h : sp = pre ++ r) : (spL sp).take r.length = spL r := by
  subst h
  unfold spL
  rw [List.reverse_append, List.map_append, List.take_append_of_le_length (by simp)]
  rw [List.take_of_length_le (by simp)]
theorem spL_cons (t : Nat) (r : List Nat) : spL (t :: r) = spL r ++ [((t : Nat) : Int)] := by simp [spL]
theorem stB_spine {bf : Int → Int → Bool} {xs : List Int} {i u : Nat} {sp : List Nat} (hpop : popB bf xs (xs.getD i 0) (stB bf xs i).1 0 = (sp, u)) : (stB bf xs (i + 1)).1 = (i + 1) :: sp := by simp only [stB, hpop]
theorem stB_links {bf : Int → Int → Bool} {xs : List Int} {i u : Nat} {sp : List Nat} (hpop : popB bf xs (xs.getD i 0) (stB bf xs i).1 0 = (sp, u)) : (stB bf xs (i + 1)).2 = (lkR sp (stB bf xs i).2 i).set (i * 2) (u : Int) := by simp only [stB, hpop]
theorem spL_next {bf : Int → Int → Bool} {xs : List Int} {i u : Nat} {sp pre : List Nat} (hi : i ≤ 256) (hpop : popB bf xs (xs.getD i 0) (stB bf xs i).1 0 = (sp, u)) (hp : (stB bf xs i).1 = pre ++ sp) :
    List.take (mulN (sp, u).1.length (0 + 1)) (List.drop (mulN 0 (0 + 1)) (spL (stB bf xs i).1)) ++ [IntKind.i64.wrap ((i : Int) + 1)] = spL (stB bf xs (i + 1)).1 := by
  rw [stB_spine hpop, spL_cons, mulN_eq, mulN_eq, Nat.zero_mul, List.drop_zero, Nat.zero_add, Nat.mul_one, spL_take hp, wrap64 (by omega) (by omega)]
  rfl
def eBf (bf : Int → Int → Bool) : Entry := ⟨76, 4, fun l => match l with
  | [.v (.int .u64 a), .v (.int .u64 b)] => some (none, .v (.bool (bf a b)), [])
  | _ => none⟩
noncomputable def ctxOrA (P : Program) (bf : Int → Int → Bool) : Ctx := ctx P glM [eBf bf] [] (noEq P) [] (fun _ h => by cases h)
theorem ctxOrA_good {bf : Int → Int → Bool} (h : (eBf bf).ok Tryz.prog glM) : (ctxOrA Tryz.prog bf).good := ctx_good (by kernel_rfl) (AllOk.mem ⟨h, trivial⟩) glM_two
set_option maxRecDepth 100000 in
theorem buildG_pure (bf : Int → Int → Bool) (hbf : (eBf bf).ok Tryz.prog glM) (n : Nat) (xs : List Int) (hn : n ≤ 256) (hr : rises xs) : Pure Tryz.prog glM 42 [.fl [.u64] n xs] (.tup [.v (.int .i64 (rootB bf xs)), .ow 0 2 n, .v (.int .i64 0)]) [(0, .fl [.i64, .i64] (linksB bf xs))] := by
  refine pure_wf fun hw => ?_
  obtain ⟨⟨w1, w2⟩, -⟩ := hw
  simp only [List.length_cons, List.length_nil, Nat.zero_add, Nat.mul_one] at w1
  refine pure_of (C := ctxOrA Tryz.prog bf) (ctxOrA_good hbf) Tryz.func42 (c := bodyOf Tryz.f42) (by rfl) (Nat.le_of_ble_eq_true (by rfl)) 4 0 [0, 2, 3, 4, 5, 6, 7, 8, 9, 10, 13, 17, 18, 19, 20, 34, 37, 51, 78] ?_
  conv => whnf
  repeat' (first | (refine ifB_t (by assumption) ?_; conv => whnf) | (refine ifB_f (by assumption) ?_; conv => whnf) | (refine ifB_dec (fun h => ?_) (fun h => ?_) <;> (first | (exfalso; omega) | (conv => whnf))) | (refine ifB_eq (fun h => ?_) (fun h => ?_) <;> (first | (exfalso; omega) | (conv => whnf))) | (refine ifB_ne (fun h => ?_) (fun h => ?_) <;> (first | (exfalso; omega) | (conv => whnf))) | (refine ifB_not ?_; conv => whnf) | (refine ifB_and ?_; conv => whnf) | (refine ifB_or ?_; conv => whnf) | (refine And.intro ?_ ?_; (first | omega | assumption | (exact allU_getD (by assumption) _) | (simp only [cutL]; omega) | (refine And.intro ?_ ?_ <;> first | assumption | exact allU_getD (by assumption) _) | (simp only [cutL, IntKind.wrap_u64, IntKind.wrap_i64] at *; omega) | decide); conv => whnf) | (refine ifB_mk (fun h => ?_) (fun h => ?_) <;> (conv => whnf)))
  refine TW.nilOwn 6 5000 1 (.fl [.i64] []) rfl rfl (.inr ⟨_, _, rfl⟩) (by decide) ?_
  have er : ∀ k, k = n * 2 → List.replicate k (0 : Int) = (stB bf xs 0).2 := fun k hk => by rw [hk, ← w1]; rfl
  rw [er _ (by simp only [mulN_eq]; omega)]
  refine TW.loopD (ctxOrA_good hbf) 0 (base := 0) (lv := [0, 2, 3, 4, 5, 6, 7, 8, 9, 10, 13, 17, 18, 19, 20, 34, 37, 51, 78]) [6, 19] [5000, 64] [(5000, 5000), (64, 64)] (fun i : Nat => [.ow 5000 1 (stB bf xs i).1.length, .v (.int .i64 i)]) (fun i => [.fl [.i64] (spL (stB bf xs i).1), .fl [.i64, .i64] (stB bf xs i).2]) (fun i => i ≤ n) (fun i => n - i) ?_
  conv => whnf
  refine ⟨⟨0, ⟨rfl, rfl, rfl⟩, Nat.zero_le _⟩, fun i hi => ?_⟩
  replace hi : i ≤ n := hi
  obtain ⟨o1, o2, o3⟩ := stB_ok bf xs i
  conv => whnf
  refine ifB_dec (fun h => ?_) (fun h => ?_)
  · have ek : xs.getD (0 + (i : Int).toNat * (0 + 1)) 0 = xs.getD i 0 := by simp
    have ei : IntKind.i64.wrap ((i : Int) - 1) = (i : Int) - 1 := wrap64 (by omega) (by omega)
    conv => whnf
    refine And.intro (by omega) ?_
    conv => whnf
    refine ifB_dec (fun h0 => ?_) (fun h0 => ?_)
    conv => whnf
    rw [ei]
    refine And.intro (by omega) ?_
    conv => whnf
    refine ifB_f (show (bif true then decide (xs.getD (0 + ((i : Int) - 1).toNat * (0 + 1)) 0 ≥ xs.getD (0 + (i : Int).toNat * (0 + 1)) 0) else false) = false from decide_eq_false (by
      have := hr i (by omega) (by omega)
      rw [ek, show 0 + ((i : Int) - 1).toNat * (0 + 1) = i - 1 by omega]
      omega)) ?_
    conv => whnf
    rotate_left
    conv => whnf
    all_goals (
      refine TW.lowS 6 5000 1 _ rfl ?_
      rw [ek]
      refine TW.loopD (ctxOrA_good hbf) 0 (base := 0) (lv := [0, 2, 3, 4, 5, 6, 7, 8, 9, 10, 13, 17, 18, 19, 20, 34, 37, 51, 78]) [6, 9] [] [] (fun x : List Nat × Nat => [.os 5000 1 0 x.1.length, .v (.int .i64 x.2)]) (fun x => []) (fun x => (∃ pre, (stB bf xs i).1 = pre ++ x.1) ∧ popB bf xs (xs.getD i 0) x.1 x.2 = popB bf xs (xs.getD i 0) (stB bf xs i).1 0) (fun x => x.1.length) ?_
      conv => whnf
      refine ⟨⟨((stB bf xs i).1, 0), ⟨rfl, rfl, rfl⟩, ⟨[], rfl⟩, rfl⟩, fun ⟨sp, u⟩ ⟨⟨pre, hp⟩, hq⟩ => ?_⟩
      replace hp : (stB bf xs i).1 = pre ++ sp := hp
      replace hq : popB bf xs (xs.getD i 0) sp u = popB bf xs (xs.getD i 0) (stB bf xs i).1 0 := hq
      conv => whnf
      refine ifB_dec (fun h5 => ?_) (fun h5 => ?_)
      · replace h5 : (sp.length : Int) > 0 := h5
        cases sp with
        | nil => exact absurd h5 (by simp)
        | cons t r =>
          have el : IntKind.i64.wrap ((((t :: r : List Nat), u).1.length : Int) - 1) = (r.length : Int) := by
            show IntKind.i64.wrap (((t :: r : List Nat).length : Int) - 1) = _
            have := congrArg List.length hp
            rw [List.length_append] at this
            rw [wrap64 (by simp only [List.length_cons]; omega) (by simp only [List.length_cons] at *; omega)]
            simp only [List.length_cons]; omega
          obtain ⟨t1, t2⟩ := o1 t (by rw [hp]; exact List.mem_append.2 (.inr (List.mem_cons_self ..)))
          have et : (spL (stB bf xs i).1).getD (0 + addN 0 ((r.length : Nat) : Int).toNat * (0 + 1)) 0 = t := by
            rw [show 0 + addN 0 ((r.length : Nat) : Int).toNat * (0 + 1) = r.length by simp [addN_eq]]
            exact spL_top hp
          have em : IntKind.i64.wrap ((t : Int) - 1) = ((t - 1 : Nat) : Int) := by rw [wrap64 (by omega) (by omega)]; omega
          have en : xs.getD (0 + ((t - 1 : Nat) : Int).toNat * (0 + 1)) 0 = xs.getD (t - 1) 0 := by simp
          conv => whnf
          rw [el]
          refine And.intro ⟨by omega, (show (r.length : Int) < ((t :: r : List Nat).length : Int) by simp only [List.length_cons]; omega)⟩ ?_
          conv => whnf
          rw [et, em]
          refine And.intro (by omega) ?_
          conv => whnf
          rw [en]
          cases hb : bf (xs.getD i 0) (xs.getD (t - 1) 0)
          · conv => whnf
            have hpop : popB bf xs (xs.getD i 0) (stB bf xs i).1 0 = (t :: r, u) := by rw [← hq]; simp only [popB, hb]; rfl
            rw [em]
            have hlen : ((t :: r, u) : List Nat × Nat).1.length ≤ 1000 := by
              have := congrArg List.length hp
              rw [List.length_append] at this
              show (t :: r).length ≤ 1000
              omega
            repeat (refine And.intro (by omega) ?_; conv => whnf)
            have E1 := spL_next (by omega) hpop hp
            have E3 : ((t :: r, u) : List Nat × Nat).1.length + 1 = (stB bf xs (i + 1)).1.length := by rw [stB_spine hpop]; rfl
            have E2 := (stB_links hpop).symm
            rw [E1, E3, wsucc (n := n) (by omega) w2]
            have e4 : ((stB bf xs i).2.set (0 + 1 + addN 0 ((t - 1 : Nat) : Int).toNat * (1 + 1) + 0) ((i + 1 : Nat) : Int)).set (0 + addN 0 (i : Int).toNat * (1 + 1) + 0) (((t :: r, u) : List Nat × Nat).2 : Int) = (stB bf xs (i + 1)).2 := by
              rw [← E2]
              show _ = ((stB bf xs i).2.set ((t - 1) * 2 + 1) ((i + 1 : Nat) : Int)).set (i * 2) (u : Int)
              rw [show 0 + 1 + addN 0 ((t - 1 : Nat) : Int).toNat * (1 + 1) + 0 = (t - 1) * 2 + 1 by simp only [addN_eq]; omega, show 0 + addN 0 (i : Int).toNat * (1 + 1) + 0 = i * 2 by simp only [addN_eq]; omega]
            rw [e4]
            exact ⟨i + 1, [(296, 5000), (64, 64)], ⟨rfl, rfl, rfl⟩, (by omega : i + 1 ≤ n), by (try dsimp only); omega⟩
          · conv => whnf
            rw [el]
            refine And.intro ⟨by omega, (show (r.length : Int) ≤ ((t :: r : List Nat).length : Int) by simp only [List.length_cons]; omega)⟩ ?_
            conv => whnf
            obtain ⟨pre', hpre⟩ : ∃ pre', (stB bf xs i).1 = pre' ++ r := ⟨pre ++ [t], by rw [hp]; simp⟩
            exact ⟨(r, t), [], ⟨rfl, rfl, rfl⟩, ⟨⟨pre', hpre⟩, by show popB bf xs (xs.getD i 0) r t = _; rw [← hq]; simp only [popB, hb]; rfl⟩, by dsimp only [List.length_cons]; omega⟩
      · replace h5 : ¬ (sp.length : Int) > 0 := h5
        have hsp : sp = [] := List.eq_nil_of_length_eq_zero (by omega)
        subst hsp
        have hpop : popB bf xs (xs.getD i 0) (stB bf xs i).1 0 = ([], u) := by rw [← hq]; rfl
        conv => whnf
        have hlen : (([], u) : List Nat × Nat).1.length ≤ 1000 := by show 0 ≤ 1000; omega
        repeat (refine And.intro (by omega) ?_; conv => whnf)
        have E1 := spL_next (by omega) hpop hp
        have E3 : (([], u) : List Nat × Nat).1.length + 1 = (stB bf xs (i + 1)).1.length := by rw [stB_spine hpop]; rfl
        have E2 := (stB_links hpop).symm
        rw [E1, E3, wsucc (n := n) (by omega) w2]
        have e4 : (stB bf xs i).2.set (0 + addN 0 (i : Int).toNat * (1 + 1) + 0) ((([], u) : List Nat × Nat).2 : Int) = (stB bf xs (i + 1)).2 := by
          rw [← E2]
          show _ = (stB bf xs i).2.set (i * 2) (u : Int)
          rw [show 0 + addN 0 (i : Int).toNat * (1 + 1) + 0 = i * 2 by simp only [addN_eq]; omega]
        rw [e4]
        exact ⟨i + 1, [(296, 5000), (64, 64)], ⟨rfl, rfl, rfl⟩, (by omega : i + 1 ≤ n), by (try dsimp only); omega⟩)
  · obtain rfl : i = n := by omega
    subst w1
    conv => whnf
    refine ifB_eq (fun h0 => ?_) (fun h0 => ?_)
    · have hs : (stB bf xs xs.length).1 = [] := List.eq_nil_of_length_eq_zero (by omega)
      have h0' : xs = [] := by
        cases xs with
        | nil => rfl
        | cons a r => exact absurd hs (by show (stB bf (a :: r) (r.length + 1)).1 ≠ []; simp only [stB]; exact List.cons_ne_nil _ _)
      subst h0'
      conv => whnf
      repeat' (first | exact trivial | exact rfl | (refine And.intro ?_ ?_) | ((conv => whnf); done) | ((conv => whnf); (first | rfl | (refine congrArg (fun b => T.v (Value.bool b)) ?_; first | rfl | exact (decide_eq_true (by omega)).symm | exact (decide_eq_false (by omega)).symm | exact decide_eq_decide.2 (by omega)) | (refine congrArg (fun b => T.v (Value.int _ b)) ?_; first | rfl | omega) | omega)) | (first | rfl | (refine congrArg (fun b => T.v (Value.bool b)) ?_; first | rfl | exact (decide_eq_true (by omega)).symm | exact (decide_eq_false (by omega)).symm | exact decide_eq_decide.2 (by omega)) | (refine congrArg (fun b => T.v (Value.int _ b)) ?_; first | rfl | omega) | omega))
    · conv => whnf
      refine And.intro (by omega) ?_
      conv => whnf
      repeat' (first | exact trivial | exact rfl | (refine And.intro ?_ ?_) | ((conv => whnf); done) | ((conv => whnf); (first | rfl | (refine congrArg (fun b => T.v (Value.bool b)) ?_; first | rfl | exact (decide_eq_true (by omega)).symm | exact (decide_eq_false (by omega)).symm | exact decide_eq_decide.2 (by omega)) | (refine congrArg (fun b => T.v (Value.int _ b)) ?_; first | rfl | omega) | omega)) | (first | rfl | (refine congrArg (fun b => T.v (Value.bool b)) ?_; first | rfl | exact (decide_eq_true (by omega)).symm | exact (decide_eq_false (by omega)).symm | exact decide_eq_decide.2 (by omega)) | (refine congrArg (fun b => T.v (Value.int _ b)) ?_; first | rfl | omega) | omega))
theorem eBf_ok : (eBf bBefore).ok Tryz.prog glM := eBefore_ok
theorem linksB_len (bf : Int → Int → Bool) (xs : List Int) : (linksB bf xs).length = xs.length * 2 := (stB_ok bf xs xs.length).2.2
end Go.Proofs.YtlcpcgdecodjfaaGreatDoor
namespace Go.Proofs.YtlcpcgdecodjfaaGreatDoor
open Go.RowKit Go.Proofs.YtlcpcgdecodjfaaGreatDoor.Am
set_option linter.unusedVariables false
set_option linter.unusedSimpArgs false

/-- nil, where a list of entries is looked for. -/
def fxE (t : T) : T := match t with
  | .v (.slice none 0 0) => .fl [.u64, .u64] 0 []
  | t => t
def fixO (t : T) : T := match t with
  | .sp [a, b] i => .sp [a, fxE b] i
  | t => t
theorem fxE_ok {w : World} {I : Nat → Prop} {m : Nat → Option Nat} {L : Nat → Option (Option Nat)} {t : T} {v : Value} (h : TV w I m L t v) : TV w I m L (fxE t) v := by
  unfold fxE
  split
  · obtain ⟨rfl, -⟩ := h.v_inv; exact .fl0
  · exact h
theorem fixO_ok {w : World} {I : Nat → Prop} {m : Nat → Option Nat} {L : Nat → Option (Option Nat)} {t : T} {v : Value} (h : TV w I m L t v) : TV w I m L (fixO t) v := by
  unfold fixO
  split
  · cases h with
    | sp hI hb hv hc => cases hv with | cons h1 hv => cases hv with | cons h2 hv => exact .sp hI hb (.cons h1 (.cons (fxE_ok h2) hv)) hc
  · exact h
theorem fixOs_ok {w : World} {I : Nat → Prop} {m : Nat → Option Nat} {L : Nat → Option (Option Nat)} {ts : List T} {vs : List Value} (h : TVs w I m L ts vs) : TVs w I m L (ts.map fixO) vs := by
  induction ts generalizing vs with
  | nil => exact h
  | cons t ts ih => cases h with | cons a b => exact .cons (fixO_ok a) (ih b)
theorem pure_fixO {P : Program} {gl : Nat → T} {f : FuncId} {args : List T} {t : T} {bs : Hp} (h : Pure P gl f (args.map fixO) t bs) : Pure P gl f args t bs := fun w vs hg ha => h w vs hg (fixOs_ok ha)
/-- An order. -/
abbrev OT (most : Int) (n : Nat) (xs : List Int) : T := .sp [.v (.int .i64 most), .fl [.u64, .u64] n xs] 0
/-- Its ranks. -/
def rk (xs : List Int) (n : Nat) : List Int := (List.range n).map fun i => xs.getD (i * 2) 0
theorem rk_len (xs : List Int) (n : Nat) : (rk xs n).length = n := by simp [rk]
theorem rk_getD (xs : List Int) {n i : Nat} (h : i < n) : (rk xs n).getD i 0 = xs.getD (i * 2) 0 := by simp [rk, List.getD, h]
theorem rk_succ (xs : List Int) (n : Nat) : rk xs (n + 1) = rk xs n ++ [xs.getD (n * 2) 0] := by simp [rk, List.range_succ]
noncomputable def ctxOrB0 (P : Program) : Ctx := ctx P glM [] [] (noEq P) [] (fun _ h => by cases h)
theorem ctxOrB0_good : (ctxOrB0 Tryz.prog).good := ctx_good (by kernel_rfl) (fun _ h => by cases h) glM_two
set_option maxRecDepth 100000 in
theorem ranks_pure (most : Int) (n : Nat) (xs : List Int) (hn : n ≤ 1000) : Pure Tryz.prog glM 41 [OT most n xs] (.ow 0 1 n) [(0, .fl [.u64] (rk xs n))] := by
  refine pure_wf fun hw => ?_
  obtain ⟨⟨-, ⟨w1, w2⟩, -⟩, -⟩ := hw
  simp only [List.length_cons, List.length_nil, Nat.zero_add, Nat.mul_one] at w1
  refine pure_of (C := ctxOrB0 Tryz.prog) ctxOrB0_good Tryz.func41 (c := bodyOf Tryz.f41) (by rfl) (Nat.le_of_ble_eq_true (by rfl)) 4 0 [0, 2, 4, 8, 9, 10, 11] ?_
  conv => whnf
  repeat' (first | (refine ifB_t (by assumption) ?_; conv => whnf) | (refine ifB_f (by assumption) ?_; conv => whnf) | (refine ifB_dec (fun h => ?_) (fun h => ?_) <;> (first | (exfalso; omega) | (conv => whnf))) | (refine ifB_eq (fun h => ?_) (fun h => ?_) <;> (first | (exfalso; omega) | (conv => whnf))) | (refine ifB_ne (fun h => ?_) (fun h => ?_) <;> (first | (exfalso; omega) | (conv => whnf))) | (refine ifB_not ?_; conv => whnf) | (refine ifB_and ?_; conv => whnf) | (refine ifB_or ?_; conv => whnf) | (refine And.intro ?_ ?_; (first | omega | assumption | (exact allU_getD (by assumption) _) | (simp only [cutL]; omega) | (refine And.intro ?_ ?_ <;> first | assumption | exact allU_getD (by assumption) _) | (simp only [cutL, IntKind.wrap_u64, IntKind.wrap_i64] at *; omega) | decide); conv => whnf) | (refine ifB_mk (fun h => ?_) (fun h => ?_) <;> (conv => whnf)))
  refine TW.nilOwn 2 5000 1 (.fl [.u64] []) rfl rfl (.inr ⟨_, _, rfl⟩) (by decide) ?_
  refine TW.loopD ctxOrB0_good 0 (base := 0) (lv := [0, 2, 4, 8, 9, 10, 11]) [2, 10] [5000] [(5000, 5000)] (fun j : Nat => [.ow 5000 1 j, .v (.int .i64 j)]) (fun j => [.fl [.u64] (rk xs j)]) (fun j => j ≤ n) (fun j => n - j) ?_
  conv => whnf
  refine ⟨⟨0, ⟨rfl, rfl, rfl⟩, Nat.zero_le _⟩, fun j hj => ?_⟩
  replace hj : j ≤ n := hj
  conv => whnf
  refine ifB_dec (fun h => ?_) (fun h => ?_)
  · conv => whnf
    repeat (refine And.intro (by omega) ?_; conv => whnf)
    rw [show 0 + (j : Int).toNat * (1 + 1) + 0 = j * 2 by omega, ← rk_succ, wsucc (n := n) (by omega) w2]
    exact ⟨j + 1, [(72, 5000)], ⟨rfl, rfl, rfl⟩, (by omega : j + 1 ≤ n), by (try dsimp only); omega⟩
  · obtain rfl : j = n := by omega
    conv => whnf
    repeat' (first | exact trivial | exact rfl | (refine And.intro ?_ ?_) | ((conv => whnf); done) | ((conv => whnf); (first | rfl | (refine congrArg (fun b => T.v (Value.bool b)) ?_; first | rfl | exact (decide_eq_true (by omega)).symm | exact (decide_eq_false (by omega)).symm | exact decide_eq_decide.2 (by omega)) | (refine congrArg (fun b => T.v (Value.int _ b)) ?_; first | rfl | omega) | omega)) | (first | rfl | (refine congrArg (fun b => T.v (Value.bool b)) ?_; first | rfl | exact (decide_eq_true (by omega)).symm | exact (decide_eq_false (by omega)).symm | exact decide_eq_decide.2 (by omega)) | (refine congrArg (fun b => T.v (Value.int _ b)) ?_; first | rfl | omega) | omega))


def eRanks : Entry := ⟨41, 4, fun l => match l.map fixO with | [.sp [.v (.int .i64 most), .fl [.u64, .u64] n xs] 0] => some (some (n ≤ 1000), .ow 0 1 n, [(0, .fl [.u64] (rk xs n))]) | _ => none⟩
theorem eRanks_ok : eRanks.ok Tryz.prog glM := ⟨Am.enters_of Tryz.func41 (by kernel_rfl) (by kernel_rfl), by
  intro args c t bs h hc
  simp only [eRanks] at h
  split at h <;> cases h
  rename_i heq
  replace hc := hc _ rfl
  refine pure_fixO ?_
  rw [heq]
  exact ranks_pure _ _ _ hc⟩

def eBuildB (bf : Int → Int → Bool) : Entry := ⟨42, 4, fun l => match l with
  | [.fl [.u64] n xs] => some (some (n ≤ 256 ∧ rises xs), .tup [.v (.int .i64 (rootB bf xs)), .ow 0 2 n, .v (.int .i64 0)], [(0, .fl [.i64, .i64] (linksB bf xs))])
  | _ => none⟩
theorem eBuildB_ok {bf : Int → Int → Bool} (hbf : (eBf bf).ok Tryz.prog glM) : (eBuildB bf).ok Tryz.prog glM := ⟨Am.enters_of Tryz.func42 (by kernel_rfl) (by kernel_rfl), by
  intro args c t bs h hc
  simp only [eBuildB] at h
  split at h <;> cases h
  replace hc := hc _ rfl
  exact buildG_pure bf hbf _ _ hc.1 hc.2⟩
/-- The words behind so many entries. -/
def wst (bf : Int → Int → Bool) (most n : Nat) (xs : List Int) : Nat → List Int
  | 0 => ((List.replicate (2 + 4 * most) 0).set 0 (n : Int)).set 1 (IntKind.u64.wrap (rootB bf (rk xs n)))
  | j + 1 => spl (wst bf most n xs j) (2 + 4 * j) [xs.getD (j * 2) 0, xs.getD (j * 2 + 1) 0, IntKind.u64.wrap ((linksB bf (rk xs n)).getD (j * 2) 0), IntKind.u64.wrap ((linksB bf (rk xs n)).getD (j * 2 + 1) 0)]
def wordsO (bf : Int → Int → Bool) (most n : Nat) (xs : List Int) : List Int := wst bf most n xs n
theorem spl_len' {xs ys : List Int} {o : Nat} (h : o + ys.length ≤ xs.length) : (spl xs o ys).length = xs.length := spl_len h
theorem wst_len (bf : Int → Int → Bool) (most n : Nat) (xs : List Int) : ∀ j, j ≤ most → (wst bf most n xs j).length = 2 + 4 * most
  | 0, _ => by simp [wst]
  | j + 1, h => by
    have ih := wst_len bf most n xs j (by omega)
    simp only [wst]
    rw [spl_len (by rw [ih]; simp only [List.length_cons, List.length_nil]; omega), ih]
noncomputable def ctxOrB (P : Program) (bf : Int → Int → Bool) : Ctx := ctx P glM [eRanks, eBuildB bf] [] (noEq P) [] (fun _ h => by cases h)
theorem ctxOrB_good {bf : Int → Int → Bool} (hbf : (eBf bf).ok Tryz.prog glM) : (ctxOrB Tryz.prog bf).good := ctx_good (by kernel_rfl) (AllOk.mem ⟨eRanks_ok, eBuildB_ok hbf, trivial⟩) glM_two
attribute [local irreducible] rootB linksB rk
set_option maxRecDepth 100000 in
theorem wordsO_pure (bf : Int → Int → Bool) (hbf : (eBf bf).ok Tryz.prog glM) (most n : Nat) (xs : List Int) (hn : n ≤ most) (hm : most ≤ 256) (hr : rises (rk xs n)) : Pure Tryz.prog glM 36 [OT most n xs] (.ow 0 1 (2 + 4 * most)) [(0, .fl [.u64] (wordsO bf most n xs))] := by
  refine pure_wf fun hw => ?_
  obtain ⟨⟨-, ⟨w1, w2⟩, -⟩, -⟩ := hw
  simp only [List.length_cons, List.length_nil, Nat.zero_add, Nat.mul_one] at w1
  have e1 : IntKind.i64.wrap (4 * (most : Int)) = ((4 * most : Nat) : Int) := by rw [wrap64 (by omega) (by omega)]; omega
  have e2 : IntKind.i64.wrap (2 + ((4 * most : Nat) : Int)) = ((2 + 4 * most : Nat) : Int) := by rw [wrap64 (by omega) (by omega)]; omega
  have e3 : IntKind.u64.wrap (n : Int) = n := wrapU (by omega) (by omega)
  refine pure_of (C := ctxOrB Tryz.prog bf) (ctxOrB_good hbf) Tryz.func36 (c := bodyOf Tryz.f36) (by rfl) (Nat.le_of_ble_eq_true (by rfl)) 4 0 [0, 2, 3, 4, 5, 7, 8, 38, 39, 40, 41] ?_
  conv => whnf
  rw [e1, e2]
  refine And.intro (by omega) ?_
  conv => whnf
  refine And.intro (show n ≤ 1000 by omega) ?_
  conv => whnf
  refine And.intro ⟨by omega, hr⟩ ?_
  conv => whnf
  repeat (refine And.intro (by omega) ?_; conv => whnf)
  have e0 : ((List.replicate (mulN ((2 + 4 * most : Nat) : Int).toNat (0 + 1)) (0 : Int)).set (0 + addN 0 (Int.toNat 0) * (0 + 1) + 0) (IntKind.u64.wrap (n : Int))).set (0 + addN 0 (Int.toNat 1) * (0 + 1) + 0) (IntKind.u64.wrap (rootB bf (rk xs n))) = wst bf most n xs 0 := by
    rw [e3, mulN_eq, Int.toNat_natCast]; simp [wst, addN_eq]
  rw [e0]
  refine TW.loopD (ctxOrB_good hbf) 0 (base := 0) (lv := [0, 2, 3, 4, 5, 7, 8, 38, 39, 40, 41]) [40] [60] [(60, 60)] (fun j : Nat => [.v (.int .i64 j)]) (fun j => [.fl [.u64] (wst bf most n xs j)]) (fun j => j ≤ n) (fun j => n - j) ?_
  conv => whnf
  refine ⟨⟨0, ⟨rfl, rfl, rfl⟩, Nat.zero_le _⟩, fun j hj => ?_⟩
  replace hj : j ≤ n := hj
  have hl := wst_len bf most n xs j (by omega)
  conv => whnf
  refine ifB_dec (fun h => ?_) (fun h => ?_)
  · have e4 : IntKind.i64.wrap (4 * (j : Int)) = ((4 * j : Nat) : Int) := by rw [wrap64 (by omega) (by omega)]; omega
    have e5 : IntKind.i64.wrap (2 + ((4 * j : Nat) : Int)) = ((2 + 4 * j : Nat) : Int) := by rw [wrap64 (by omega) (by omega)]; omega
    conv => whnf
    repeat (refine And.intro (by omega) ?_; conv => whnf)
    rw [e4, e5]
    repeat (refine And.intro (by omega) ?_; conv => whnf)
    have e6 : spl (wst bf most n xs j) (mulN (addN 0 (loN (some ((2 + 4 * j : Nat) : Int)))) (0 + 1)) (List.take (mulN (minN 4 (cutL ((2 + 4 * most : Nat) : Int).toNat (some ((2 + 4 * j : Nat) : Int)) none)) (0 + 1)) [xs.getD (0 + (j : Int).toNat * (1 + 1) + 0) 0, xs.getD (0 + (j : Int).toNat * (1 + 1) + (0 + 1)) 0, IntKind.u64.wrap ((linksB bf (rk xs n)).getD (0 + addN 0 (j : Int).toNat * (1 + 1)) 0), IntKind.u64.wrap ((linksB bf (rk xs n)).getD (0 + 1 + addN 0 (j : Int).toNat * (1 + 1)) 0)]) = wst bf most n xs (j + 1) := by
      have h1 : mulN (addN 0 (loN (some ((2 + 4 * j : Nat) : Int)))) (0 + 1) = 2 + 4 * j := by simp only [mulN_eq, addN_eq, loN]; omega
      have h2 : minN 4 (cutL ((2 + 4 * most : Nat) : Int).toNat (some ((2 + 4 * j : Nat) : Int)) none) = 4 := by
        unfold minN; rw [if_pos]; simp only [cutL]; omega
      rw [h1, h2, show 0 + (j : Int).toNat * (1 + 1) + 0 = j * 2 by omega, show 0 + (j : Int).toNat * (1 + 1) + (0 + 1) = j * 2 + 1 by omega, show 0 + addN 0 (j : Int).toNat * (1 + 1) = j * 2 by simp only [addN_eq]; omega, show 0 + 1 + addN 0 (j : Int).toNat * (1 + 1) = j * 2 + 1 by simp only [addN_eq]; omega]
      rfl
    rw [e6, wsucc (n := n) (by omega) w2]
    exact ⟨j + 1, [(60, 60)], ⟨rfl, rfl, rfl⟩, (by omega : j + 1 ≤ n), by (try dsimp only); omega⟩
  · obtain rfl : j = n := by omega
    conv => whnf
    repeat' (first | exact trivial | exact rfl | (refine And.intro ?_ ?_) | ((conv => whnf); done) | ((conv => whnf); (first | rfl | (refine congrArg (fun b => T.v (Value.bool b)) ?_; first | rfl | exact (decide_eq_true (by omega)).symm | exact (decide_eq_false (by omega)).symm | exact decide_eq_decide.2 (by omega)) | (refine congrArg (fun b => T.v (Value.int _ b)) ?_; first | rfl | omega) | omega)) | (first | rfl | (refine congrArg (fun b => T.v (Value.bool b)) ?_; first | rfl | exact (decide_eq_true (by omega)).symm | exact (decide_eq_false (by omega)).symm | exact decide_eq_decide.2 (by omega)) | (refine congrArg (fun b => T.v (Value.int _ b)) ?_; first | rfl | omega) | omega))
def eWordsO (bf : Int → Int → Bool) : Entry := ⟨36, 5, fun l => match l.map fixO with
  | [.sp [.v (.int .i64 most), .fl [.u64, .u64] n xs] 0] => some (some (n ≤ most.toNat ∧ 0 ≤ most ∧ most ≤ 256 ∧ rises (rk xs n)), .ow 0 1 (2 + 4 * most.toNat), [(0, .fl [.u64] (wordsO bf most.toNat n xs))])
  | _ => none⟩
theorem eWordsO_ok {bf : Int → Int → Bool} (hbf : (eBf bf).ok Tryz.prog glM) : (eWordsO bf).ok Tryz.prog glM := ⟨Am.enters_of Tryz.func36 (by kernel_rfl) (by kernel_rfl), by
  intro args c t bs h hc
  simp only [eWordsO] at h
  split at h <;> cases h
  rename_i heq
  obtain ⟨h1, h2, h3, h4⟩ := hc _ rfl
  refine pure_fixO ?_
  rw [heq]
  obtain ⟨m, rfl⟩ := Int.eq_ofNat_of_zero_le h2
  exact wordsO_pure bf hbf m _ _ h1 (by omega) h4⟩
end Go.Proofs.YtlcpcgdecodjfaaGreatDoor
namespace Go.Proofs.YtlcpcgdecodjfaaGreatDoor
open Go.RowKit Go.Proofs.YtlcpcgdecodjfaaGreatDoor.Am
set_option linter.unusedVariables false
set_option linter.unusedSimpArgs false

/-- Where a rank is, or would be; is it there? -/
def atO (xs : List Int) (n : Nat) (r : Int) : Nat := (rk xs n).findIdx fun x => decide (r ≤ x)
def isO (xs : List Int) (n : Nat) (r : Int) : Bool := decide (atO xs n r < n ∧ xs.getD (atO xs n r * 2) 0 = r)
theorem atO_le (xs : List Int) (n : Nat) (r : Int) : atO xs n r ≤ n := by
  have := List.findIdx_le_length (xs := rk xs n) (p := fun x => decide (r ≤ x))
  rw [rk_len] at this; exact this
theorem atO_lt {xs : List Int} {n : Nat} {r : Int} {i : Nat} (h : i < atO xs n r) : xs.getD (i * 2) 0 < r := by
  have h1 := List.not_of_lt_findIdx h
  have hl := atO_le xs n r
  have : (rk xs n)[i]'(by rw [rk_len]; omega) = xs.getD (i * 2) 0 := by
    have := rk_getD xs (n := n) (i := i) (by omega)
    rw [← this, List.getD_eq_getElem?_getD, List.getElem?_eq_getElem (by rw [rk_len]; omega)]; rfl
  rw [this] at h1
  simp at h1
  exact h1
theorem atO_is {xs : List Int} {n at_ : Nat} {r : Int} (hn : at_ ≤ n) (h1 : ∀ i, i < at_ → xs.getD (i * 2) 0 < r) (h2 : at_ < n → r ≤ xs.getD (at_ * 2) 0) : atO xs n r = at_ := by
  rcases Nat.lt_trichotomy (atO xs n r) at_ with h | h | h
  · have hl : atO xs n r < (rk xs n).length := by rw [rk_len]; omega
    have h3 := List.findIdx_getElem (xs := rk xs n) (p := fun x => decide (r ≤ x)) (w := hl)
    have h4 := h1 _ h
    have : (rk xs n)[atO xs n r]'hl = xs.getD (atO xs n r * 2) 0 := by
      have := rk_getD xs (n := n) (i := atO xs n r) (by omega)
      rw [← this, List.getD_eq_getElem?_getD, List.getElem?_eq_getElem hl]; rfl
    have h5 : r ≤ (rk xs n)[atO xs n r]'hl := of_decide_eq_true h3
    omega
  · exact h
  · have := atO_lt h
    have hl := atO_le xs n r
    have := h2 (by omega)
    omega
theorem rises_lt {xs : List Int} (h : rises xs) {i j : Nat} (hij : i < j) (hj : j < xs.length) : xs.getD i 0 < xs.getD j 0 := by
  induction j with
  | zero => omega
  | succ j ih =>
    have h1 := h (j + 1) (by omega) hj
    rw [Nat.add_sub_cancel] at h1
    by_cases e : i = j
    · subst e; exact h1
    · have := ih (by omega) (by omega); omega
theorem rkr {xs : List Int} {n : Nat} (h : rises (rk xs n)) {i j : Nat} (hij : i < j) (hj : j < n) : xs.getD (i * 2) 0 < xs.getD (j * 2) 0 := by
  have := rises_lt h hij (by rw [rk_len]; exact hj)
  rwa [rk_getD xs (by omega), rk_getD xs hj] at this
set_option maxRecDepth 100000 in
theorem find_pure (most : Int) (n : Nat) (xs : List Int) (hn : n ≤ 1000) (hr : rises (rk xs n)) (r : Int) : Pure Tryz.prog glM 70 [OT most n xs, .v (.int .u64 r)] (.tup [.v (.int .i64 (atO xs n r)), .v (.bool (isO xs n r))]) := by
  refine pure_wf fun hw => ?_
  obtain ⟨⟨-, ⟨w1, w2⟩, -⟩, -⟩ := hw
  simp only [List.length_cons, List.length_nil, Nat.zero_add, Nat.mul_one] at w1
  refine pure_of (C := ctxOrB0 Tryz.prog) ctxOrB0_good Tryz.func70 (c := bodyOf Tryz.f70) (by rfl) (Nat.le_of_ble_eq_true (by rfl)) 4 0 [0, 1, 4, 5, 6, 7, 8, 16, 30, 34] ?_
  conv => whnf
  repeat' (first | (refine ifB_t (by assumption) ?_; conv => whnf) | (refine ifB_f (by assumption) ?_; conv => whnf) | (refine ifB_dec (fun h => ?_) (fun h => ?_) <;> (first | (exfalso; omega) | (conv => whnf))) | (refine ifB_eq (fun h => ?_) (fun h => ?_) <;> (first | (exfalso; omega) | (conv => whnf))) | (refine ifB_ne (fun h => ?_) (fun h => ?_) <;> (first | (exfalso; omega) | (conv => whnf))) | (refine ifB_not ?_; conv => whnf) | (refine ifB_and ?_; conv => whnf) | (refine ifB_or ?_; conv => whnf) | (refine And.intro ?_ ?_; (first | omega | assumption | (exact allU_getD (by assumption) _) | (simp only [cutL]; omega) | (refine And.intro ?_ ?_ <;> first | assumption | exact allU_getD (by assumption) _) | (simp only [cutL, IntKind.wrap_u64, IntKind.wrap_i64] at *; omega) | decide); conv => whnf) | (refine ifB_mk (fun h => ?_) (fun h => ?_) <;> (conv => whnf)))
  refine TW.loopD ctxOrB0_good 0 (base := 0) (lv := [0, 1, 4, 5, 6, 7, 8, 16, 30, 34]) [4, 6, 7] [] [] (fun x : Nat × Nat => [.v (.int .i64 x.1), .v (.int .i64 x.1), .v (.int .i64 x.2)]) (fun x => []) (fun x => (x.1 ≤ x.2 ∧ x.2 ≤ n) ∧ (∀ i, i < x.1 → xs.getD (i * 2) 0 < r) ∧ (∀ i, x.2 ≤ i → i < n → r < xs.getD (i * 2) 0)) (fun x => x.2 - x.1) ?_
  conv => whnf
  refine ⟨⟨(0, n), ⟨rfl, rfl, rfl⟩, ⟨Nat.zero_le _, Nat.le_refl _⟩, fun i hi => by omega, fun i h1 h2 => by omega⟩, fun ⟨a, b⟩ ⟨⟨ha, hb⟩, hlo, hhi⟩ => ?_⟩
  replace ha : a ≤ b := ha
  replace hb : b ≤ n := hb
  replace hlo : ∀ i, i < a → xs.getD (i * 2) 0 < r := hlo
  replace hhi : ∀ i, b ≤ i → i < n → r < xs.getD (i * 2) 0 := hhi
  conv => whnf
  refine ifB_dec (fun h => ?_) (fun h => ?_)
  · replace h : (a : Int) < b := h
    have em : (IntKind.i64.wrap (((a, b) : Nat × Nat).1 + ((a, b) : Nat × Nat).2 : Int)).tdiv 2 = (((a + b) / 2 : Nat) : Int) := by
      show (IntKind.i64.wrap ((a : Int) + b)).tdiv 2 = _
      rw [wrap64 (by omega) (by omega), Int.tdiv_eq_ediv_of_nonneg (by omega)]; omega
    obtain ⟨m, hm⟩ : ∃ m, (a + b) / 2 = m := ⟨_, rfl⟩
    rw [hm] at em
    have hm1 : a ≤ m ∧ m < b := by omega
    have ex : xs.getD (0 + (m : Int).toNat * (1 + 1)) 0 = xs.getD (m * 2) 0 := by simp
    have ew : IntKind.i64.wrap (m : Int) = m := wrap64 (by omega) (by omega)
    have ew1 : IntKind.i64.wrap ((m : Int) + 1) = ((m + 1 : Nat) : Int) := wrap64 (by omega) (by omega)
    conv => whnf
    refine And.intro (by omega) ?_
    conv => whnf
    rw [em, ew]
    refine And.intro (by omega) ?_
    conv => whnf
    rw [ex]
    refine ifB_eq (fun h1 => ?_) (fun h1 => ?_)
    · conv => whnf
      have e1 : atO xs n r = m := atO_is (by omega) (fun i hi => by have := rkr hr hi (by omega); omega) (fun _ => Int.le_of_eq h1.symm)
      have e2 : isO xs n r = true := by unfold isO; rw [e1]; exact decide_eq_true ⟨by omega, h1⟩
      rw [e1, e2]
      repeat' (first | exact trivial | exact rfl | (refine And.intro ?_ ?_) | ((conv => whnf); done) | ((conv => whnf); (first | rfl | (refine congrArg (fun b => T.v (Value.bool b)) ?_; first | rfl | exact (decide_eq_true (by omega)).symm | exact (decide_eq_false (by omega)).symm | exact decide_eq_decide.2 (by omega)) | (refine congrArg (fun b => T.v (Value.int _ b)) ?_; first | rfl | omega) | omega)) | (first | rfl | (refine congrArg (fun b => T.v (Value.bool b)) ?_; first | rfl | exact (decide_eq_true (by omega)).symm | exact (decide_eq_false (by omega)).symm | exact decide_eq_decide.2 (by omega)) | (refine congrArg (fun b => T.v (Value.int _ b)) ?_; first | rfl | omega) | omega))
    · conv => whnf
      refine ifB_dec (fun h2 => ?_) (fun h2 => ?_)
      · conv => whnf
        rw [ew1]
        exact ⟨(m + 1, b), [], ⟨rfl, rfl, rfl⟩, ⟨⟨(by omega : m + 1 ≤ b), hb⟩, (fun i hi => by
          replace hi : i < m + 1 := hi
          by_cases e : i = m
          · subst e; exact h2
          · have := rkr hr (i := i) (j := m) (by omega) (by omega); omega), hhi⟩, by dsimp only; omega⟩
      · conv => whnf
        exact ⟨(a, m), [], ⟨rfl, rfl, rfl⟩, ⟨⟨(by omega : a ≤ m), (by omega : m ≤ n)⟩, hlo, (fun i h3 h4 => by
          replace h3 : m ≤ i := h3
          by_cases e : i = m
          · subst e; omega
          · have := rkr hr (i := m) (j := i) (by omega) h4; omega)⟩, by dsimp only; omega⟩
  · replace h : ¬ (a : Int) < b := h
    obtain rfl : a = b := by omega
    have e1 : atO xs n r = a := atO_is hb hlo (fun h => Int.le_of_lt (hhi a (Nat.le_refl _) h))
    have e2 : isO xs n r = false := by
      unfold isO; rw [e1]
      exact decide_eq_false (fun ⟨h1, h2⟩ => by have := hhi a (Nat.le_refl _) h1; omega)
    rw [e1, e2]
    conv => whnf
    repeat' (first | exact trivial | exact rfl | (refine And.intro ?_ ?_) | ((conv => whnf); done) | ((conv => whnf); (first | rfl | (refine congrArg (fun b => T.v (Value.bool b)) ?_; first | rfl | exact (decide_eq_true (by omega)).symm | exact (decide_eq_false (by omega)).symm | exact decide_eq_decide.2 (by omega)) | (refine congrArg (fun b => T.v (Value.int _ b)) ?_; first | rfl | omega) | omega)) | (first | rfl | (refine congrArg (fun b => T.v (Value.bool b)) ?_; first | rfl | exact (decide_eq_true (by omega)).symm | exact (decide_eq_false (by omega)).symm | exact decide_eq_decide.2 (by omega)) | (refine congrArg (fun b => T.v (Value.int _ b)) ?_; first | rfl | omega) | omega))


def eFind : Entry := ⟨70, 4, fun l => match l.map fixO with | [.sp [.v (.int .i64 most), .fl [.u64, .u64] n xs] 0, .v (.int .u64 r)] => some (some (n ≤ 1000 ∧ rises (rk xs n)), .tup [.v (.int .i64 (atO xs n r)), .v (.bool (isO xs n r))], []) | _ => none⟩
theorem eFind_ok : eFind.ok Tryz.prog glM := ⟨Am.enters_of Tryz.func70 (by kernel_rfl) (by kernel_rfl), by
  intro args c t bs h hc
  simp only [eFind] at h
  split at h <;> cases h
  rename_i heq
  replace hc := hc _ rfl
  refine pure_fixO ?_
  rw [heq]
  exact find_pure _ _ _ hc.1 hc.2 _⟩

end Go.Proofs.YtlcpcgdecodjfaaGreatDoor
namespace Go.Proofs.YtlcpcgdecodjfaaGreatDoor
open Go.RowKit Go.Proofs.YtlcpcgdecodjfaaGreatDoor.Am
set_option linter.unusedVariables false
set_option linter.unusedSimpArgs false

/-- The entries in an order's words. -/
def unp (w : List Int) : Nat → List Int
  | 0 => []
  | i + 1 => unp w i ++ [w.getD (2 + 4 * i) 0, w.getD (2 + 4 * i + 1) 0]
theorem unp_len (w : List Int) (i : Nat) : (unp w i).length = i * 2 := by
  induction i with
  | zero => rfl
  | succ i ih => simp only [unp, List.length_append, List.length_cons, List.length_nil, ih]; omega
theorem unp_getD (w : List Int) {i n : Nat} (h : i < n) : (unp w n).getD (i * 2) 0 = w.getD (2 + 4 * i) 0 := by
  induction n with
  | zero => omega
  | succ n ih =>
    simp only [unp]
    by_cases e : i < n
    · rw [← ih e, List.getD_eq_getElem?_getD, List.getElem?_append_left (by rw [unp_len]; omega), ← List.getD_eq_getElem?_getD]
    · obtain rfl : i = n := by omega
      rw [List.getD_eq_getElem?_getD, List.getElem?_append_right (by rw [unp_len]; exact Nat.le_refl _), unp_len, Nat.sub_self]; rfl
/-- Are so many entries' ranks those of floats, and do they rise? wb: is a rank one? -/
def okE (wb : Int → Bool) (w : List Int) : Nat → Bool
  | 0 => true
  | i + 1 => okE wb w i && (wb (w.getD (2 + 4 * i) 0) && (decide (i = 0) || decide (w.getD (2 + 4 * (i - 1)) 0 < w.getD (2 + 4 * i) 0)))
theorem okE_rises {wb : Int → Bool} {w : List Int} : ∀ {n : Nat}, okE wb w n = true → rises (rk (unp w n) n)
  | 0, _ => fun i h1 h2 => by simp [rk] at h2
  | n + 1, h => by
    simp only [okE, Bool.and_eq_true, Bool.or_eq_true, decide_eq_true_eq] at h
    obtain ⟨h1, h2, h3⟩ := h
    have ih := okE_rises h1
    intro i hi hl
    rw [rk_len] at hl
    rw [rk_getD _ (by omega), rk_getD _ hl, unp_getD _ (by omega), unp_getD _ hl]
    by_cases e : i = n
    · subst e; omega
    · have := ih i hi (by rw [rk_len]; omega)
      rw [rk_getD _ (by omega), rk_getD _ (by omega), unp_getD _ (by omega), unp_getD _ (by omega)] at this
      exact this
theorem okE_mono {wb : Int → Bool} {w : List Int} {i n : Nat} (hi : i ≤ n) (h : okE wb w n = true) : okE wb w i = true := by
  induction n with
  | zero => obtain rfl : i = 0 := by omega
            exact h
  | succ n ih =>
    by_cases e : i = n + 1
    · subst e; exact h
    · simp only [okE, Bool.and_eq_true] at h
      exact ih (by omega) h.1
theorem okE_no {wb : Int → Bool} {w : List Int} {i n : Nat} (hi : i < n) (h : ¬ (wb (w.getD (2 + 4 * i) 0) = true ∧ (i = 0 ∨ w.getD (2 + 4 * (i - 1)) 0 < w.getD (2 + 4 * i) 0))) : ¬ okE wb w n = true := by
  intro hn
  have := okE_mono (i := i + 1) hi hn
  simp only [okE, Bool.and_eq_true, Bool.or_eq_true, decide_eq_true_eq] at this
  exact h this.2
def eWd (wf : Int → Int) (wb : Int → Bool) : Entry := ⟨73, 3, fun l => match l with
  | [.v (.int .u64 a)] => some (some (U64 a), .tup [.v (.int .u64 (wf a)), .v (.bool (wb a))], [])
  | _ => none⟩
noncomputable def iMade : Inl := ⟨34, Tryz.f34, bodyOf Tryz.f34, [0, 1, 2, 3, 11]⟩
theorem iMade_ok : iMade.ok Tryz.prog := Inl.mk_ok Tryz.func34 (by rfl) (by kernel_rfl) (by kernel_rfl)
theorem inlOrD : InlOk Tryz.prog [iMade] := ⟨iMade_ok, trivial⟩
noncomputable def ctxOrD (P : Program) (h : InlOk P [iMade]) (bf : Int → Int → Bool) (wf : Int → Int) (wb : Int → Bool) : Ctx := ctx P glM [eFits, eHome, eWd wf wb, eWordsO bf, eEqual] [] (noEq P) [iMade] h.mem
theorem ctxOrD_good {bf : Int → Int → Bool} {wf : Int → Int} {wb : Int → Bool} (hbf : (eBf bf).ok Tryz.prog glM) (hwd : (eWd wf wb).ok Tryz.prog glM) : (ctxOrD Tryz.prog inlOrD bf wf wb).good := ctx_good (by kernel_rfl) (AllOk.mem ⟨entry_lift eFits_ok, entry_lift eHome_ok, hwd, eWordsO_ok hbf, entry_lift eEqual_ok, trivial⟩) glM_two
attribute [local irreducible] fitsB homeI wordsO rk
abbrev openArgs (k p : Int) (m : Int) (q : Nat) (w : List Int) : List T := [.agg [.v (.int .i64 k), .v (.int .i64 p), .v (.int .i64 m)], .fl [.u64] q w]
set_option maxRecDepth 100000 in
theorem openF_pure (bf : Int → Int → Bool) (wf : Int → Int) (wb : Int → Bool) (hbf : (eBf bf).ok Tryz.prog glM) (hwd : (eWd wf wb).ok Tryz.prog glM) (k p m : Int) (q : Nat) (w : List Int) (hf : ¬ (fitsB k p m = true ∧ k = 4)) : Pure Tryz.prog glM 38 (openArgs k p m q w) (.tup [.v (.pointer none), .v (.int .i64 5)]) := by
  refine pure_of (C := ctxOrD Tryz.prog inlOrD bf wf wb) (ctxOrD_good hbf hwd) Tryz.func38 (c := bodyOf Tryz.f38) (by rfl) (Nat.le_of_ble_eq_true (by rfl)) 4 3 [0, 1, 2, 4, 5, 6, 7, 8, 9, 11, 17, 21, 39, 40, 41, 82, 98] ?_
  conv => whnf
  by_cases hf1 : fitsB k p m = true
  · have hk : ¬ k = 4 := fun h => hf ⟨hf1, h⟩
    repeat' (first | (refine ifB_t (by assumption) ?_; conv => whnf) | (refine ifB_f (by assumption) ?_; conv => whnf) | (refine ifB_dec (fun h => ?_) (fun h => ?_) <;> (first | (exfalso; omega) | (conv => whnf))) | (refine ifB_eq (fun h => ?_) (fun h => ?_) <;> (first | (exfalso; omega) | (conv => whnf))) | (refine ifB_ne (fun h => ?_) (fun h => ?_) <;> (first | (exfalso; omega) | (conv => whnf))) | (refine ifB_not ?_; conv => whnf) | (refine ifB_and ?_; conv => whnf) | (refine ifB_or ?_; conv => whnf) | (refine And.intro ?_ ?_; (first | omega | assumption | (exact allU_getD (by assumption) _) | (simp only [cutL]; omega) | (refine And.intro ?_ ?_ <;> first | assumption | exact allU_getD (by assumption) _) | (simp only [cutL, IntKind.wrap_u64, IntKind.wrap_i64] at *; omega) | decide); conv => whnf) | (refine ifB_mk (fun h => ?_) (fun h => ?_) <;> (conv => whnf)))
    all_goals repeat' (first | exact trivial | exact rfl | (refine And.intro ?_ ?_) | ((conv => whnf); done) | ((conv => whnf); (first | rfl | (refine congrArg (fun b => T.v (Value.bool b)) ?_; first | rfl | exact (decide_eq_true (by omega)).symm | exact (decide_eq_false (by omega)).symm | exact decide_eq_decide.2 (by omega)) | (refine congrArg (fun b => T.v (Value.int _ b)) ?_; first | rfl | omega) | omega)) | (first | rfl | (refine congrArg (fun b => T.v (Value.bool b)) ?_; first | rfl | exact (decide_eq_true (by omega)).symm | exact (decide_eq_false (by omega)).symm | exact decide_eq_decide.2 (by omega)) | (refine congrArg (fun b => T.v (Value.int _ b)) ?_; first | rfl | omega) | omega))
  · have hf2 : fitsB k p m = false := by cases h : fitsB k p m; rfl; exact absurd h hf1
    repeat' (first | (refine ifB_t (by assumption) ?_; conv => whnf) | (refine ifB_f (by assumption) ?_; conv => whnf) | (refine ifB_dec (fun h => ?_) (fun h => ?_) <;> (first | (exfalso; omega) | (conv => whnf))) | (refine ifB_eq (fun h => ?_) (fun h => ?_) <;> (first | (exfalso; omega) | (conv => whnf))) | (refine ifB_ne (fun h => ?_) (fun h => ?_) <;> (first | (exfalso; omega) | (conv => whnf))) | (refine ifB_not ?_; conv => whnf) | (refine ifB_and ?_; conv => whnf) | (refine ifB_or ?_; conv => whnf) | (refine And.intro ?_ ?_; (first | omega | assumption | (exact allU_getD (by assumption) _) | (simp only [cutL]; omega) | (refine And.intro ?_ ?_ <;> first | assumption | exact allU_getD (by assumption) _) | (simp only [cutL, IntKind.wrap_u64, IntKind.wrap_i64] at *; omega) | decide); conv => whnf) | (refine ifB_mk (fun h => ?_) (fun h => ?_) <;> (conv => whnf)))
    all_goals repeat' (first | exact trivial | exact rfl | (refine And.intro ?_ ?_) | ((conv => whnf); done) | ((conv => whnf); (first | rfl | (refine congrArg (fun b => T.v (Value.bool b)) ?_; first | rfl | exact (decide_eq_true (by omega)).symm | exact (decide_eq_false (by omega)).symm | exact decide_eq_decide.2 (by omega)) | (refine congrArg (fun b => T.v (Value.int _ b)) ?_; first | rfl | omega) | omega)) | (first | rfl | (refine congrArg (fun b => T.v (Value.bool b)) ?_; first | rfl | exact (decide_eq_true (by omega)).symm | exact (decide_eq_false (by omega)).symm | exact decide_eq_decide.2 (by omega)) | (refine congrArg (fun b => T.v (Value.int _ b)) ?_; first | rfl | omega) | omega))
set_option maxRecDepth 100000 in
theorem openL_pure (bf : Int → Int → Bool) (wf : Int → Int) (wb : Int → Bool) (hbf : (eBf bf).ok Tryz.prog glM) (hwd : (eWd wf wb).ok Tryz.prog glM) (p : Int) (m q : Nat) (w : List Int) (hf : fitsB 4 p m = true) (hl : ¬ (q = 2 + 4 * m ∧ w.getD 0 0 ≤ m)) : Pure Tryz.prog glM 38 (openArgs 4 p m q w) (.tup [.v (.pointer none), .v (.int .i64 2)]) := by
  have hh : homeI 4 (m : Int) = ((2 + 4 * m : Nat) : Int) := by unfold homeI; show 2 + 4 * (m : Int) = _; omega
  have hm : IntKind.u64.wrap (m : Int) = m := by have := (show 1 ≤ (4 : Int) ∧ (4 : Int) ≤ 5 ∧ 1 ≤ p ∧ p ≤ 16 ∧ 1 ≤ (m : Int) ∧ (m : Int) ≤ 256 from by unfold fitsB at hf; exact of_decide_eq_true hf); exact wrapU (by omega) (by omega)
  refine pure_of (C := ctxOrD Tryz.prog inlOrD bf wf wb) (ctxOrD_good hbf hwd) Tryz.func38 (c := bodyOf Tryz.f38) (by rfl) (Nat.le_of_ble_eq_true (by rfl)) 4 3 [0, 1, 2, 4, 5, 6, 7, 8, 9, 11, 17, 21, 39, 40, 41, 82, 98] ?_
  conv => whnf
  have hw0 : w.getD (0 + Int.toNat 0 * (0 + 1)) 0 = w.getD 0 0 := rfl
  repeat' (first | (refine ifB_t (by assumption) ?_; conv => whnf) | (refine ifB_f (by assumption) ?_; conv => whnf) | (refine ifB_dec (fun h => ?_) (fun h => ?_) <;> (first | (exfalso; omega) | (conv => whnf))) | (refine ifB_eq (fun h => ?_) (fun h => ?_) <;> (first | (exfalso; omega) | (conv => whnf))) | (refine ifB_ne (fun h => ?_) (fun h => ?_) <;> (first | (exfalso; omega) | (conv => whnf))) | (refine ifB_not ?_; conv => whnf) | (refine ifB_and ?_; conv => whnf) | (refine ifB_or ?_; conv => whnf) | (refine And.intro ?_ ?_; (first | omega | assumption | (exact allU_getD (by assumption) _) | (simp only [cutL]; omega) | (refine And.intro ?_ ?_ <;> first | assumption | exact allU_getD (by assumption) _) | (simp only [cutL, IntKind.wrap_u64, IntKind.wrap_i64] at *; omega) | decide); conv => whnf) | (refine ifB_mk (fun h => ?_) (fun h => ?_) <;> (conv => whnf)))
  · repeat' (first | exact trivial | exact rfl | (refine And.intro ?_ ?_) | ((conv => whnf); done) | ((conv => whnf); (first | rfl | (refine congrArg (fun b => T.v (Value.bool b)) ?_; first | rfl | exact (decide_eq_true (by omega)).symm | exact (decide_eq_false (by omega)).symm | exact decide_eq_decide.2 (by omega)) | (refine congrArg (fun b => T.v (Value.int _ b)) ?_; first | rfl | omega) | omega)) | (first | rfl | (refine congrArg (fun b => T.v (Value.bool b)) ?_; first | rfl | exact (decide_eq_true (by omega)).symm | exact (decide_eq_false (by omega)).symm | exact decide_eq_decide.2 (by omega)) | (refine congrArg (fun b => T.v (Value.int _ b)) ?_; first | rfl | omega) | omega))
  · repeat' (first | exact trivial | exact rfl | (refine And.intro ?_ ?_) | ((conv => whnf); done) | ((conv => whnf); (first | rfl | (refine congrArg (fun b => T.v (Value.bool b)) ?_; first | rfl | exact (decide_eq_true (by omega)).symm | exact (decide_eq_false (by omega)).symm | exact decide_eq_decide.2 (by omega)) | (refine congrArg (fun b => T.v (Value.int _ b)) ?_; first | rfl | omega) | omega)) | (first | rfl | (refine congrArg (fun b => T.v (Value.bool b)) ?_; first | rfl | exact (decide_eq_true (by omega)).symm | exact (decide_eq_false (by omega)).symm | exact decide_eq_decide.2 (by omega)) | (refine congrArg (fun b => T.v (Value.int _ b)) ?_; first | rfl | omega) | omega))
  · exfalso
    rw [hw0, hm] at h
    exact hl ⟨by omega, by omega⟩
set_option maxRecDepth 100000 in
theorem openV_pure (bf : Int → Int → Bool) (wf : Int → Int) (wb : Int → Bool) (hbf : (eBf bf).ok Tryz.prog glM) (hwd : (eWd wf wb).ok Tryz.prog glM) (p : Int) (m n : Nat) (w : List Int) (hx : AllU w) (hf : fitsB 4 p m = true) (hn : w.getD 0 0 = (n : Int)) (hnm : n ≤ m) (t : T) (bs : Hp)
    (hyes : okE wb w n = true ∧ wordsO bf m n (unp w n) = w → t = .tup [.op 0 0 2 0 2, .v (.int .i64 0)] ∧ bs = [(0, .cs [.v (.int .i64 m), .ow 1 2 n]), (1, .fl [.u64, .u64] (unp w n))])
    (hno : ¬ (okE wb w n = true ∧ wordsO bf m n (unp w n) = w) → t = .tup [.v (.pointer none), .v (.int .i64 2)] ∧ bs = []) : Pure Tryz.prog glM 38 (openArgs 4 p m (2 + 4 * m) w) t bs := by
  refine pure_wf fun hw => ?_
  obtain ⟨-, ⟨w1, w2⟩, -⟩ := hw
  simp only [List.length_cons, List.length_nil, Nat.zero_add, Nat.mul_one] at w1
  have hh : homeI 4 (m : Int) = ((2 + 4 * m : Nat) : Int) := by unfold homeI; show 2 + 4 * (m : Int) = _; omega
  have hm1 := (show 1 ≤ (4 : Int) ∧ (4 : Int) ≤ 5 ∧ 1 ≤ p ∧ p ≤ 16 ∧ 1 ≤ (m : Int) ∧ (m : Int) ≤ 256 from by unfold fitsB at hf; exact of_decide_eq_true hf)
  have hm : IntKind.u64.wrap (m : Int) = m := wrapU (by omega) (by omega)
  refine pure_of (C := ctxOrD Tryz.prog inlOrD bf wf wb) (ctxOrD_good hbf hwd) Tryz.func38 (c := bodyOf Tryz.f38) (by rfl) (Nat.le_of_ble_eq_true (by rfl)) 4 3 [0, 1, 2, 4, 5, 6, 7, 8, 9, 11, 17, 21, 39, 40, 41, 82, 98] ?_
  conv => whnf
  have hc : w.getD (0 + Int.toNat 0 * (0 + 1)) 0 ≤ IntKind.u64.wrap (m : Int) := by rw [hm]; show w.getD 0 0 ≤ _; omega
  have e39 : IntKind.i64.wrap (w.getD (0 + Int.toNat 0 * (0 + 1)) 0) = n := by show IntKind.i64.wrap (w.getD 0 0) = n; rw [hn, wrap64 (by omega) (by omega)]
  repeat' (first | (refine ifB_t (by assumption) ?_; conv => whnf) | (refine ifB_f (by assumption) ?_; conv => whnf) | (refine ifB_dec (fun h => ?_) (fun h => ?_) <;> (first | (exfalso; omega) | (conv => whnf))) | (refine ifB_eq (fun h => ?_) (fun h => ?_) <;> (first | (exfalso; omega) | (conv => whnf))) | (refine ifB_ne (fun h => ?_) (fun h => ?_) <;> (first | (exfalso; omega) | (conv => whnf))) | (refine ifB_not ?_; conv => whnf) | (refine ifB_and ?_; conv => whnf) | (refine ifB_or ?_; conv => whnf) | (refine And.intro ?_ ?_; (first | omega | assumption | (exact allU_getD (by assumption) _) | (simp only [cutL]; omega) | (refine And.intro ?_ ?_ <;> first | assumption | exact allU_getD (by assumption) _) | (simp only [cutL, IntKind.wrap_u64, IntKind.wrap_i64] at *; omega) | decide); conv => whnf) | (refine ifB_mk (fun h => ?_) (fun h => ?_) <;> (conv => whnf)))
  · exact absurd hc (Int.not_le.2 h)
  rw [e39]
  refine TW.nilOwnB 233540 1 5000 2 _ (.fl [.u64, .u64] []) rfl rfl rfl (.inr ⟨_, _, rfl⟩) (by decide) ?_
  refine TW.loopD (ctxOrD_good hbf hwd) 3 (base := 0) (lv := [0, 1, 2, 4, 5, 6, 7, 8, 9, 11, 17, 21, 39, 40, 41, 82, 98]) [40] [233540, 5000] [(233540, 233540), (5000, 5000)] (fun i : Nat => [.v (.int .i64 i)]) (fun i => [.cs [.v (.int .i64 m), .ow 5000 2 i], .fl [.u64, .u64] (unp w i)]) (fun i => i ≤ n ∧ okE wb w i = true) (fun i => n - i) ?_
  conv => whnf
  refine ⟨⟨0, ⟨rfl, rfl, rfl⟩, Nat.zero_le _, rfl⟩, fun i ⟨hi, ho⟩ => ?_⟩
  have hul := unp_len w i
  conv => whnf
  refine ifB_dec (fun h => ?_) (fun h => ?_)
  · have e4 : IntKind.i64.wrap (4 * (i : Int)) = ((4 * i : Nat) : Int) := by rw [wrap64 (by omega) (by omega)]; omega
    have e5 : IntKind.i64.wrap (2 + ((4 * i : Nat) : Int)) = ((2 + 4 * i : Nat) : Int) := by rw [wrap64 (by omega) (by omega)]; omega
    have e6 : IntKind.i64.wrap (((2 + 4 * i : Nat) : Int) + 1) = ((2 + 4 * i + 1 : Nat) : Int) := by rw [wrap64 (by omega) (by omega)]; omega
    have e7 : w.getD (0 + ((2 + 4 * i : Nat) : Int).toNat * (0 + 1)) 0 = w.getD (2 + 4 * i) 0 := by rw [Int.toNat_natCast, Nat.zero_add, Nat.zero_add, Nat.mul_one]
    have e8 : w.getD (0 + ((2 + 4 * i + 1 : Nat) : Int).toNat * (0 + 1)) 0 = w.getD (2 + 4 * i + 1) 0 := by rw [Int.toNat_natCast, Nat.zero_add, Nat.zero_add, Nat.mul_one]
    conv => whnf
    rw [e4, e5]
    refine And.intro (by omega) ?_
    conv => whnf
    rw [e4, e5, e6]
    refine And.intro (by omega) ?_
    conv => whnf
    rw [e7, e8]
    refine And.intro (allU_getD hx _) ?_
    conv => whnf
    cases hb : wb (w.getD (2 + 4 * i) 0)
    · conv => whnf
      obtain ⟨ht, hbs⟩ := hno (fun h9 => okE_no (i := i) (n := n) (by omega) (fun h8 => by rw [hb] at h8; exact Bool.false_ne_true h8.1) h9.1)
      subst ht; subst hbs
      conv => whnf
      repeat' (first | exact trivial | exact rfl | (refine And.intro ?_ ?_) | ((conv => whnf); done) | ((conv => whnf); (first | rfl | (refine congrArg (fun b => T.v (Value.bool b)) ?_; first | rfl | exact (decide_eq_true (by omega)).symm | exact (decide_eq_false (by omega)).symm | exact decide_eq_decide.2 (by omega)) | (refine congrArg (fun b => T.v (Value.int _ b)) ?_; first | rfl | omega) | omega)) | (first | rfl | (refine congrArg (fun b => T.v (Value.bool b)) ?_; first | rfl | exact (decide_eq_true (by omega)).symm | exact (decide_eq_false (by omega)).symm | exact decide_eq_decide.2 (by omega)) | (refine congrArg (fun b => T.v (Value.int _ b)) ?_; first | rfl | omega) | omega))
    · conv => whnf
      have e9 : IntKind.i64.wrap ((i : Int) - 1) = (i : Int) - 1 := wrap64 (by omega) (by omega)
      have E10 : unp w (i + 1) = unp w i ++ [w.getD (2 + 4 * i) 0, w.getD (2 + 4 * i + 1) 0] := rfl
      refine ifB_dec (fun h0 => ?_) (fun h0 => ?_)
      · conv => whnf
        rw [e9]
        refine And.intro (by omega) ?_
        conv => whnf
        have eu : (unp w i).getD (0 + addN 0 ((i : Int) - 1).toNat * (1 + 1)) 0 = w.getD (2 + 4 * (i - 1)) 0 := by
          rw [show 0 + addN 0 ((i : Int) - 1).toNat * (1 + 1) = (i - 1) * 2 by simp only [addN_eq]; omega]
          exact unp_getD w (by omega)
        rw [eu]
        by_cases hlt : w.getD (2 + 4 * (i - 1)) 0 < w.getD (2 + 4 * i) 0
        · refine ifB_f (show (bif false then true else bif true then decide (w.getD (2 + 4 * (i - 1)) 0 ≥ w.getD (2 + 4 * i) 0) else false) = false from decide_eq_false (by omega)) ?_
          conv => whnf
          repeat (refine And.intro (by omega) ?_; conv => whnf)
          rw [wsucc (n := n) (by omega) (by omega)]
          exact ⟨i + 1, [(233540, 233540), (360, 5000)], ⟨rfl, rfl, rfl⟩, ⟨by omega, by simp only [okE, ho, hb, decide_eq_true hlt, Bool.or_true, Bool.and_true]⟩, by (try dsimp only); omega⟩
        · refine ifB_t (show (bif false then true else bif true then decide (w.getD (2 + 4 * (i - 1)) 0 ≥ w.getD (2 + 4 * i) 0) else false) = true from decide_eq_true (by omega)) ?_
          conv => whnf
          obtain ⟨ht, hbs⟩ := hno (fun h9 => okE_no (i := i) (n := n) (by omega) (fun h8 => by rcases h8.2 with h8 | h8; omega; exact hlt h8) h9.1)
          subst ht; subst hbs
          conv => whnf
          repeat' (first | exact trivial | exact rfl | (refine And.intro ?_ ?_) | ((conv => whnf); done) | ((conv => whnf); (first | rfl | (refine congrArg (fun b => T.v (Value.bool b)) ?_; first | rfl | exact (decide_eq_true (by omega)).symm | exact (decide_eq_false (by omega)).symm | exact decide_eq_decide.2 (by omega)) | (refine congrArg (fun b => T.v (Value.int _ b)) ?_; first | rfl | omega) | omega)) | (first | rfl | (refine congrArg (fun b => T.v (Value.bool b)) ?_; first | rfl | exact (decide_eq_true (by omega)).symm | exact (decide_eq_false (by omega)).symm | exact decide_eq_decide.2 (by omega)) | (refine congrArg (fun b => T.v (Value.int _ b)) ?_; first | rfl | omega) | omega))
      · conv => whnf
        repeat (refine And.intro (by omega) ?_; conv => whnf)
        rw [wsucc (n := n) (by omega) (by omega)]
        exact ⟨i + 1, [(233540, 233540), (360, 5000)], ⟨rfl, rfl, rfl⟩, ⟨by omega, by simp only [okE, ho, hb, decide_eq_true (show i = 0 by omega), Bool.true_or, Bool.and_true]⟩, by (try dsimp only); omega⟩
  · obtain rfl : i = n := by omega
    conv => whnf
    refine And.intro ⟨by omega, by omega, by omega, okE_rises ho⟩ ?_
    conv => whnf
    rw [show ((m : Int)).toNat = m from Int.toNat_natCast m]
    by_cases hq : wordsO bf m i (unp w i) = w
    · refine ifB_f (show (!decide (wordsO bf m i (unp w i) = w)) = false by rw [decide_eq_true hq]; rfl) ?_
      conv => whnf
      obtain ⟨ht, hbs⟩ := hyes ⟨ho, hq⟩
      subst ht; subst hbs
      conv => whnf
      repeat' (first | exact trivial | exact rfl | (refine And.intro ?_ ?_) | ((conv => whnf); done) | ((conv => whnf); (first | rfl | (refine congrArg (fun b => T.v (Value.bool b)) ?_; first | rfl | exact (decide_eq_true (by omega)).symm | exact (decide_eq_false (by omega)).symm | exact decide_eq_decide.2 (by omega)) | (refine congrArg (fun b => T.v (Value.int _ b)) ?_; first | rfl | omega) | omega)) | (first | rfl | (refine congrArg (fun b => T.v (Value.bool b)) ?_; first | rfl | exact (decide_eq_true (by omega)).symm | exact (decide_eq_false (by omega)).symm | exact decide_eq_decide.2 (by omega)) | (refine congrArg (fun b => T.v (Value.int _ b)) ?_; first | rfl | omega) | omega))
    · refine ifB_t (show (!decide (wordsO bf m i (unp w i) = w)) = true by rw [decide_eq_false hq]; rfl) ?_
      conv => whnf
      obtain ⟨ht, hbs⟩ := hno (fun h9 => hq h9.2)
      subst ht; subst hbs
      conv => whnf
      repeat' (first | exact trivial | exact rfl | (refine And.intro ?_ ?_) | ((conv => whnf); done) | ((conv => whnf); (first | rfl | (refine congrArg (fun b => T.v (Value.bool b)) ?_; first | rfl | exact (decide_eq_true (by omega)).symm | exact (decide_eq_false (by omega)).symm | exact decide_eq_decide.2 (by omega)) | (refine congrArg (fun b => T.v (Value.int _ b)) ?_; first | rfl | omega) | omega)) | (first | rfl | (refine congrArg (fun b => T.v (Value.bool b)) ?_; first | rfl | exact (decide_eq_true (by omega)).symm | exact (decide_eq_false (by omega)).symm | exact decide_eq_decide.2 (by omega)) | (refine congrArg (fun b => T.v (Value.int _ b)) ?_; first | rfl | omega) | omega))
/-- Words of an order. -/
def OpenOk (bf : Int → Int → Bool) (wb : Int → Bool) (k p m : Int) (w : List Int) : Prop :=
  (fitsB k p m = true ∧ k = 4) ∧ ((w.length : Int) = 2 + 4 * m ∧ 0 ≤ w.getD 0 0 ∧ w.getD 0 0 ≤ m) ∧ okE wb w (w.getD 0 0).toNat = true ∧ wordsO bf m.toNat (w.getD 0 0).toNat (unp w (w.getD 0 0).toNat) = w
/-- The error of words that are none. -/
def openE (k p m : Int) : Int := if fitsB k p m = true ∧ k = 4 then 2 else 5
theorem fits4 {p m : Int} (h : fitsB 4 p m = true) : 1 ≤ m ∧ m ≤ 256 := by
  have := (show 1 ≤ (4 : Int) ∧ (4 : Int) ≤ 5 ∧ 1 ≤ p ∧ p ≤ 16 ∧ 1 ≤ m ∧ m ≤ 256 from by unfold fitsB at h; exact of_decide_eq_true h)
  omega
def eOpenY (bf : Int → Int → Bool) (wb : Int → Bool) : Entry := ⟨38, 5, fun l => match l with
  | [.agg [.v (.int .i64 k), .v (.int .i64 p), .v (.int .i64 m)], .fl [.u64] q w] => some (some (AllU w ∧ OpenOk bf wb k p m w), .tup [.op 0 0 2 0 2, .v (.int .i64 0)], [(0, .cs [.v (.int .i64 m), .ow 1 2 (w.getD 0 0).toNat]), (1, .fl [.u64, .u64] (unp w (w.getD 0 0).toNat))])
  | _ => none⟩
def eOpenN (bf : Int → Int → Bool) (wb : Int → Bool) : Entry := ⟨38, 5, fun l => match l with
  | [.agg [.v (.int .i64 k), .v (.int .i64 p), .v (.int .i64 m)], .fl [.u64] q w] => some (some (AllU w ∧ ¬ OpenOk bf wb k p m w), .tup [.v (.pointer none), .v (.int .i64 (openE k p m))], [])
  | _ => none⟩
theorem eOpenY_ok {bf : Int → Int → Bool} {wf : Int → Int} {wb : Int → Bool} (hbf : (eBf bf).ok Tryz.prog glM) (hwd : (eWd wf wb).ok Tryz.prog glM) : (eOpenY bf wb).ok Tryz.prog glM := ⟨Am.enters_of Tryz.func38 (by kernel_rfl) (by kernel_rfl), by
  intro args c t bs h hc
  simp only [eOpenY] at h
  split at h <;> cases h
  rename_i k p m q w
  obtain ⟨hu, ⟨hf, rfl⟩, ⟨hl, h0, h1⟩, ho, hq⟩ := hc _ rfl
  refine pure_wf fun hw => ?_
  obtain ⟨-, ⟨w1, w2⟩, -⟩ := hw
  simp only [List.length_cons, List.length_nil, Nat.zero_add, Nat.mul_one] at w1
  have hm := fits4 hf
  obtain ⟨m0, rfl⟩ := Int.eq_ofNat_of_zero_le (a := m) (by omega)
  obtain ⟨n, hn⟩ := Int.eq_ofNat_of_zero_le h0
  rw [hn, Int.toNat_natCast] at ho hq ⊢
  rw [Int.toNat_natCast] at hq
  obtain rfl : q = 2 + 4 * m0 := by omega
  exact openV_pure bf wf wb hbf hwd p m0 n w hu hf hn (by omega) _ _ (fun _ => ⟨rfl, rfl⟩) (fun h => absurd ⟨ho, hq⟩ h)⟩
theorem eOpenN_ok {bf : Int → Int → Bool} {wf : Int → Int} {wb : Int → Bool} (hbf : (eBf bf).ok Tryz.prog glM) (hwd : (eWd wf wb).ok Tryz.prog glM) : (eOpenN bf wb).ok Tryz.prog glM := ⟨Am.enters_of Tryz.func38 (by kernel_rfl) (by kernel_rfl), by
  intro args c t bs h hc
  simp only [eOpenN] at h
  split at h <;> cases h
  rename_i k p m q w
  obtain ⟨hu, hno⟩ := hc _ rfl
  refine pure_wf fun hw => ?_
  obtain ⟨-, ⟨w1, w2⟩, -⟩ := hw
  simp only [List.length_cons, List.length_nil, Nat.zero_add, Nat.mul_one] at w1
  by_cases hf : fitsB k p m = true ∧ k = 4
  · rw [show openE k p m = 2 from if_pos hf]
    obtain ⟨hf, rfl⟩ := hf
    have hm := fits4 hf
    obtain ⟨m0, rfl⟩ := Int.eq_ofNat_of_zero_le (a := m) (by omega)
    by_cases hl : q = 2 + 4 * m0 ∧ w.getD 0 0 ≤ m0
    · obtain ⟨rfl, h1⟩ := hl
      have h0 := (allU_getD hu 0).1
      obtain ⟨n, hn⟩ := Int.eq_ofNat_of_zero_le h0
      refine openV_pure bf wf wb hbf hwd p m0 n w hu hf hn (by omega) _ _ (fun h => absurd (show OpenOk bf wb 4 p m0 w from ⟨⟨hf, rfl⟩, ⟨by omega, h0, h1⟩, by rw [hn, Int.toNat_natCast]; exact h.1, by rw [hn, Int.toNat_natCast, Int.toNat_natCast]; exact h.2⟩) hno) (fun _ => ⟨rfl, rfl⟩)
    · exact openL_pure bf wf wb hbf hwd p m0 q w hf hl
  · rw [show openE k p m = 5 from if_neg hf]
    exact openF_pure bf wf wb hbf hwd k p m q w hf⟩
end Go.Proofs.YtlcpcgdecodjfaaGreatDoor
