/- The walks of the document's answer for layer 1: Canon, Rank, Less, Max, Word, Sum. -/
import Derived.Test.YtlcpcgdecodjfaaDoorRefW1
namespace Go.Proofs.YtlcpcgdecodjfaaDoor
open Go.RowKit
set_option linter.unusedVariables false
set_option linter.unusedSimpArgs false

theorem kind_canon {a : Int} : iCanon a = if iKind a = 3 then 9221120237041090561 else if iKind a = 0 then 0 else (a.toNat : Int) := by
  have e1 : Flt.nanW = 9221120237041090561 := rfl
  have hp : 0 < Flt.infR := by decide
  unfold iCanon iKind Flt.canon Flt.kind
  rw [e1]
  by_cases g1 : Flt.infR < Flt.mag a.toNat
  · simp [g1]
  · by_cases g2 : Flt.mag a.toNat = 0
    · have g3 : ¬ Flt.mag a.toNat = Flt.infR := by rw [g2]; omega
      rw [if_neg g1, if_pos g2, if_neg g1, if_neg g3, if_pos g2]; rfl
    · rw [if_neg g1, if_neg g2, if_neg g1, if_neg g2]
      by_cases g3 : Flt.mag a.toNat = Flt.infR <;> simp [g3]

theorem rcanon_any (a : Int) (ha : U64 a) (w : World) : Calls Tryd.prog 28 #[.int .u64 a] w fun e w' => e = .returned (.int .u64 (iCanon a)) ∧ w = w' := by
  have ht : (a.toNat : Int) = a := by unfold U64 at ha; omega
  have H := (show Hid _ from @kind_canon a)
  have HT : Hid ((a.toNat : Int) = a) := ht
  clear ht
  go_enter Tryd.func28, Tryd.ntmps28
  go_wp2_with fail
  refine (rkind_any a ha _).mono ?_
  rintro e w' ⟨rfl, rfl⟩
  go_wp2_with fail
  · go_ret; exact ⟨ret_int (by rw [H.out, if_pos (beq_iff_eq.1 ‹_›)]), rfl⟩
  · go_ret; exact ⟨ret_int (by rw [H.out, if_neg (beq_eq_false_iff_ne.1 ‹(iKind a == 3) = false›), if_pos (beq_iff_eq.1 ‹(iKind a == 0) = true›)]), rfl⟩
  · go_ret; exact ⟨ret_int (by rw [H.out, if_neg (beq_eq_false_iff_ne.1 ‹(iKind a == 3) = false›), if_neg (beq_eq_false_iff_ne.1 ‹(iKind a == 0) = false›), HT.out]), rfl⟩

theorem rank_eq {a : Int} (ha : U64 a) : iRank a = if iCanon a < 9223372036854775808 then iCanon a + 9223372036854775808 else 18446744073709551615 - iCanon a := by
  have hc := u64_canon ha
  have e2 : Flt.sgnW = 9223372036854775808 := rfl
  have e3 : Flt.maxW = 18446744073709551616 := rfl
  unfold U64 iCanon at hc
  unfold iRank Flt.rank iCanon
  rw [e2, e3]
  split <;> split <;> omega

theorem rrank_any (a : Int) (ha : U64 a) (w : World) : Calls Tryd.prog 91 #[.int .u64 a] w fun e w' => e = .returned (.int .u64 (iRank a)) ∧ w = w' := by
  have H := (show Hid _ from rank_eq ha)
  obtain ⟨c0, c1⟩ := u64_canon ha
  go_enter Tryd.func91, Tryd.ntmps91
  go_wp2_with fail
  refine (rcanon_any a ha _).mono ?_
  rintro e w' ⟨rfl, rfl⟩
  generalize iCanon a = c at *
  by_cases hl : c < 9223372036854775808
  · go_wp2_with fail
    go_ret; exact ⟨ret_int (by rw [H.out, if_pos hl]), rfl⟩
  · go_wp2_with fail
    go_ret; exact ⟨ret_int (by rw [H.out, if_neg (by omega), Bits.b_xor_max _ c0 c1]), rfl⟩

theorem rless_any (a b : Int) (ha : U64 a) (hb : U64 b) (w : World) : Calls Tryd.prog 123 #[.int .u64 a, .int .u64 b] w fun e w' => e = .returned (.bool (bLess a b)) ∧ w = w' := by
  go_enter Tryd.func123, Tryd.ntmps123
  go_wp2_with fail
  refine (rrank_any a ha _).mono ?_
  rintro e w' ⟨rfl, rfl⟩
  go_wp2_with fail
  refine (rrank_any b hb _).mono ?_
  rintro e w' ⟨rfl, rfl⟩
  go_wp2_with fail
  go_ret; exact ⟨rfl, rfl⟩

theorem top_eq {a b : Int} : iTop a b = if bLess a b = true then iCanon b else iCanon a := by
  unfold iTop bLess iRank iCanon Flt.top
  by_cases h : Flt.rank a.toNat < Flt.rank b.toNat
  · rw [if_pos h, if_pos (decide_eq_true (by omega))]
  · rw [if_neg h, if_neg (by rw [decide_eq_true_eq]; omega)]

theorem rmax_any (a b : Int) (ha : U64 a) (hb : U64 b) (w : World) : Calls Tryd.prog 106 #[.int .u64 a, .int .u64 b] w fun e w' => e = .returned (.int .u64 (iTop a b)) ∧ w = w' := by
  have H := (show Hid _ from @top_eq a b)
  go_enter Tryd.func106, Tryd.ntmps106
  go_wp2_with fail
  refine (rless_any a b ha hb _).mono ?_
  rintro e w' ⟨rfl, rfl⟩
  go_wp2_with fail
  · refine (rcanon_any b hb _).mono ?_
    rintro e w' ⟨rfl, rfl⟩
    go_wp2_with fail
    go_ret; exact ⟨ret_int (by rw [H.out, if_pos ‹_›]), rfl⟩
  · refine (rcanon_any a ha _).mono ?_
    rintro e w' ⟨rfl, rfl⟩
    go_wp2_with fail
    go_ret; exact ⟨ret_int (by rw [H.out, if_neg (by rw [Bool.not_eq_true]; assumption)]), rfl⟩


theorem rback_c1 {a : Int} (ha : U64 a) (h : a < 9223372036854775808) : bits BinOp.xor IntKind.u64 IntKind.u64.max a = iBack a := back_c1 ha h
theorem rback_c2 {a : Int} (ha : U64 a) (h : ¬ a < 9223372036854775808) : a - 9223372036854775808 = iBack a := by
  unfold U64 at ha
  have e2 : Flt.sgnW = 9223372036854775808 := rfl
  unfold iBack Flt.back
  rw [if_neg (by omega)]; omega

theorem rword_any (a : Int) (ha : U64 a) (w : World) : Calls Tryd.prog 118 #[.int .u64 a] w fun e w' => e = .returned (.tuple #[.int .u64 (iWord a), .bool (bWordOk a)]) ∧ w = w' := by
  have hb := u64_back ha
  obtain ⟨a0, a1⟩ := id ha
  by_cases hl : a < 9223372036854775808
  · go_enter Tryd.func118, Tryd.ntmps118
    go_wp2_with fail
    rw [rback_c1 ha hl]
    refine (rcanon_any _ hb _).mono ?_
    rintro e w' ⟨rfl, rfl⟩
    go_wp2_with fail
    · refine (rrank_any _ hb _).mono ?_
      rintro e w' ⟨rfl, rfl⟩
      go_wp2_with fail
      · go_ret2; exact ⟨ret_int_bool (word_no (notok_c2 ha (bne_beq ‹_›))) (notok_c2 ha (bne_beq ‹_›)).symm, rfl⟩
      · go_ret2; exact ⟨ret_int_bool (word_yes (ok_c ha ‹_› (bne_beq' ‹_›))) (ok_c ha ‹_› (bne_beq' ‹_›)).symm, rfl⟩
    · go_ret2; exact ⟨ret_int_bool (word_no (notok_c1 ‹_›)) (notok_c1 ‹_›).symm, rfl⟩
  · go_enter Tryd.func118, Tryd.ntmps118
    go_wp2_with fail
    rw [rback_c2 ha (by omega)]
    refine (rcanon_any _ hb _).mono ?_
    rintro e w' ⟨rfl, rfl⟩
    go_wp2_with fail
    · refine (rrank_any _ hb _).mono ?_
      rintro e w' ⟨rfl, rfl⟩
      go_wp2_with fail
      · go_ret2; exact ⟨ret_int_bool (word_no (notok_c2 ha (bne_beq ‹_›))) (notok_c2 ha (bne_beq ‹_›)).symm, rfl⟩
      · go_ret2; exact ⟨ret_int_bool (word_yes (ok_c ha ‹_› (bne_beq' ‹_›))) (ok_c ha ‹_› (bne_beq' ‹_›)).symm, rfl⟩
    · go_ret2; exact ⟨ret_int_bool (word_no (notok_c1 ‹_›)) (notok_c1 ‹_›).symm, rfl⟩

/-! ### The sum -/
theorem rlesser_any (a b : Int) (ha : U64 a) (hb : U64 b) (w : World) : Calls Tryd.prog 124 #[.int .u64 a, .int .u64 b] w fun e w' => e = .returned (.bool (decide (a % 9223372036854775808 < b % 9223372036854775808))) ∧ w = w' := by
  obtain ⟨a0, a1⟩ := id ha
  obtain ⟨b0, b1⟩ := id hb
  go_enter Tryd.func124, Tryd.ntmps124
  go_wp2
  go_ret; exact ⟨rfl, rfl⟩

theorem whole_eq {a : Int} (ha : U64 a) : ((Flt.wholeE a.toNat : Nat) : Int) = (if a / 4503599627370496 % 2048 = 0 then 1 else a / 4503599627370496 % 2048) ∧
    ((Flt.wholeM a.toNat : Nat) : Int) = (if a / 4503599627370496 % 2048 = 0 then a % 4503599627370496 * 8 else (a % 4503599627370496 + 4503599627370496) * 8) := by
  unfold U64 at ha
  have e1 : Flt.B = 4503599627370496 := rfl
  unfold Flt.wholeE Flt.wholeM Flt.expo Flt.frac
  rw [e1]
  constructor <;> split <;> split <;> omega

theorem rwhole_any (a : Int) (ha : U64 a) (w : World) : Calls Tryd.prog 125 #[.int .u64 a] w fun e w' => e = .returned (.tuple #[.int .i64 (Flt.wholeE a.toNat : Nat), .int .u64 (Flt.wholeM a.toNat : Nat)]) ∧ w = w' := by
  obtain ⟨a0, a1⟩ := id ha
  have H := (show Hid _ from whole_eq ha)
  go_enter Tryd.func125, Tryd.ntmps125
  go_wp2_with fail
  refine (rparts_any a ha _).mono ?_
  rintro e w' ⟨rfl, rfl⟩
  go_wp2_with fail
  · have h := beq_iff_eq.1 ‹(a / 4503599627370496 % 2048 == 0) = true›
    go_ret2; exact ⟨ret_int2 (by rw [H.out.1, if_pos h]) (by rw [H.out.2, if_pos h]), rfl⟩
  · have h := beq_eq_false_iff_ne.1 ‹(a / 4503599627370496 % 2048 == 0) = false›
    go_ret2; exact ⟨ret_int2 (by rw [H.out.1, if_neg h]) (by rw [H.out.2, if_neg h]), rfl⟩

end Go.Proofs.YtlcpcgdecodjfaaDoor
