/- The walks of flt.Word, flt.Max, flt.Sum. -/
import Derived.Test.YtlcpcgdecodjfaaDoorFltW
namespace Go.Proofs.YtlcpcgdecodjfaaDoor
open Go.RowKit
set_option linter.unusedVariables false
set_option linter.unusedSimpArgs false

theorem back_lt (r : Nat) (h : r < Flt.maxW) : Flt.back r < Flt.maxW := by
  have : Flt.maxW = 18446744073709551616 := rfl
  have : Flt.sgnW = 9223372036854775808 := rfl
  unfold Flt.back
  split <;> omega
theorem u64_back {a : Int} (h : U64 a) : U64 (iBack a) := by
  have h1 := back_lt _ (u64_nat h)
  have : Flt.maxW = 18446744073709551616 := rfl
  unfold U64 iBack; omega
theorem word_lt (r : Nat) (h : r < Flt.maxW) : Flt.word r < Flt.maxW := by
  unfold Flt.word
  split
  · exact back_lt r h
  · decide
theorem u64_word {a : Int} (h : U64 a) : U64 (iWord a) := by
  have h1 := word_lt _ (u64_nat h)
  have : Flt.maxW = 18446744073709551616 := rfl
  unfold U64 iWord; omega

theorem back_c1 {a : Int} (ha : U64 a) (h : a < 9223372036854775808) : bits BinOp.xor IntKind.u64 IntKind.u64.max a = iBack a := by
  unfold U64 at ha
  rw [Bits.b_xor_max _ ha.1 ha.2]
  have : Flt.maxW = 18446744073709551616 := rfl
  have : Flt.sgnW = 9223372036854775808 := rfl
  unfold iBack Flt.back
  rw [if_pos (by omega)]; omega
theorem back_c2 {a : Int} (ha : U64 a) (h : ¬ a < 9223372036854775808) : bits BinOp.andNot IntKind.u64 a 9223372036854775808 = iBack a := by
  unfold U64 at ha
  rw [Bits.b_not_top _ ha.1 ha.2]
  have : Flt.maxW = 18446744073709551616 := rfl
  have : Flt.sgnW = 9223372036854775808 := rfl
  unfold iBack Flt.back
  rw [if_neg (by omega)]; omega
theorem top_r1 {a : Int} (ha : U64 a) (h : (bits BinOp.and IntKind.u64 a 9223372036854775808 == 0) = true) : a < 9223372036854775808 := by
  unfold U64 at ha
  rw [Bits.b_and_top _ ha.1 ha.2] at h
  by_cases g : a < 9223372036854775808
  · exact g
  · rw [if_neg g] at h; simp at h
theorem top_r2 {a : Int} (ha : U64 a) (h : (bits BinOp.and IntKind.u64 a 9223372036854775808 == 0) = false) : ¬ a < 9223372036854775808 := by
  unfold U64 at ha
  rw [Bits.b_and_top _ ha.1 ha.2] at h
  intro g
  rw [if_pos g] at h; simp at h
theorem ok_c {a : Int} (ha : U64 a) (h : iCanon (iBack a) = iBack a) (h2 : (iRank (iBack a) == a) = true) : bWordOk a = true := by
  unfold U64 at ha
  unfold bWordOk Flt.wordOk
  simp only [beq_iff_eq] at h2
  unfold iCanon iRank iBack at *
  simp only [Int.toNat_natCast] at h h2
  refine decide_eq_true ⟨by omega, by omega⟩
theorem notok_c1 {a : Int} (h : ¬ iCanon (iBack a) = iBack a) : bWordOk a = false := by
  unfold bWordOk Flt.wordOk
  unfold iCanon iBack at *
  simp only [Int.toNat_natCast] at h
  refine decide_eq_false (fun g => h (by omega))
theorem notok_c2 {a : Int} (ha : U64 a) (h : (iRank (iBack a) == a) = false) : bWordOk a = false := by
  unfold U64 at ha
  unfold bWordOk Flt.wordOk
  simp only [beq_eq_false_iff_ne] at h
  unfold iRank iBack at *
  simp only [Int.toNat_natCast] at h
  refine decide_eq_false (fun g => h (by omega))
theorem word_yes {a : Int} (h : bWordOk a = true) : iBack a = iWord a := by
  unfold bWordOk at h; unfold iBack iWord Flt.word; rw [if_pos h]
theorem word_no {a : Int} (h : bWordOk a = false) : 0 = iWord a := by
  unfold bWordOk at h; unfold iWord Flt.word; rw [h]; rfl

theorem word_any (a : Int) (ha : U64 a) (w : World) : Calls Tryd.prog 100 #[.int .u64 a] w fun e w' => e = .returned (.tuple #[.int .u64 (iWord a), .bool (bWordOk a)]) ∧ w = w' := by
  have hb := u64_back ha
  go_enter Tryd.func100, Tryd.ntmps100
  go_wp2_with fail
  · rw [back_c1 ha (top_r1 ha ‹_›)]
    refine (canon_any _ hb _).mono ?_
    rintro e w' ⟨rfl, rfl⟩
    go_wp2_with fail
    · refine (rank_any _ hb _).mono ?_
      rintro e w' ⟨rfl, rfl⟩
      go_wp2_with fail
      · go_ret2; exact ⟨ret_int_bool (word_yes (ok_c ha ‹_› ‹_›)) (ok_c ha ‹_› ‹_›).symm, rfl⟩
      · go_ret2; exact ⟨ret_int_bool (word_no (notok_c2 ha ‹_›)) (notok_c2 ha ‹_›).symm, rfl⟩
    · go_ret2; exact ⟨ret_int_bool (word_no (notok_c1 ‹_›)) (notok_c1 ‹_›).symm, rfl⟩
  · rw [back_c2 ha (top_r2 ha ‹_›)]
    refine (canon_any _ hb _).mono ?_
    rintro e w' ⟨rfl, rfl⟩
    go_wp2_with fail
    · refine (rank_any _ hb _).mono ?_
      rintro e w' ⟨rfl, rfl⟩
      go_wp2_with fail
      · go_ret2; exact ⟨ret_int_bool (word_yes (ok_c ha ‹_› ‹_›)) (ok_c ha ‹_› ‹_›).symm, rfl⟩
      · go_ret2; exact ⟨ret_int_bool (word_no (notok_c2 ha ‹_›)) (notok_c2 ha ‹_›).symm, rfl⟩
    · go_ret2; exact ⟨ret_int_bool (word_no (notok_c1 ‹_›)) (notok_c1 ‹_›).symm, rfl⟩

/-! Ranks and back. -/
theorem canon_canon (w : Nat) : Flt.canon (Flt.canon w) = Flt.canon w := by
  by_cases h : Flt.infR < Flt.mag w
  · have : Flt.canon w = Flt.nanW := by unfold Flt.canon; rw [if_pos h]
    rw [this]; decide
  · by_cases h2 : Flt.mag w = 0
    · have : Flt.canon w = 0 := by unfold Flt.canon; rw [if_neg h, if_pos h2]
      rw [this]; decide
    · have : Flt.canon w = w := by unfold Flt.canon; rw [if_neg h, if_neg h2]
      rw [this, this]
theorem rank_canon (w : Nat) : Flt.rank (Flt.canon w) = Flt.rank w := by
  unfold Flt.rank; rw [canon_canon]
theorem back_rank (w : Nat) (h : w < Flt.maxW) : Flt.back (Flt.rank w) = Flt.canon w := by
  have := canon_lt w h
  have : Flt.maxW = 18446744073709551616 := rfl
  have : Flt.sgnW = 9223372036854775808 := rfl
  unfold Flt.rank
  split
  · unfold Flt.back; rw [if_neg (by omega)]; omega
  · unfold Flt.back; rw [if_pos (by omega)]; omega
theorem wordOk_rank (w : Nat) (h : w < Flt.maxW) : Flt.wordOk (Flt.rank w) = true := by
  unfold Flt.wordOk
  rw [back_rank w h, canon_canon, rank_canon]; simp
theorem word_rank (w : Nat) (h : w < Flt.maxW) : Flt.word (Flt.rank w) = Flt.canon w := by
  unfold Flt.word
  rw [wordOk_rank w h, back_rank w h]; rfl

theorem top_yes {a b : Int} (hb : U64 b) (h : iRank a < iRank b) : iWord (iRank b) = iTop a b := by
  unfold iRank at h
  unfold iWord iTop iRank Flt.top
  rw [if_pos (by omega), Int.toNat_natCast, word_rank _ (u64_nat hb)]
theorem top_no {a b : Int} (ha : U64 a) (h : iRank b ≤ iRank a) : iWord (iRank a) = iTop a b := by
  unfold iRank at h
  unfold iWord iTop iRank Flt.top
  rw [if_neg (by omega), Int.toNat_natCast, word_rank _ (u64_nat ha)]

theorem max_any (a b : Int) (ha : U64 a) (hb : U64 b) (w : World) : Calls Tryd.prog 79 #[.int .u64 a, .int .u64 b] w fun e w' => e = .returned (.int .u64 (iTop a b)) ∧ w = w' := by
  have hra := u64_rank ha
  have hrb := u64_rank hb
  go_enter Tryd.func79, Tryd.ntmps79
  go_wp2_with fail
  refine (rank_any a ha _).mono ?_
  rintro e w' ⟨rfl, rfl⟩
  go_wp2_with fail
  refine (rank_any b hb _).mono ?_
  rintro e w' ⟨rfl, rfl⟩
  go_wp2_with fail
  · refine (word_any _ hrb _).mono ?_
    rintro e w' ⟨rfl, rfl⟩
    go_wp2_with fail
    go_ret; exact ⟨ret_int (top_yes hb ‹_›), rfl⟩
  · refine (word_any _ hra _).mono ?_
    rintro e w' ⟨rfl, rfl⟩
    go_wp2_with fail
    go_ret; exact ⟨ret_int (top_no ha ‹_›), rfl⟩

/-! Sums. -/
theorem add_some {P : Program} (t : TypeId) (x y r : Nat) (h : Ieee.double.add x y = some r) (w : World) : (binOp .add t (.float .f64 x) (.float .f64 y)).run P w = .ok (.float .f64 r) w :=
  run_float_arith w .add t .f64 x y r h
theorem add_none {P : Program} (t : TypeId) (x y : Nat) (h : Ieee.double.add x y = none) (w : World) :
    ∃ r, r < 18446744073709551616 ∧ Flt.infR < Flt.mag r ∧ (binOp .add t (.float .f64 x) (.float .f64 y)).run P w = .ok (.float .f64 r) w.drew := by
  have h' : FloatKind.f64.format.add x y = none := h
  refine ⟨(Question.nanBits .f64 x y).cut (w.tape w.drawn (.nanBits .f64 x y)), ?_, ?_, ?_⟩
  · simp only [Question.cut]; omega
  · simp only [Question.cut]
    unfold Flt.mag
    have e1 : Flt.infR = 9218868437227405312 := rfl
    have e2 : Flt.sgnW = 9223372036854775808 := rfl
    rw [e1, e2]
    generalize w.tape w.drawn (.nanBits .f64 x y) = t
    have : t % 2 = 0 ∨ t % 2 = 1 := by omega
    rcases this with g | g <;> rw [g] <;> omega
  · simp [binOp, Op.floatArith, h', Question.forced]

theorem sum_c1 {a b : Int} {r : Nat} (ha : U64 a) (hb : U64 b) (h : Ieee.double.add a.toNat b.toNat = some r) : iCanon r = iSum a b := by
  unfold iCanon iSum
  rw [Int.toNat_natCast, Flt.sum_of_add _ _ _ (u64_nat ha) (u64_nat hb) h]
theorem sum_c2 {a b : Int} {r : Nat} (hr : Flt.infR < Flt.mag r) (h : Ieee.double.add a.toNat b.toNat = none) : iCanon r = iSum a b := by
  unfold iCanon iSum
  rw [Int.toNat_natCast, Flt.sum_of_none _ _ h]
  unfold Flt.canon; rw [if_pos hr]
theorem u64_nat' {r : Nat} (h : r < 18446744073709551616) : U64 r := by unfold U64; omega

theorem sum_any (a b : Int) (ha : U64 a) (hb : U64 b) (w : World) : Calls Tryd.prog 80 #[.int .u64 a, .int .u64 b] w fun e w' => e = .returned (.int .u64 (iSum a b)) ∧ ∃ n, w' = w.drewN n := by
  cases hadd : Ieee.double.add a.toNat b.toNat with
  | some r =>
    have hr : r < 18446744073709551616 := Ieee.Format.add_lt _ hadd
    have hrun := fun w => add_some (P := Tryd.prog) 119 _ _ _ hadd w
    have hx := sum_c1 ha hb hadd
    have H := (show Hid (iCanon r = iSum a b) from hx)
    clear hx hadd
    have hu := u64_nat' hr
    go_enter Tryd.func80, Tryd.ntmps80
    go_wp2_with (go_at_call 38; refine (canon_any _ hu _).mono ?_; rintro e w' ⟨rfl, rfl⟩)
    go_ret; exact ⟨ret_int H.out, 0, rfl⟩
  | none =>
    obtain ⟨r, hr, hm, hrun⟩ := add_none (P := Tryd.prog) 119 _ _ hadd w
    have hx := sum_c2 hm hadd
    have H := (show Hid (iCanon r = iSum a b) from hx)
    clear hx hadd
    have hu := u64_nat' hr
    go_enter Tryd.func80, Tryd.ntmps80
    go_wp2_with (go_at_call 38; refine (canon_any _ hu _).mono ?_; rintro e w' ⟨rfl, rfl⟩)
    go_ret; exact ⟨ret_int H.out, 1, rfl⟩

end Go.Proofs.YtlcpcgdecodjfaaDoor
