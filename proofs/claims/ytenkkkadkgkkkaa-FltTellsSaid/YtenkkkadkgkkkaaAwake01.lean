/- The walk of awake: first calls of package flt whose answers are fixed. -/
import Derived.Test.YtenkkkadkgkkkaaFltW2
namespace Go.Proofs.Ytenkkkadkgkkkaa
open Go.RowKit
set_option linter.unusedVariables false
set_option linter.unusedSimpArgs false


set_option maxRecDepth 10000 in
theorem awake_any (w : World) : Calls Try.prog 11 #[] w fun e w' => e = .returned (.bool true) ∧ ∃ n, w' = w.drewN n := by
  have e1 : (iWord 9223372036854775808 == 0) = true := by decide +kernel
  have e2 : bWordOk 9223372036854775808 = true := by decide +kernel
  have e3 : bWordOk 0 = false := by decide +kernel
  have e4 : (iRank 0 == 9223372036854775808) = true := by decide +kernel
  have e5 : (iRank 18442240474082181120 == 4503599627370495) = true := by decide +kernel
  have e6 : (iSum 9218868437227405312 18442240474082181120 == 9221120237041090561) = true := by decide +kernel
  have e7 : (iCanon 9223372036854775808 == 0) = true := by decide +kernel
  have e8 : (iCanon 9221120237041090568 == 9221120237041090561) = true := by decide +kernel
  have e9 : bLess 18442240474082181120 0 = true := by decide +kernel
  have e10 : (iTop 9218868437227405312 9221120237041090561 == 9221120237041090561) = true := by decide +kernel
  have e11 : (iKind 1 == 1) = true := by decide +kernel
  have e12 : (iSum 4607182418800017408 4607182418800017408 == 4611686018427387904) = true := by decide +kernel
  go_enter Try.func11, Try.ntmps11
  go_wp2_with (first
    | (go_at_call 24; refine (word_any _ (u64_of (by decide +kernel)) _).mono ?_; rintro e w' ⟨rfl, rfl⟩)
    | (go_at_call 16; refine (rank_any _ (u64_of (by decide +kernel)) _).mono ?_; rintro e w' ⟨rfl, rfl⟩)
    | (go_at_call 22; refine (sum_any _ _ (u64_of (by decide +kernel)) (u64_of (by decide +kernel)) _).mono ?_; rintro e w' ⟨rfl, n, rfl⟩)
    | (go_at_call 12; refine (canon_any _ (u64_of (by decide +kernel)) _).mono ?_; rintro e w' ⟨rfl, rfl⟩)
    | (go_at_call 18; refine (less_any _ _ (u64_of (by decide +kernel)) (u64_of (by decide +kernel)) _).mono ?_; rintro e w' ⟨rfl, rfl⟩)
    | (go_at_call 20; refine (max_any _ _ (u64_of (by decide +kernel)) (u64_of (by decide +kernel)) _).mono ?_; rintro e w' ⟨rfl, rfl⟩)
    | (go_at_call 14; refine (kind_any _ (u64_of (by decide +kernel)) _).mono ?_; rintro e w' ⟨rfl, rfl⟩))

  go_ret
  exact ⟨rfl, _, rfl⟩
end Go.Proofs.Ytenkkkadkgkkkaa
