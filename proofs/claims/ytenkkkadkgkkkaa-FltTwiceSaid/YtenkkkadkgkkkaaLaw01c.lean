/- The walks of FltTwice, FltNear: each returns true, for every input. -/
import Derived.Test.YtenkkkadkgkkkaaLaw01
import Derived.Test.YtenkkkadkgkkkaaPick01
namespace Go.Proofs.Ytenkkkadkgkkkaa
open Go.RowKit
set_option linter.unusedVariables false
set_option linter.unusedSimpArgs false

theorem twice_int {a : Int} (ha : U64 a) :
    (9218868437227405312 < a - a / 9223372036854775808 * 9223372036854775808 → iSum a a = 9221120237041090561) ∧
    (a - a / 9223372036854775808 * 9223372036854775808 ≤ 9218868437227405312 → 9214364837600034816 ≤ a - a / 9223372036854775808 * 9223372036854775808 → iSum a a = a / 9223372036854775808 * 9223372036854775808 + 9218868437227405312) ∧
    (a - a / 9223372036854775808 * 9223372036854775808 = 0 → iSum a a = 0) ∧
    (0 < a - a / 9223372036854775808 * 9223372036854775808 → a - a / 9223372036854775808 * 9223372036854775808 < 4503599627370496 → iSum a a = a / 9223372036854775808 * 9223372036854775808 + 2 * (a - a / 9223372036854775808 * 9223372036854775808)) ∧
    (4503599627370496 ≤ a - a / 9223372036854775808 * 9223372036854775808 → a - a / 9223372036854775808 * 9223372036854775808 < 9214364837600034816 → iSum a a = a + 4503599627370496) := by
  have h := Flt.sum_twice a.toNat (u64_nat ha)
  have e1 : Flt.sgnW = 9223372036854775808 := rfl
  have e2 : Flt.infR = 9218868437227405312 := rfl
  have e3 : Flt.nanW = 9221120237041090561 := rfl
  have e4 : Flt.B = 4503599627370496 := rfl
  have e5 : iSum a a = (Flt.sum a.toNat a.toNat : Nat) := rfl
  rw [e1, e2, e3, e4] at h
  have hm : ((Flt.mag a.toNat : Nat) : Int) = a - a / 9223372036854775808 * 9223372036854775808 := by
    unfold U64 at ha
    unfold Flt.mag; rw [e1]; omega
  have hn : Flt.neg a.toNat = decide (9223372036854775808 ≤ a) := by
    unfold U64 at ha
    unfold Flt.neg; rw [e1]
    by_cases g : 9223372036854775808 ≤ a
    · rw [decide_eq_true g]; exact byes' (by omega)
    · rw [decide_eq_false g]; exact bnot' (by omega)
  rw [hn] at h
  rw [e5]
  generalize Flt.sum a.toNat a.toNat = d at *
  generalize Flt.mag a.toNat = m at *
  clear hn e5
  unfold U64 at ha
  by_cases g : 9223372036854775808 ≤ a
  · rw [decide_eq_true g] at h
    simp only [if_true] at h
    refine ⟨?_, ?_, ?_, ?_, ?_⟩
    · intro i1; rw [if_pos (by omega)] at h; omega
    · intro i1 i2; rw [if_neg (by omega), if_pos (by omega)] at h; omega
    · intro i1; rw [if_neg (by omega), if_neg (by omega), if_pos (by omega)] at h; omega
    · intro i1 i2; rw [if_neg (by omega), if_neg (by omega), if_neg (by omega), if_pos (by omega)] at h; omega
    · intro i1 i2; rw [if_neg (by omega), if_neg (by omega), if_neg (by omega), if_neg (by omega)] at h; omega
  · rw [decide_eq_false g] at h
    simp only [Bool.false_eq_true, if_false] at h
    refine ⟨?_, ?_, ?_, ?_, ?_⟩
    · intro i1; rw [if_pos (by omega)] at h; omega
    · intro i1 i2; rw [if_neg (by omega), if_pos (by omega)] at h; omega
    · intro i1; rw [if_neg (by omega), if_neg (by omega), if_pos (by omega)] at h; omega
    · intro i1 i2; rw [if_neg (by omega), if_neg (by omega), if_neg (by omega), if_pos (by omega)] at h; omega
    · intro i1 i2; rw [if_neg (by omega), if_neg (by omega), if_neg (by omega), if_neg (by omega)] at h; omega

set_option maxRecDepth 10000 in
set_option maxHeartbeats 2000000 in
theorem fltTwice_walk (a : Int) (ha : U64 a) (w : World) : Calls Try.prog 8 #[.int .u64 a] w fun e w' => e = .returned (.bool true) ∧ Below w.heap.size w w' := by
  obtain ⟨a0, a1⟩ := id ha
  have H : Hid _ := twice_int ha
  go_enter Try.func8, Try.ntmps8
  go_wp2_with fail
  refine (awake_any _).mono ?_; rintro e w' ⟨rfl, n, rfl⟩
  go_wp2_with fail
  refine (sum_any _ _ ha ha _).mono ?_; rintro e w' ⟨rfl, n, rfl⟩
  generalize iSum a a = d at *
  go_wp2_with fail
  all_goals (go_ret; refine ⟨ret_bool (byes ?_), quiet_below ⟨_, rfl⟩⟩)
  all_goals (obtain ⟨h1, h2, h3, h4, h5⟩ := H.out)
  all_goals (clear H)
  all_goals (try simp only [beq_iff_eq, beq_eq_false_iff_ne, bne_iff_ne, bne_eq_false_iff_eq, ne_eq] at *)
  all_goals (try simp only [IntKind.wrap_u64])
  all_goals omega

set_option maxRecDepth 10000 in
set_option maxHeartbeats 2000000 in
theorem fltNear_walk (f g e p : Int) (x y : Bool) (hf : U64 f) (hg : U64 g) (he : I64 e) (hp : I64 p) (w : World) : Calls Try.prog 4 #[.int .u64 f, .int .u64 g, .int .i64 e, .int .i64 p, .bool x, .bool y] w fun e w' => e = .returned (.bool true) ∧ Below w.heap.size w w' := by
  obtain ⟨f0, f1⟩ := id hf
  obtain ⟨g0, g1⟩ := id hg
  have b1 := ipick_bounds e (n := 2047) (by omega)
  have b2 := ipick_bounds p (n := 60) (by omega)
  obtain ⟨b1, b1'⟩ := b1
  obtain ⟨b2, b2'⟩ := b2
  go_enter Try.func4, Try.ntmps4
  go_wp2_with fail
  refine (awake_any _).mono ?_; rintro e' w' ⟨rfl, n, rfl⟩
  go_wp2_with fail
  refine (pick01_any e 2047 he (by omega) (by omega) _).mono ?_; rintro e' w' ⟨rfl, rfl⟩
  generalize ipick e 2047 = u at *
  go_wp2_with fail
  refine (pick01_any p 60 hp (by omega) (by omega) _).mono ?_; rintro e' w' ⟨rfl, rfl⟩
  generalize ipick p 60 = v at *
  cases x <;> cases y
  all_goals go_wp2_with (first | (go_at_call 22; refine (sum_any _ _ (by first | assumption | exact u64_bits _ _ _) (by first | assumption | exact u64_bits _ _ _) _).mono ?_; rintro e w' ⟨rfl, n, rfl⟩) | (go_at_call 23; refine (rsum_any _ _ (by first | assumption | exact u64_bits _ _ _) (by first | assumption | exact u64_bits _ _ _) _).mono ?_; rintro e w' ⟨rfl, rfl⟩))
  all_goals (go_ret; exact ⟨rfl, quiet_below ⟨_, rfl⟩⟩)
end Go.Proofs.Ytenkkkadkgkkkaa
