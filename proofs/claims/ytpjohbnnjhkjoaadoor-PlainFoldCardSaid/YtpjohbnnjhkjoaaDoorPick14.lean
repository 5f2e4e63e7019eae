/- The walk of pick: which of n things a raw number speaks of. -/
import Derived.Test.YtpjohbnnjhkjoaaDoorWord
namespace Go.Proofs.YtpjohbnnjhkjoaaDoor
open Go.RowKit
set_option linter.unusedVariables false
set_option linter.unusedSimpArgs false
/-- which of n things a raw number speaks of -/
def ipick (c n : Int) : Int := (if c < 0 then -(c + 1) else c) % n
theorem ipick_bounds (c : Int) {n : Int} (h : 0 < n) : 0 ≤ ipick c n ∧ ipick c n < n := by
  unfold ipick
  exact ⟨Int.emod_nonneg _ (by omega), Int.emod_lt_of_pos _ h⟩
theorem ipick_neg {c n : Int} (h : c < 0) : -(c + 1).tmod n = ipick c n := by
  unfold ipick
  rw [if_pos h, ← Int.neg_tmod, Int.tmod_eq_emod_of_nonneg (by omega)]
theorem ipick_pos {c n : Int} (h : 0 ≤ c) : c % n = ipick c n := by
  unfold ipick
  rw [if_neg (by omega)]
theorem byes' {a b : Nat} (h : a = b) : (a == b) = true := beq_iff_eq.2 h
theorem bnot' {a b : Nat} (h : ¬ a = b) : (a == b) = false := beq_eq_false_iff_ne.2 h
theorem pick14_any (c n : Int) (hc : I64 c) (hn : 0 < n) (hn2 : n ≤ 4096) (w : World) : Calls Tryd.prog 10 #[.int .i64 c, .int .i64 n] w fun e w' => e = .returned (.int .i64 (ipick c n)) ∧ w = w' := by
  obtain ⟨e0, e1⟩ := id hc
  by_cases h : c < 0
  · go_enter Tryd.func10, Tryd.ntmps10
    go_wp2
    go_ret
    exact ⟨ret_int (ipick_neg h), rfl⟩
  · go_enter Tryd.func10, Tryd.ntmps10
    go_wp2
    go_ret
    exact ⟨ret_int (ipick_pos (by omega)), rfl⟩
end Go.Proofs.YtpjohbnnjhkjoaaDoor
