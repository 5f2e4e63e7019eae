/- The walks of region.Fits and region.Home. -/
import Derived.Test.YtlcpcgdecodjfaaDoorWord
namespace Go.Proofs.YtlcpcgdecodjfaaDoor
open Go.RowKit
set_option linter.unusedVariables false
set_option linter.unusedSimpArgs false

/-- May a configuration be? -/
def fits (k p n : Int) : Bool := decide (1 ≤ k ∧ k < 6 ∧ 1 ≤ p ∧ p ≤ 16 ∧ 1 ≤ n ∧ n ≤ 256)
abbrev conf (k p n : Int) : Value := .agg #[.int .i64 k, .int .i64 p, .int .i64 n]
theorem fits_any (k p n : Int) (w : World) : Calls Tryd.prog 48 #[conf k p n] w fun e w' => e = .returned (.bool (fits k p n)) ∧ w.alloc (.cells #[.int .i64 k, .int .i64 p, .int .i64 n] 23) = w' := by
  go_enter Tryd.func48, Tryd.ntmps48
  go_wp2_with fail
  · go_ret; refine ⟨ret_bool ?_, rfl⟩; unfold fits; rw [decide_eq_decide]; omega
  all_goals (go_ret; refine ⟨ret_bool ?_, rfl⟩; unfold fits; rw [Bool.eq_iff_iff, decide_eq_true_iff]; simp only [Bool.false_eq_true, false_iff]; omega)

/-- The table of objects lies in block 0. -/
def Objs (w : World) : Prop := 0 < w.heap.size ∧ ∀ k : Nat, k < 6 → w.cell? ⟨0, k * 2, none⟩ = some (.int .i64 ([0, 1, 1, 1, 2, 9].getD k 0)) ∧ w.cell? ⟨0, k * 2 + 1, none⟩ = some (.int .i64 ([0, 0, 2, 4, 4, 1].getD k 0))
theorem Objs.below {w w' : World} {B : Nat} (h : Objs w) (hb : Below B w w') (hB : 0 < B) : Objs w' :=
  ⟨Nat.lt_of_lt_of_le h.1 hb.size, fun k hk => ⟨(hb.cell (p := ⟨0, k * 2, none⟩) hB).trans (h.2 k hk).1, (hb.cell (p := ⟨0, k * 2 + 1, none⟩) hB).trans (h.2 k hk).2⟩⟩
def home (k n : Int) : Int := if k = 1 then 1 else if k = 2 then 1 + 2 * n else if k = 3 then 1 + 4 * n else if k = 4 then 2 + 4 * n else 9 + n
theorem home_any (k p n : Int) (w : World) (ho : Objs w) : Calls Tryd.prog 49 #[conf k p n] w fun e w' => e = .returned (.int .i64 (if fits k p n = true then home k n else 0)) ∧ Below w.heap.size w w' := by
  obtain ⟨h0, hk⟩ := ho
  cases hf : fits k p n
  · go_enter Tryd.func49, Tryd.ntmps49
    go_wp2_with (go_at_call 48; refine (fits_any _ _ _ _).mono ?_; rintro e w' ⟨rfl, rfl⟩)
    go_ret
    exact ⟨rfl, ((Below.refl _ _).alloc (Nat.le_refl _) _).alloc (by simp) _⟩
  · have hb := of_decide_eq_true hf
    obtain ⟨b1, b2, b3, b4, b5, b6⟩ := hb
    obtain ⟨K, rfl⟩ := Int.eq_ofNat_of_zero_le (show 0 ≤ k by omega)
    obtain ⟨c1, c2⟩ := hk K (by omega)
    have e1 : Hid (home K n = [0, 1, 1, 1, 2, 9].getD K 0 + [0, 0, 2, 4, 4, 1].getD K 0 * n ∧ 0 ≤ ([0, 0, 2, 4, 4, 1].getD K 0 : Int) ∧ ([0, 0, 2, 4, 4, 1].getD K 0 : Int) ≤ 4 ∧ 0 ≤ ([0, 1, 1, 1, 2, 9].getD K 0 : Int) ∧ ([0, 1, 1, 1, 2, 9].getD K 0 : Int) ≤ 9) := by
      have : K = 1 ∨ K = 2 ∨ K = 3 ∨ K = 4 ∨ K = 5 := by omega
      show _ ∧ _
      rcases this with rfl | rfl | rfl | rfl | rfl <;> refine ⟨?_, by decide, by decide, by decide, by decide⟩ <;> unfold home <;> simp
    generalize ([0, 1, 1, 1, 2, 9].getD K 0 : Int) = s at *
    generalize ([0, 0, 2, 4, 4, 1].getD K 0 : Int) = e at *
    obtain ⟨e2, e3, e4, e5, e6⟩ := e1.out
    have E : Hid _ := e2
    have m1 : 0 ≤ e * n := Int.mul_nonneg e3 (by omega)
    have m2 : e * n ≤ 4 * 256 := Int.mul_le_mul e4 b6 (by omega) (by omega)
    clear e1 e2 hk
    go_enter Tryd.func49, Tryd.ntmps49
    go_wp2_with (go_at_call 48; refine (fits_any _ _ _ _).mono ?_; rintro e w' ⟨rfl, rfl⟩)
    go_ret
    exact ⟨ret_int E.out.symm, (((Below.refl _ _).alloc (Nat.le_refl _) _).alloc (by simp) _).alloc (by simp; omega) _⟩
end Go.Proofs.YtlcpcgdecodjfaaDoor
