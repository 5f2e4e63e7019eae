/- plain: law14's awake. -/
import Derived.Test.YtlcpcgdecodjfaaDoorPlE
namespace Go.Proofs.YtlcpcgdecodjfaaDoor
open Go.RowKit Go.Proofs.YtlcpcgdecodjfaaDoor.Am
set_option linter.unusedVariables false
set_option linter.unusedSimpArgs false

def EqR (P : Program) : Prop := ∀ t, hasN [55] t = true → P.stoodInHeld t = false
theorem eqR : EqR Tryd.prog := by
  intro t h
  have : t = 55 := by
    simp only [hasN] at h
    split at h
    · rename_i e; exact (Nat.eq_of_beq_eq_true e).symm
    · cases h
  subst this; exact Tryd.stoodInHeld55
noncomputable def ctxPlG (P : Program) (h : EqR P) : Ctx := ctx P glR [eFold, eCast, eWinner, eApply, eWords] [55] h [] (fun _ h => by cases h)
theorem ctxPlG_good : (ctxPlG Tryd.prog eqR).good := ctx_good (by kernel_rfl) (AllOk.mem ⟨eFold_ok, eCast_ok, eWinner_ok, eApply_ok, eWords_ok, trivial⟩) glR_two
theorem allU_dec {xs : List Int} (h : xs.all (fun a => decide (0 ≤ a ∧ a < 18446744073709551616)) = true) : AllU xs := fun x hx => u64_of (List.all_eq_true.1 h x hx)
theorem aw1 : foldS 3 [13830554455654793216, 18442240474082181120] = (0, 0) := by decide +kernel
theorem aw2 : foldS 4 [4607182418800017408, 4607182418800017408] = (4611686018427387904, 0) := by decide +kernel
theorem aw3 : castS 5 1 4 [3, 5, 5, 3] = ([0, 3, 5, 5, 3, 0, 0, 2, 0, 2, 0, 0, 0], 0) := by decide +kernel
theorem aw4 : winS 5 1 4 [0, 3, 5, 5, 3, 0, 0, 2, 0, 2, 0, 0, 0] = (3, 0) := by decide +kernel
theorem aw5 : castS 5 1 4 [9] = ([], 1) := by decide +kernel
theorem aw6 : applyS 5 1 4 [0, 3, 5, 5, 3, 0, 0, 2, 0, 2, 0, 0, 0] 13 0 0 = ([1, 3, 5, 5, 3, 0, 0, 2, 0, 2, 0, 0, 0], 0, 1, 0) := by decide +kernel
theorem aw7 : applyS 1 1 1 [5] 2 0 9223372036854775808 = ([0], 0, 5, 0) := by decide +kernel
theorem aw8 : foldS 1 [] = (0, 1) := by decide +kernel
attribute [local irreducible] foldS castS winS applyS
set_option maxRecDepth 100000 in
set_option maxHeartbeats 1000000 in
theorem awake_pure : Pure Tryd.prog glR 9 [] (.v (.bool true)) := by
  refine pure_of (C := ctxPlG Tryd.prog eqR) ctxPlG_good Tryd.func9 (c := bodyOf Tryd.f9) (by rfl) (Nat.le_of_ble_eq_true (by rfl)) 4 0 [0, 1, 2, 3, 4, 6, 7, 8, 9, 10, 11, 13, 14, 15, 16, 17, 18, 19] ?_
  conv => whnf
  refine And.intro ?_ ?_
  · exact allU_dec (by decide +kernel)
  rw [aw1]
  conv => whnf
  refine And.intro ?_ ?_
  · exact allU_dec (by decide +kernel)
  rw [aw2]
  conv => whnf
  rw [aw8]
  conv => whnf
  rw [aw3]
  conv => whnf
  refine And.intro ?_ ?_
  · exact allU_dec (by decide +kernel)
  rw [aw4]
  conv => whnf
  rw [aw5]
  conv => whnf
  refine And.intro ?_ ?_
  · refine ⟨?_, ?_, ?_⟩
    · exact allU_dec (by decide +kernel)
    · exact u64_of (by decide +kernel)
    · exact u64_of (by decide +kernel)
  rw [aw6]
  conv => whnf
  refine And.intro ?_ ?_
  · refine ⟨?_, ?_, ?_⟩
    · exact allU_dec (by decide +kernel)
    · exact u64_of (by decide +kernel)
    · exact u64_of (by decide +kernel)
  rw [aw7]
  conv => whnf
  repeat' (first | (refine ifB_t (by assumption) ?_; conv => whnf) | (refine ifB_f (by assumption) ?_; conv => whnf) | (refine ifB_dec (fun h => ?_) (fun h => ?_) <;> (first | (exfalso; omega) | (conv => whnf))) | (refine ifB_eq (fun h => ?_) (fun h => ?_) <;> (first | (exfalso; omega) | (conv => whnf))) | (refine ifB_ne (fun h => ?_) (fun h => ?_) <;> (first | (exfalso; omega) | (conv => whnf))) | (refine ifB_not ?_; conv => whnf) | (refine ifB_and ?_; conv => whnf) | (refine ifB_or ?_; conv => whnf) | (refine And.intro ?_ ?_; (first | omega | assumption | (exact allU_getD (by assumption) _) | (simp only [cutL]; omega) | (refine And.intro ?_ ?_ <;> first | assumption | exact allU_getD (by assumption) _) | (simp only [cutL, IntKind.wrap_u64, IntKind.wrap_i64] at *; omega) | decide); conv => whnf) | (refine ifB_mk (fun h => ?_) (fun h => ?_) <;> (conv => whnf)))
  all_goals exact congrArg (fun b => T.v (Value.bool b)) (by decide +kernel)
def eAwake : Entry := ⟨9, 3, fun l => match l with | [] => some (none, .v (.bool true), []) | _ => none⟩
theorem eAwake_ok : eAwake.ok Tryd.prog glR := ⟨enters_of Tryd.func9 (by kernel_rfl) (by kernel_rfl), by
  intro args c t bs h hc
  simp only [eAwake] at h
  split at h <;> cases h
  exact awake_pure⟩
end Go.Proofs.YtlcpcgdecodjfaaDoor
