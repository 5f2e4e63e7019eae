/- plain: votes counted, words that may be. -/
import Derived.Test.YtlcpcgdecodjfaaDoorBaseW
namespace Go.Proofs.YtlcpcgdecodjfaaDoor
open Go.RowKit Go.Proofs.YtlcpcgdecodjfaaDoor.Am
set_option linter.unusedVariables false
set_option linter.unusedSimpArgs false

def cnt (ys : List Int) (k : Int) : Int := (ys.count k : Nat)
def allLe (ys : List Int) : Bool := ys.all fun v => decide (v ≤ 8)
def tally9 (ys : List Int) : List Int := [cnt ys 0, cnt ys 1, cnt ys 2, cnt ys 3, cnt ys 4, cnt ys 5, cnt ys 6, cnt ys 7, cnt ys 8]
def tl (ys : List Int) (k : Int) : Int := if allLe ys then cnt ys k else 0
def tallyT (ys : List Int) : T := .agg [.v (.int .u64 0), .v (.int .u64 (tl ys 1)), .v (.int .u64 (tl ys 2)), .v (.int .u64 (tl ys 3)), .v (.int .u64 (tl ys 4)), .v (.int .u64 (tl ys 5)), .v (.int .u64 (tl ys 6)), .v (.int .u64 (tl ys 7)), .v (.int .u64 (tl ys 8))]
theorem cnt_snoc (ys : List Int) (v k : Int) : cnt (ys ++ [v]) k = cnt ys k + if v = k then 1 else 0 := by
  unfold cnt; rw [List.count_append, List.count_singleton]
  by_cases h : v = k <;> simp [h]
theorem cnt_le (ys : List Int) (k : Int) : 0 ≤ cnt ys k ∧ cnt ys k ≤ ys.length := by
  unfold cnt; have := List.count_le_length (a := k) (l := ys); omega
theorem tally_step (ys : List Int) (v : Int) (h0 : 0 ≤ v) (h8 : v ≤ 8) (hl : ys.length ≤ 9223372036854775807) : (tally9 ys).set v.toNat (IntKind.u64.wrap ((tally9 ys).getD v.toNat 0 + 1)) = tally9 (ys ++ [v]) := by
  have hw : ∀ k, IntKind.u64.wrap (cnt ys k + 1) = cnt ys k + 1 := fun k => by have := cnt_le ys k; exact wrapU (by omega) (by omega)
  have : v = 0 ∨ v = 1 ∨ v = 2 ∨ v = 3 ∨ v = 4 ∨ v = 5 ∨ v = 6 ∨ v = 7 ∨ v = 8 := by omega
  rcases this with rfl | rfl | rfl | rfl | rfl | rfl | rfl | rfl | rfl <;> simp [tally9, cnt_snoc, hw]
theorem allLe_snoc (ys : List Int) (v : Int) : allLe (ys ++ [v]) = (allLe ys && decide (v ≤ 8)) := by simp [allLe]
theorem allLe_at {ys : List Int} {j : Nat} (hj : j < ys.length) (h : ¬ ys.getD j 0 ≤ 8) : allLe ys = false := by
  rw [List.getD_eq_getElem?_getD, List.getElem?_eq_getElem hj] at h
  unfold allLe
  rw [List.all_eq_false]
  exact ⟨_, List.getElem_mem hj, by simpa using h⟩
set_option maxRecDepth 100000 in
theorem counted_pure (n : Nat) (xs : List Int) (hx : AllU xs) : Pure Tryd.prog glR 52 [.fl [.u64] n xs] (.tup [tallyT xs, .v (.bool (allLe xs))]) := by
  refine pure_wf fun hw => ?_
  obtain ⟨⟨w1, w2⟩, -⟩ := hw
  simp only [List.length_cons, List.length_nil, Nat.zero_add, Nat.mul_one] at w1
  refine pure_of (C := ctx0 Tryd.prog) ctx0_good Tryd.func52 (c := bodyOf Tryd.f52) (by rfl) (Nat.le_of_ble_eq_true (by rfl)) 4 0 [0, 2, 3, 5, 6, 7, 8, 9, 13] ?_
  conv => whnf
  refine TW.loopD ctx0_good 0 (base := 0) (lv := [0, 2, 3, 5, 6, 7, 8, 9, 13]) [8] [8] [(8, 8)] (fun j : Nat => [.v (.int .i64 j)]) (fun j => [.fl [.u64] (tally9 (xs.take j))]) (fun j => j ≤ n ∧ allLe (xs.take j) = true) (fun j => n - j) ?_
  conv => whnf
  refine ⟨⟨0, ⟨rfl, rfl, rfl⟩, by omega, rfl⟩, fun j ⟨hj, ht⟩ => ?_⟩
  conv => whnf
  refine ifB_dec (fun h => ?_) (fun h => ?_)
  · have hv := hx.at (i := j) (by omega)
    obtain ⟨v0, v1⟩ := id hv
    have e : xs.getD (0 + (j : Int).toNat * (0 + 1)) 0 = xs.getD j 0 := by simp
    conv => whnf
    refine And.intro (by omega) ?_
    conv => whnf
    rw [e]
    repeat' (first | (refine ifB_t (by assumption) ?_; conv => whnf) | (refine ifB_f (by assumption) ?_; conv => whnf) | (refine ifB_dec (fun h => ?_) (fun h => ?_) <;> (first | (exfalso; omega) | (conv => whnf))) | (refine ifB_eq (fun h => ?_) (fun h => ?_) <;> (first | (exfalso; omega) | (conv => whnf))) | (refine ifB_ne (fun h => ?_) (fun h => ?_) <;> (first | (exfalso; omega) | (conv => whnf))) | (refine ifB_not ?_; conv => whnf) | (refine ifB_and ?_; conv => whnf) | (refine ifB_or ?_; conv => whnf) | (refine And.intro ?_ ?_; (first | omega | assumption | (exact allU_getD (by assumption) _) | (simp only [cutL]; omega) | (refine And.intro ?_ ?_ <;> first | assumption | exact allU_getD (by assumption) _) | (simp only [cutL, IntKind.wrap_u64, IntKind.wrap_i64] at *; omega) | decide); conv => whnf))
    · have hf : allLe xs = false := allLe_at (j := j) (by omega) (by omega)
      all_goals (simp [tally9, tl, hf, eqD, eqDs, tallyT])
    · rw [wsucc (n := n) (by omega) w2]
      simp only [Nat.zero_add, Nat.mul_one, Nat.add_zero]
      rw [tally_step _ _ v0 (by omega) (by simp; omega), ← take_snoc (by omega)]
      refine ⟨j + 1, [(8, 8)], ⟨rfl, rfl, rfl⟩, ⟨by omega, ?_⟩, by (try dsimp only); omega⟩
      rw [take_snoc (by omega), allLe_snoc, ht, Bool.true_and]
      exact decide_eq_true (by rw [← e]; omega)
  · conv => whnf
    repeat' (first | (refine ifB_t (by assumption) ?_; conv => whnf) | (refine ifB_f (by assumption) ?_; conv => whnf) | (refine ifB_dec (fun h => ?_) (fun h => ?_) <;> (first | (exfalso; omega) | (conv => whnf))) | (refine ifB_eq (fun h => ?_) (fun h => ?_) <;> (first | (exfalso; omega) | (conv => whnf))) | (refine ifB_ne (fun h => ?_) (fun h => ?_) <;> (first | (exfalso; omega) | (conv => whnf))) | (refine ifB_not ?_; conv => whnf) | (refine ifB_and ?_; conv => whnf) | (refine ifB_or ?_; conv => whnf) | (refine And.intro ?_ ?_; (first | omega | assumption | (exact allU_getD (by assumption) _) | (simp only [cutL]; omega) | (refine And.intro ?_ ?_ <;> first | assumption | exact allU_getD (by assumption) _) | (simp only [cutL, IntKind.wrap_u64, IntKind.wrap_i64] at *; omega) | decide); conv => whnf))
    have e : j = n := by omega
    rw [e, List.take_of_length_le (by omega)] at ht
    rw [e, List.take_of_length_le (by omega)]
    simp [tally9, tl, ht, eqD, eqDs, tallyT]
def eCounted : Entry := ⟨52, 3, fun l => match l with | [.fl [.u64] n xs] => some (some (AllU xs), .tup [tallyT xs, .v (.bool (allLe xs))], []) | _ => none⟩
theorem eCounted_ok : eCounted.ok Tryd.prog glR := ⟨enters_of Tryd.func52 (by kernel_rfl) (by kernel_rfl), by
  intro args c t bs h hc
  simp only [eCounted] at h
  split at h <;> cases h
  replace hc := hc _ rfl
  exact counted_pure _ _ hc⟩
end Go.Proofs.YtlcpcgdecodjfaaDoor
