/- Texts put together: Bits, FltW, FltW2, FltRO, RefW1, RefW2, FltSum, FltP, RefW3, BaseW, StA, KdA, KdB, KdC, KdD, DcA, LwA, LwB, KdE, DcB, DcC, DcD, DcE, DcF, DcG, DcH, DcI, DcJ, DcK, DcL, DcM, DcN, DcS, DcP, DcU. -/
import Derived.Test.YtnplgklnkcjmnaaDoorDictOneM9
import Derived.Laws.BitsAllLaws
import Derived.Laws.Bits64
import Derived.WalkKit
import Derived.WalkLawsBesides
import Derived.Deep.Draws
import Derived.KernelRfl
namespace Go.Proofs.YtnplgklnkcjmnaaDoor.Bits
set_option linter.unusedVariables false
set_option linter.unusedSimpArgs false

/-! The same as the walk spells it. -/
end Go.Proofs.YtnplgklnkcjmnaaDoor.Bits
namespace Go.Proofs.YtnplgklnkcjmnaaDoor
open Go.RowKit
set_option linter.unusedVariables false
set_option linter.unusedSimpArgs false

def iCanon (a : Int) : Int := (Flt.canon a.toNat : Nat)
def iRank (a : Int) : Int := (Flt.rank a.toNat : Nat)
def bLess (a b : Int) : Bool := decide (iRank a < iRank b)
theorem u64_nat {a : Int} (h : U64 a) : a.toNat < Flt.maxW := by
  have : Flt.maxW = 18446744073709551616 := rfl
  unfold U64 at h; omega
theorem canon_lt (w : Nat) (h : w < Flt.maxW) : Flt.canon w < Flt.maxW := by
  unfold Flt.canon
  split
  · decide
  · split
    · decide
    · exact h
theorem u64_canon {a : Int} (h : U64 a) : U64 (iCanon a) := by
  have h1 := canon_lt _ (u64_nat h)
  have : Flt.maxW = 18446744073709551616 := rfl
  unfold U64 iCanon; omega
end Go.Proofs.YtnplgklnkcjmnaaDoor
namespace Go.Proofs.YtnplgklnkcjmnaaDoor
open Go.RowKit
set_option linter.unusedVariables false
set_option linter.unusedSimpArgs false

/-! Ranks and back. -/
theorem canon_canon (w : Nat) : Flt.canon (Flt.canon w) = Flt.canon w := by
  by_cases h : Flt.infR < Flt.mag w
  · have : Flt.canon w = Flt.nanW := by unfold Flt.canon; rw [if_pos h]
    rw [this]; decide
  · by_cases h2 : Flt.mag w = 0
    · have : Flt.canon w = 0 := by unfold Flt.canon; rw [if_neg h, if_pos h2]
      rw [this]; decide
    · have : Flt.canon w = w := by unfold Flt.canon; rw [if_neg h, if_neg h2]
      rw [this, this]
theorem rank_canon (w : Nat) : Flt.rank (Flt.canon w) = Flt.rank w := by
  unfold Flt.rank; rw [canon_canon]
theorem back_rank (w : Nat) (h : w < Flt.maxW) : Flt.back (Flt.rank w) = Flt.canon w := by
  have := canon_lt w h
  have : Flt.maxW = 18446744073709551616 := rfl
  have : Flt.sgnW = 9223372036854775808 := rfl
  unfold Flt.rank
  split
  · unfold Flt.back; rw [if_neg (by omega)]; omega
  · unfold Flt.back; rw [if_pos (by omega)]; omega
/-! Sums. -/
end Go.Proofs.YtnplgklnkcjmnaaDoor
namespace Go.Proofs.YtnplgklnkcjmnaaDoor.Flt
set_option linter.unusedVariables false
set_option linter.unusedSimpArgs false

/-- n / 2^d, its last bit set if anything is lost. -/
def RO (n d : Nat) : Nat := if n % 2 ^ d = 0 then n / 2 ^ d else n / 2 ^ d / 2 * 2 + 1

/-! ### What the document's 'made' makes -/
def norm1 (e m : Nat) : Nat × Nat := if 72057594037927936 ≤ m then (e + 1, RO m 1) else (e, m)
def norm2 : Nat → Nat → Nat × Nat
  | 0, m => (0, m)
  | 1, m => (1, m)
  | e + 2, m => if m < 36028797018963968 then norm2 (e + 1) (m * 2) else (e + 2, m)
def fin (e m : Nat) : Nat := min ((e - 1) * B + cut m 3) infR
def made (s e m : Nat) : Nat := if m = 0 then 0 else s * sgnW + fin (norm2 (norm1 e m).1 (norm1 e m).2).1 (norm2 (norm1 e m).1 (norm1 e m).2).2

/-! ### The document's sum is the sum -/
end Go.Proofs.YtnplgklnkcjmnaaDoor.Flt
namespace Go.Proofs.YtnplgklnkcjmnaaDoor
open Go.RowKit
set_option linter.unusedVariables false
set_option linter.unusedSimpArgs false

end Go.Proofs.YtnplgklnkcjmnaaDoor
namespace Go.Proofs.YtnplgklnkcjmnaaDoor
open Go.RowKit
set_option linter.unusedVariables false
set_option linter.unusedSimpArgs false

/-! ### The sum -/
end Go.Proofs.YtnplgklnkcjmnaaDoor
namespace Go.Proofs.YtnplgklnkcjmnaaDoor
set_option linter.unusedVariables false
set_option linter.unusedSimpArgs false
namespace Flt
end Flt
end Go.Proofs.YtnplgklnkcjmnaaDoor
namespace Go.Proofs.YtnplgklnkcjmnaaDoor
open Go.RowKit
set_option linter.unusedVariables false
set_option linter.unusedSimpArgs false
namespace Flt
theorem rank_inj (x y : Nat) (hx : x < maxW) (hy : y < maxW) : rank x = rank y ↔ canon x = canon y := by
  constructor
  · intro h; rw [← back_rank x hx, ← back_rank y hy, h]
  · intro h; rw [← rank_canon x, ← rank_canon y, h]

/-! ### A sum with the opposite -/
end Flt

/-! ### As the walks spell them -/
theorem p_canon2 (a : Int) : iCanon (iCanon a) = iCanon a := by
  unfold iCanon; rw [Int.toNat_natCast, canon_canon]
theorem p_rank_inj {a b : Int} (ha : U64 a) (hb : U64 b) : iRank a = iRank b ↔ iCanon a = iCanon b := by
  have := Flt.rank_inj a.toNat b.toNat (u64_nat ha) (u64_nat hb)
  unfold iRank iCanon; omega
end Go.Proofs.YtnplgklnkcjmnaaDoor
namespace Go.Proofs.YtnplgklnkcjmnaaDoor
open Go.RowKit
set_option linter.unusedVariables false
set_option linter.unusedSimpArgs false


end Go.Proofs.YtnplgklnkcjmnaaDoor
namespace Go.Proofs.YtnplgklnkcjmnaaDoor
open Go.RowKit Go.Proofs.YtnplgklnkcjmnaaDoor.Am
set_option linter.unusedVariables false
set_option linter.unusedSimpArgs false

def ipick (c n : Int) : Int := (if c < 0 then -(c + 1) else c) % n
theorem ipick_bounds (c : Int) {n : Int} (hn : 0 < n) : 0 ≤ ipick c n ∧ ipick c n < n := ⟨Int.emod_nonneg _ (by omega), Int.emod_lt_of_pos _ hn⟩
theorem ipick_val (c n : Int) (hc : I64 c) : (if c < 0 then IntKind.i64.wrap (0 - IntKind.i64.wrap (c + 1)) else c).tmod n = ipick c n := by
  obtain ⟨c1, c2⟩ := hc
  have e : (if c < 0 then IntKind.i64.wrap (0 - IntKind.i64.wrap (c + 1)) else c) = if c < 0 then -(c + 1) else c := by
    split
    · rw [wrap64 (a := c + 1) (by omega) (by omega), wrap64 (by omega) (by omega)]; omega
    · rfl
  rw [e]; unfold ipick
  exact Int.tmod_eq_emod_of_nonneg (by split <;> omega)
/-! ### floats -/
/-! ### slices -/
set_option maxRecDepth 100000 in
theorem clone_pure (n : Nat) (xs : List Int) (hn : n ≤ 1000000) : Pure Tryd.prog glR 40 [.fl [.u64] n xs] (.ow 0 1 n) [(0, .fl [.u64] xs)] := by
  refine pure_wf fun hw => ?_
  obtain ⟨⟨w1, w2⟩, -⟩ := hw
  refine pure_of (C := ctx0 Tryd.prog) ctx0_good Tryd.func40 (c := bodyOf Tryd.f40) (by rfl) (Nat.le_of_ble_eq_true (by rfl)) 4 0 [0, 2, 4] ?_
  conv => whnf
  intro b hb
  cases b
  · conv => whnf
    repeat' (first | (refine ifB_t (by assumption) ?_; conv => whnf) | (refine ifB_f (by assumption) ?_; conv => whnf) | (refine ifB_dec (fun h => ?_) (fun h => ?_) <;> (first | (exfalso; omega) | (conv => whnf))) | (refine ifB_eq (fun h => ?_) (fun h => ?_) <;> (first | (exfalso; omega) | (conv => whnf))) | (refine ifB_ne (fun h => ?_) (fun h => ?_) <;> (first | (exfalso; omega) | (conv => whnf))) | (refine ifB_not ?_; conv => whnf) | (refine ifB_and ?_; conv => whnf) | (refine ifB_or ?_; conv => whnf) | (refine And.intro ?_ ?_; (first | omega | assumption | (exact allU_getD (by assumption) _) | (simp only [cutL]; omega) | (refine And.intro ?_ ?_ <;> first | assumption | exact allU_getD (by assumption) _) | (simp only [cutL, IntKind.wrap_u64, IntKind.wrap_i64] at *; omega) | decide); conv => whnf))
    repeat' (first | exact trivial | exact rfl | (refine And.intro ?_ ?_) | ((conv => whnf); done) | ((conv => whnf); (first | rfl | (refine congrArg (fun b => T.v (Value.bool b)) ?_; first | rfl | exact (decide_eq_true (by omega)).symm | exact (decide_eq_false (by omega)).symm | exact decide_eq_decide.2 (by omega)) | (refine congrArg (fun b => T.v (Value.int _ b)) ?_; first | rfl | omega) | omega)) | (first | rfl | (refine congrArg (fun b => T.v (Value.bool b)) ?_; first | rfl | exact (decide_eq_true (by omega)).symm | exact (decide_eq_false (by omega)).symm | exact decide_eq_decide.2 (by omega)) | (refine congrArg (fun b => T.v (Value.int _ b)) ?_; first | rfl | omega) | omega))
  · have := hb rfl
    subst this
    obtain rfl : xs = [] := List.eq_nil_of_length_eq_zero (by simpa using w1)
    conv => whnf
    repeat' (first | exact trivial | exact rfl | (refine And.intro ?_ ?_) | ((conv => whnf); done) | ((conv => whnf); (first | rfl | (refine congrArg (fun b => T.v (Value.bool b)) ?_; first | rfl | exact (decide_eq_true (by omega)).symm | exact (decide_eq_false (by omega)).symm | exact decide_eq_decide.2 (by omega)) | (refine congrArg (fun b => T.v (Value.int _ b)) ?_; first | rfl | omega) | omega)) | (first | rfl | (refine congrArg (fun b => T.v (Value.bool b)) ?_; first | rfl | exact (decide_eq_true (by omega)).symm | exact (decide_eq_false (by omega)).symm | exact decide_eq_decide.2 (by omega)) | (refine congrArg (fun b => T.v (Value.int _ b)) ?_; first | rfl | omega) | omega))
set_option maxRecDepth 100000 in
theorem equal_pure (n m : Nat) (xs ys : List Int) : Pure Tryd.prog glR 74 [.fl [.u64] n xs, .fl [.u64] m ys] (.v (.bool (decide (xs = ys)))) := by
  refine pure_wf fun hw => ?_
  obtain ⟨⟨w1, w2⟩, ⟨w3, w4⟩, -⟩ := hw
  simp only [List.length_cons, List.length_nil, Nat.zero_add, Nat.mul_one] at w1 w3
  refine pure_of (C := ctx0 Tryd.prog) ctx0_good Tryd.func74 (c := bodyOf Tryd.f74) (by rfl) (Nat.le_of_ble_eq_true (by rfl)) 4 0 [0, 1, 4, 5, 10, 12, 13, 14, 24] ?_
  conv => whnf
  repeat' (first | (refine ifB_t (by assumption) ?_; conv => whnf) | (refine ifB_f (by assumption) ?_; conv => whnf) | (refine ifB_dec (fun h => ?_) (fun h => ?_) <;> (first | (exfalso; omega) | (conv => whnf))) | (refine ifB_eq (fun h => ?_) (fun h => ?_) <;> (first | (exfalso; omega) | (conv => whnf))) | (refine ifB_ne (fun h => ?_) (fun h => ?_) <;> (first | (exfalso; omega) | (conv => whnf))) | (refine ifB_not ?_; conv => whnf) | (refine ifB_and ?_; conv => whnf) | (refine ifB_or ?_; conv => whnf) | (refine And.intro ?_ ?_; (first | omega | assumption | (exact allU_getD (by assumption) _) | (simp only [cutL]; omega) | (refine And.intro ?_ ?_ <;> first | assumption | exact allU_getD (by assumption) _) | (simp only [cutL, IntKind.wrap_u64, IntKind.wrap_i64] at *; omega) | decide); conv => whnf))
  · exact congrArg (fun b => T.v (Value.bool b)) (decide_eq_false (fun e => by subst e; omega)).symm
  · refine TW.loopD ctx0_good 0 (base := 0) (lv := [0, 1, 4, 5, 10, 12, 13, 14, 24]) [13] [] [] (fun j : Nat => [.v (.int .i64 j)]) (fun _ => []) (fun j => j ≤ n ∧ xs.take j = ys.take j) (fun j => n - j) ?_
    conv => whnf
    refine ⟨⟨0, ⟨rfl, rfl, rfl⟩, by omega, rfl⟩, fun j ⟨hj, ht⟩ => ?_⟩
    conv => whnf
    repeat' (first | (refine ifB_t (by assumption) ?_; conv => whnf) | (refine ifB_f (by assumption) ?_; conv => whnf) | (refine ifB_dec (fun h => ?_) (fun h => ?_) <;> (first | (exfalso; omega) | (conv => whnf))) | (refine ifB_eq (fun h => ?_) (fun h => ?_) <;> (first | (exfalso; omega) | (conv => whnf))) | (refine ifB_ne (fun h => ?_) (fun h => ?_) <;> (first | (exfalso; omega) | (conv => whnf))) | (refine ifB_not ?_; conv => whnf) | (refine ifB_and ?_; conv => whnf) | (refine ifB_or ?_; conv => whnf) | (refine And.intro ?_ ?_; (first | omega | assumption | (exact allU_getD (by assumption) _) | (simp only [cutL]; omega) | (refine And.intro ?_ ?_ <;> first | assumption | exact allU_getD (by assumption) _) | (simp only [cutL, IntKind.wrap_u64, IntKind.wrap_i64] at *; omega) | decide); conv => whnf))
    · simp only [Nat.zero_add, Nat.mul_one, Int.toNat_natCast] at h
      exact congrArg (fun b => T.v (Value.bool b)) (decide_eq_false (fun e => by subst e; exact h rfl)).symm
    · simp only [Nat.zero_add, Nat.mul_one, Int.toNat_natCast] at h
      rw [wsucc (n := n) (by omega) w2]
      exact ⟨j + 1, [], ⟨rfl, rfl, rfl⟩, ⟨by omega, take_same (by omega) (by omega) ht h⟩, by (try dsimp only); omega⟩
    · have e : j = n := by omega
      rw [e, List.take_of_length_le (by omega), List.take_of_length_le (by omega)] at ht
      exact congrArg (fun b => T.v (Value.bool b)) (decide_eq_true ht).symm
def eClone : Entry := ⟨40, 3, fun l => match l with | [.fl [.u64] n xs] => some (some (n ≤ 1000000), .ow 0 1 n, [(0, .fl [.u64] xs)]) | _ => none⟩
theorem eClone_ok : eClone.ok Tryd.prog glR := ⟨Am.enters_of Tryd.func40 (by kernel_rfl) (by kernel_rfl), by
  intro args c t bs h hc
  simp only [eClone] at h
  split at h <;> cases h
  replace hc := hc _ rfl
  exact clone_pure _ _ hc⟩
def eEqual : Entry := ⟨74, 3, fun l => match l with | [.fl [.u64] n xs, .fl [.u64] m ys] => some (none, .v (.bool (decide (xs = ys))), []) | _ => none⟩
theorem eEqual_ok : eEqual.ok Tryd.prog glR := ⟨Am.enters_of Tryd.func74 (by kernel_rfl) (by kernel_rfl), by
  intro args c t bs h hc
  simp only [eEqual] at h
  split at h <;> cases h
  exact equal_pure _ _ _ _⟩
set_option maxRecDepth 100000 in
theorem words_pure (n m : Nat) (xs ys : List Int) : Pure Tryd.prog glR 12 [.fl [.u64] n xs, .fl [.u64] m ys] (.v (.bool (decide (xs = ys)))) := by
  refine pure_wf fun hw => ?_
  obtain ⟨⟨w1, w2⟩, ⟨w3, w4⟩, -⟩ := hw
  simp only [List.length_cons, List.length_nil, Nat.zero_add, Nat.mul_one] at w1 w3
  refine pure_of (C := ctx0 Tryd.prog) ctx0_good Tryd.func12 (c := bodyOf Tryd.f12) (by rfl) (Nat.le_of_ble_eq_true (by rfl)) 4 0 [0, 1, 4, 5, 10, 14, 25] ?_
  conv => whnf
  repeat' (first | (refine ifB_t (by assumption) ?_; conv => whnf) | (refine ifB_f (by assumption) ?_; conv => whnf) | (refine ifB_dec (fun h => ?_) (fun h => ?_) <;> (first | (exfalso; omega) | (conv => whnf))) | (refine ifB_eq (fun h => ?_) (fun h => ?_) <;> (first | (exfalso; omega) | (conv => whnf))) | (refine ifB_ne (fun h => ?_) (fun h => ?_) <;> (first | (exfalso; omega) | (conv => whnf))) | (refine ifB_not ?_; conv => whnf) | (refine ifB_and ?_; conv => whnf) | (refine ifB_or ?_; conv => whnf) | (refine And.intro ?_ ?_; (first | omega | assumption | (exact allU_getD (by assumption) _) | (simp only [cutL]; omega) | (refine And.intro ?_ ?_ <;> first | assumption | exact allU_getD (by assumption) _) | (simp only [cutL, IntKind.wrap_u64, IntKind.wrap_i64] at *; omega) | decide); conv => whnf))
  · exact congrArg (fun b => T.v (Value.bool b)) (decide_eq_false (fun e => by subst e; omega)).symm
  · refine TW.loopD ctx0_good 0 (base := 0) (lv := [0, 1, 4, 5, 10, 14, 25]) [5] [] [] (fun j : Nat => [.v (.int .i64 j)]) (fun _ => []) (fun j => j ≤ n ∧ xs.take j = ys.take j) (fun j => n - j) ?_
    conv => whnf
    refine ⟨⟨0, ⟨rfl, rfl, rfl⟩, by omega, rfl⟩, fun j ⟨hj, ht⟩ => ?_⟩
    conv => whnf
    repeat' (first | (refine ifB_t (by assumption) ?_; conv => whnf) | (refine ifB_f (by assumption) ?_; conv => whnf) | (refine ifB_dec (fun h => ?_) (fun h => ?_) <;> (first | (exfalso; omega) | (conv => whnf))) | (refine ifB_eq (fun h => ?_) (fun h => ?_) <;> (first | (exfalso; omega) | (conv => whnf))) | (refine ifB_ne (fun h => ?_) (fun h => ?_) <;> (first | (exfalso; omega) | (conv => whnf))) | (refine ifB_not ?_; conv => whnf) | (refine ifB_and ?_; conv => whnf) | (refine ifB_or ?_; conv => whnf) | (refine And.intro ?_ ?_; (first | omega | assumption | (exact allU_getD (by assumption) _) | (simp only [cutL]; omega) | (refine And.intro ?_ ?_ <;> first | assumption | exact allU_getD (by assumption) _) | (simp only [cutL, IntKind.wrap_u64, IntKind.wrap_i64] at *; omega) | decide); conv => whnf))
    · simp only [Nat.zero_add, Nat.mul_one, Int.toNat_natCast] at h
      exact congrArg (fun b => T.v (Value.bool b)) (decide_eq_false (fun e => by subst e; exact h rfl)).symm
    · simp only [Nat.zero_add, Nat.mul_one, Int.toNat_natCast] at h
      rw [wsucc (n := n) (by omega) w2]
      exact ⟨j + 1, [], ⟨rfl, rfl, rfl⟩, ⟨by omega, take_same (by omega) (by omega) ht h⟩, by (try dsimp only); omega⟩
    · have e : j = n := by omega
      rw [e, List.take_of_length_le (by omega), List.take_of_length_le (by omega)] at ht
      exact congrArg (fun b => T.v (Value.bool b)) (decide_eq_true ht).symm
def eWords : Entry := ⟨12, 3, fun l => match l with | [.fl [.u64] n xs, .fl [.u64] m ys] => some (none, .v (.bool (decide (xs = ys))), []) | _ => none⟩
theorem eWords_ok : eWords.ok Tryd.prog glR := ⟨Am.enters_of Tryd.func12 (by kernel_rfl) (by kernel_rfl), by
  intro args c t bs h hc
  simp only [eWords] at h
  split at h <;> cases h
  exact words_pure _ _ _ _⟩
/-! ### what fits -/
def fitsB (k p n : Int) : Bool := decide (1 ≤ k ∧ k ≤ 5 ∧ 1 ≤ p ∧ p ≤ 16 ∧ 1 ≤ n ∧ n ≤ 256)
def homeI (k n : Int) : Int := if k = 1 then 1 else if k = 2 then 1 + 2 * n else if k = 3 then 1 + 4 * n else if k = 4 then 2 + 4 * n else 9 + n
set_option maxRecDepth 100000 in
theorem fits_pure (k p n : Int) : Pure Tryd.prog glR 38 [.agg [.v (.int .i64 k), .v (.int .i64 p), .v (.int .i64 n)]] (.v (.bool (fitsB k p n))) := by
  refine pure_of (C := ctx0 Tryd.prog) ctx0_good Tryd.func38 (c := bodyOf Tryd.f38) (by rfl) (Nat.le_of_ble_eq_true (by rfl)) 4 0 [0, 1, 2] ?_
  conv => whnf
  repeat' (first | (refine ifB_t (by assumption) ?_; conv => whnf) | (refine ifB_f (by assumption) ?_; conv => whnf) | (refine ifB_dec (fun h => ?_) (fun h => ?_) <;> (first | (exfalso; omega) | (conv => whnf))) | (refine ifB_eq (fun h => ?_) (fun h => ?_) <;> (first | (exfalso; omega) | (conv => whnf))) | (refine ifB_ne (fun h => ?_) (fun h => ?_) <;> (first | (exfalso; omega) | (conv => whnf))) | (refine ifB_not ?_; conv => whnf) | (refine ifB_and ?_; conv => whnf) | (refine ifB_or ?_; conv => whnf) | (refine And.intro ?_ ?_; (first | omega | assumption | (exact allU_getD (by assumption) _) | (simp only [cutL]; omega) | (refine And.intro ?_ ?_ <;> first | assumption | exact allU_getD (by assumption) _) | (simp only [cutL, IntKind.wrap_u64, IntKind.wrap_i64] at *; omega) | decide); conv => whnf))
  all_goals (first | rfl | (refine congrArg (fun b => T.v (Value.bool b)) ?_; first | rfl | exact (decide_eq_true (by omega)).symm | exact (decide_eq_false (by omega)).symm | exact decide_eq_decide.2 (by omega)) | (refine congrArg (fun b => T.v (Value.int _ b)) ?_; first | rfl | omega) | omega)
def eFits : Entry := ⟨38, 3, fun l => match l with | [.agg [.v (.int .i64 k), .v (.int .i64 p), .v (.int .i64 n)]] => some (none, .v (.bool (fitsB k p n)), []) | _ => none⟩
theorem eFits_ok : eFits.ok Tryd.prog glR := ⟨Am.enters_of Tryd.func38 (by kernel_rfl) (by kernel_rfl), by
  intro args c t bs h hc
  simp only [eFits] at h
  split at h <;> cases h
  exact fits_pure _ _ _⟩
def ctxHomeP (P : Program) : Ctx := ctx P glR [eFits] [] (noEq P) [] (fun _ h => by cases h)
theorem ctxHomeP_good : (ctxHomeP Tryd.prog).good := ctx_good (by kernel_rfl) (AllOk.mem ⟨eFits_ok, trivial⟩) glR_two
set_option maxRecDepth 100000 in
theorem home_pure (k p n : Int) (hf : fitsB k p n = true) : Pure Tryd.prog glR 29 [.agg [.v (.int .i64 k), .v (.int .i64 p), .v (.int .i64 n)]] (.v (.int .i64 (homeI k n))) := by
  have hf' := of_decide_eq_true hf
  refine pure_of (C := ctxHomeP Tryd.prog) ctxHomeP_good Tryd.func29 (c := bodyOf Tryd.f29) (by rfl) (Nat.le_of_ble_eq_true (by rfl)) 4 0 [0, 1, 2, 3, 6] ?_
  conv => whnf
  refine ifB_not (ifB_mk (fun _ => ?_) (fun h => by rw [hf] at h; cases h))
  conv => whnf
  obtain ⟨h1, h2, h3, h4, h5, h6⟩ := hf'
  have : k = 1 ∨ k = 2 ∨ k = 3 ∨ k = 4 ∨ k = 5 := by omega
  rcases this with rfl | rfl | rfl | rfl | rfl <;> repeat' (first | (refine ifB_t (by assumption) ?_; conv => whnf) | (refine ifB_f (by assumption) ?_; conv => whnf) | (refine ifB_dec (fun h => ?_) (fun h => ?_) <;> (first | (exfalso; omega) | (conv => whnf))) | (refine ifB_eq (fun h => ?_) (fun h => ?_) <;> (first | (exfalso; omega) | (conv => whnf))) | (refine ifB_ne (fun h => ?_) (fun h => ?_) <;> (first | (exfalso; omega) | (conv => whnf))) | (refine ifB_not ?_; conv => whnf) | (refine ifB_and ?_; conv => whnf) | (refine ifB_or ?_; conv => whnf) | (refine And.intro ?_ ?_; (first | omega | assumption | (exact allU_getD (by assumption) _) | (simp only [cutL]; omega) | (refine And.intro ?_ ?_ <;> first | assumption | exact allU_getD (by assumption) _) | (simp only [cutL, IntKind.wrap_u64, IntKind.wrap_i64] at *; omega) | decide); conv => whnf))
  all_goals (refine congrArg (fun b => T.v (Value.int _ b)) ?_; simp [objX, homeI, idxN, IntKind.wrap_i64] <;> omega)
def eHome : Entry := ⟨29, 3, fun l => match l with | [.agg [.v (.int .i64 k), .v (.int .i64 p), .v (.int .i64 n)]] => some (some (fitsB k p n = true), .v (.int .i64 (homeI k n)), []) | _ => none⟩
theorem eHome_ok : eHome.ok Tryd.prog glR := ⟨Am.enters_of Tryd.func29 (by kernel_rfl) (by kernel_rfl), by
  intro args c t bs h hc
  simp only [eHome] at h
  split at h <;> cases h
  replace hc := hc _ rfl
  exact home_pure _ _ _ hc⟩
end Go.Proofs.YtnplgklnkcjmnaaDoor
namespace Go.Proofs.YtnplgklnkcjmnaaDoor
open Go.RowKit Go.Proofs.YtnplgklnkcjmnaaDoor.Am
set_option linter.unusedVariables false
set_option linter.unusedSimpArgs false

def bitI (b : Bool) : Int := if b then 1 else 0
end Go.Proofs.YtnplgklnkcjmnaaDoor
namespace Go.Proofs.YtnplgklnkcjmnaaDoor
open Go.RowKit Go.Proofs.YtnplgklnkcjmnaaDoor.Am
set_option linter.unusedVariables false
set_option linter.unusedSimpArgs false

def valB (k : Int) : Bool := decide (k = 3 ∨ k = 4)
def lssK (k a b : Int) : Bool := if k = 4 then bLess a b else decide (a < b)
def mntV (k x : Int) : Int := if k = 4 then iCanon x else x
def mntB (k x : Int) : Bool := if k = 4 then true else decide (x ≤ 4611686018427387904)
/-- Are so many keys right? -/
def okKs (k : Int) (ks : List Int) : Nat → Bool
  | 0 => true
  | i + 1 => okKs k ks i && (mntB k (ks.getD i 0) && (decide (mntV k (ks.getD i 0) = ks.getD i 0) && (decide (i = 0) || lssK k (ks.getD (i - 1) 0) (ks.getD i 0))))
def keysOk (k n : Int) (ks vs : List Int) : Bool := decide ((ks.length : Int) ≤ n) && ((if valB k = true then decide (vs.length = ks.length) else decide (vs.length = 0)) && okKs k ks ks.length)
attribute [local irreducible] lssK mntV mntB valB
end Go.Proofs.YtnplgklnkcjmnaaDoor
namespace Go.Proofs.YtnplgklnkcjmnaaDoor
open Go.RowKit Go.Proofs.YtnplgklnkcjmnaaDoor.Am
set_option linter.unusedVariables false
set_option linter.unusedSimpArgs false

/-- A list with one more at a place, without that at a place. -/
def insK (ks : List Int) (a : Nat) (w : Int) : List Int := ks.take a ++ w :: ks.drop a
def delK (ks : List Int) (a : Nat) : List Int := ks.take a ++ ks.drop (a + 1)
/-- Is a state of a Set, a Dict or an Order right? -/
def rightT (k p n r : Int) (ks vs ws : List Int) (c : Bool) : Bool := fitsB k p n && (decide (r = 0) && (decide (ws.length = 0) && (!c && keysOk k n ks vs)))
attribute [local irreducible] fitsB keysOk
end Go.Proofs.YtnplgklnkcjmnaaDoor
namespace Go.Proofs.YtnplgklnkcjmnaaDoor
open Go.RowKit Go.Proofs.YtnplgklnkcjmnaaDoor.Am
set_option linter.unusedVariables false
set_option linter.unusedSimpArgs false

/-- Where a key is, or would be; is it there? -/
def atK (k : Int) (ks : List Int) (x : Int) : Nat := ks.findIdx fun y => !lssK k y x
def hereK (k : Int) (ks : List Int) (x : Int) : Bool := decide (atK k ks x < ks.length ∧ ks.getD (atK k ks x) 0 = x)
theorem atK_le (k : Int) (ks : List Int) (x : Int) : atK k ks x ≤ ks.length := List.findIdx_le_length
theorem atK_is {k : Int} {ks : List Int} {x : Int} {j : Nat} (hj : j ≤ ks.length) (h1 : ∀ i, i < j → lssK k (ks.getD i 0) x = true) (h2 : j < ks.length → lssK k (ks.getD j 0) x = false) : atK k ks x = j := by
  have hg : ∀ i (h : i < ks.length), ks[i] = ks.getD i 0 := fun i h => by rw [List.getD_eq_getElem?_getD, List.getElem?_eq_getElem h]; rfl
  rcases Nat.lt_trichotomy (atK k ks x) j with h | h | h
  · have hl : atK k ks x < ks.length := by omega
    have h3 := List.findIdx_getElem (xs := ks) (p := fun y => !lssK k y x) (w := hl)
    have h4 := h1 _ h
    have h5 : (!lssK k (ks[atK k ks x]'hl) x) = true := h3
    rw [hg, h4] at h5; cases h5
  · exact h
  · have h3 := List.not_of_lt_findIdx (xs := ks) (p := fun y => !lssK k y x) h
    have hl := atK_le k ks x
    have h4 : (!lssK k (ks[j]'(by omega)) x) = false := by simpa using h3
    rw [hg, h2 (by omega)] at h4; cases h4
/-- Where Next looks. -/
def nxK (k : Int) (ks : List Int) (x v : Int) : Nat := if hereK k ks x = true ∧ v ≠ 0 then atK k ks x + 1 else atK k ks x
/-- What a call makes of keys and values, and tells: of a key that is meant. -/
def plcD (k n : Int) (ks vs : List Int) (code x v : Int) : List Int × List Int × Int × Int :=
  if code = 7 then
    if hereK k ks x = true then (delK ks (atK k ks x), (if valB k = true then delK vs (atK k ks x) else vs), 0, if valB k = true then vs.getD (atK k ks x) 0 else 0) else (ks, vs, 12, 0)
  else if code = 8 then
    if nxK k ks x v = ks.length then (ks, vs, 12, 0) else (ks, vs, 0, ks.getD (nxK k ks x v) 0)
  else if code = 5 ∧ valB k = false then (ks, vs, 0, bitI (hereK k ks x))
  else if code = 10 ∧ valB k = true then
    if hereK k ks x = true then (ks, vs, 0, vs.getD (atK k ks x) 0) else (ks, vs, 12, 0)
  else if code = 6 ∧ valB k = false then
    if hereK k ks x = true then (ks, vs, 0, 0)
    else if (ks.length : Int) = n then (ks, vs, 11, 0)
    else (insK ks (atK k ks x) x, vs, 0, 1)
  else if code = 11 ∧ valB k = true then
    if hereK k ks x = true then (ks, vs.set (atK k ks x) v, 0, vs.getD (atK k ks x) 0)
    else if (ks.length : Int) = n then (ks, vs, 11, 0)
    else (insK ks (atK k ks x) x, insK vs (atK k ks x) v, 0, 0)
  else (ks, vs, 10, 0)
section
variable {k n : Int} {ks vs : List Int} {code x v : Int}
theorem plcTT (hv : valB k = true) (hh : hereK k ks x = true) : plcD k n ks vs code x v = if code = 7 then (delK ks (atK k ks x), delK vs (atK k ks x), 0, vs.getD (atK k ks x) 0) else if code = 8 then (if nxK k ks x v = ks.length then (ks, vs, 12, 0) else (ks, vs, 0, ks.getD (nxK k ks x v) 0))
    else if code = 10 then (ks, vs, 0, vs.getD (atK k ks x) 0) else if code = 11 then (ks, vs.set (atK k ks x) v, 0, vs.getD (atK k ks x) 0) else (ks, vs, 10, 0) := by simp [plcD, hv, hh]
theorem plcTF (hv : valB k = true) (hh : hereK k ks x = false) : plcD k n ks vs code x v = if code = 7 then (ks, vs, 12, 0) else if code = 8 then (if nxK k ks x v = ks.length then (ks, vs, 12, 0) else (ks, vs, 0, ks.getD (nxK k ks x v) 0))
    else if code = 10 then (ks, vs, 12, 0) else if code = 11 then (if (ks.length : Int) = n then (ks, vs, 11, 0) else (insK ks (atK k ks x) x, insK vs (atK k ks x) v, 0, 0)) else (ks, vs, 10, 0) := by simp [plcD, hv, hh]
theorem plcFT (hv : valB k = false) (hh : hereK k ks x = true) : plcD k n ks vs code x v = if code = 7 then (delK ks (atK k ks x), vs, 0, 0) else if code = 8 then (if nxK k ks x v = ks.length then (ks, vs, 12, 0) else (ks, vs, 0, ks.getD (nxK k ks x v) 0))
    else if code = 5 then (ks, vs, 0, 1) else if code = 6 then (ks, vs, 0, 0) else (ks, vs, 10, 0) := by simp [plcD, hv, hh, bitI]
theorem plcFF (hv : valB k = false) (hh : hereK k ks x = false) : plcD k n ks vs code x v = if code = 7 then (ks, vs, 12, 0) else if code = 8 then (if nxK k ks x v = ks.length then (ks, vs, 12, 0) else (ks, vs, 0, ks.getD (nxK k ks x v) 0))
    else if code = 5 then (ks, vs, 0, 0) else if code = 6 then (if (ks.length : Int) = n then (ks, vs, 11, 0) else (insK ks (atK k ks x) x, vs, 0, 1)) else (ks, vs, 10, 0) := by simp [plcD, hv, hh, bitI]
theorem delK_len {l : List Int} {a : Nat} (h : a < l.length) : (delK l a).length = l.length - 1 := by simp [delK]; omega
theorem insK_len {l : List Int} {a : Nat} {w : Int} (h : a ≤ l.length) : (insK l a w).length = l.length + 1 := by simp [insK]; omega
end
def tabD (k n : Int) (ks vs : List Int) (code key v : Int) : List Int × List Int × Int × Int :=
  if code = 9 then (ks, vs, 0, (ks.length : Int))
  else if mntB k key = false then (ks, vs, 10, 0)
  else plcD k n ks vs code (mntV k key) v
/-- A state that is right, of what has keys. -/
structure TabH (k p n : Int) (n1 : Nat) (ks : List Int) (n2 : Nat) (vs : List Int) : Prop where
  kd : k = 2 ∨ k = 3 ∨ k = 4
  fits : fitsB k p n = true
  right : rightT k p n 0 ks vs [] false = true
  l1 : ks.length = n1
  l2 : vs.length = n2
  ln : n1 ≤ 256 ∧ (n1 : Int) ≤ n
  u1 : AllU ks
  u2 : AllU vs
  v : n2 = if valB k = true then n1 else 0
attribute [local irreducible] fitsB rightT lssK mntV mntB valB atK hereK nxK plcD delK insK
end Go.Proofs.YtnplgklnkcjmnaaDoor
namespace Go.Proofs.YtnplgklnkcjmnaaDoor
open Go.RowKit Go.Proofs.YtnplgklnkcjmnaaDoor.Am
set_option linter.unusedVariables false
set_option linter.unusedSimpArgs false

/-- By what keys are put in order. -/
def rkK (k x : Int) : Int := if k = 4 then iRank x else x
theorem lssK_rk (k a b : Int) : lssK k a b = decide (rkK k a < rkK k b) := by unfold lssK rkK bLess; split <;> rfl
theorem mntV2 (k x : Int) : mntV k (mntV k x) = mntV k x := by unfold mntV; split; exact p_canon2 x; rfl
theorem rkK_inj {k a b : Int} (ha : U64 a) (hb : U64 b) (ca : mntV k a = a) (cb : mntV k b = b) (h : rkK k a = rkK k b) : a = b := by
  unfold rkK at h; unfold mntV at ca cb
  split at h
  · rename_i e
    rw [if_pos e] at ca cb
    rw [← ca, ← cb]; exact (p_rank_inj ha hb).1 h
  · exact h
theorem mntB_mnt {k x : Int} (h : mntB k x = true) : mntB k (mntV k x) = true := by
  unfold mntB mntV at *
  split
  · rfl
  · rename_i e; rw [if_neg e] at h; exact h
theorem u64_mnt {k x : Int} (h : U64 x) : U64 (mntV k x) := by unfold mntV; split; exact u64_canon h; exact h
/-- Keys and values that are right. -/
structure TabV (k : Int) (m : Nat) (ks vs : List Int) : Prop where
  len : ks.length ≤ m
  vlen : vs.length = if valB k = true then ks.length else 0
  u1 : AllU ks
  u2 : AllU vs
  mn : ∀ i, i < ks.length → mntB k (ks.getD i 0) = true ∧ mntV k (ks.getD i 0) = ks.getD i 0
  inc : ∀ i, i + 1 < ks.length → rkK k (ks.getD i 0) < rkK k (ks.getD (i + 1) 0)
section
variable {k : Int} {m : Nat} {ks vs : List Int}
theorem TabV.lt (h : TabV k m ks vs) {i j : Nat} (hij : i < j) (hj : j < ks.length) : rkK k (ks.getD i 0) < rkK k (ks.getD j 0) := by
  induction j with
  | zero => omega
  | succ j ih =>
    have h1 := h.inc j hj
    by_cases e : i = j
    · subst e; exact h1
    · have := ih (by omega) (by omega); omega
theorem okKs_of (h : TabV k m ks vs) : ∀ n, n ≤ ks.length → okKs k ks n = true
  | 0, _ => rfl
  | n + 1, hn => by
    simp only [okKs, okKs_of h n (by omega), (h.mn n (by omega)).1, (h.mn n (by omega)).2, decide_true, Bool.true_and]
    by_cases e : n = 0
    · simp [e]
    · rw [decide_eq_false e, Bool.false_or, lssK_rk]
      have := h.inc (n - 1) (by omega)
      rw [show n - 1 + 1 = n by omega] at this
      exact decide_eq_true this
theorem TabV.right (h : TabV k m ks vs) {p : Int} (hf : fitsB k p m = true) : rightT k p m 0 ks vs [] false = true := by
  have hl := h.len
  unfold rightT keysOk
  rw [hf, okKs_of h _ (Nat.le_refl _), decide_eq_true (show (ks.length : Int) ≤ m by omega)]
  have := h.vlen
  cases hv : valB k
  · rw [hv] at this; simp at this; simp [this]
  · rw [hv] at this; simp at this; simp [this]
theorem insK_at {l : List Int} {a : Nat} {w : Int} (h : a ≤ l.length) (i : Nat) : (insK l a w).getD i 0 = if i < a then l.getD i 0 else if i = a then w else l.getD (i - 1) 0 := by
  unfold insK
  rw [List.getD_eq_getElem?_getD]
  by_cases h1 : i < a
  · rw [if_pos h1, List.getElem?_append_left (by simp; omega), List.getElem?_take_of_lt h1, ← List.getD_eq_getElem?_getD]
  · rw [if_neg h1, List.getElem?_append_right (by simp; omega), List.length_take, Nat.min_eq_left h]
    by_cases h2 : i = a
    · rw [if_pos h2, h2, Nat.sub_self]; rfl
    · rw [if_neg h2, show i - a = (i - 1 - a) + 1 by omega, List.getElem?_cons_succ, List.getElem?_drop, show a + (i - 1 - a) = i - 1 by omega, ← List.getD_eq_getElem?_getD]
theorem delK_at {l : List Int} {a : Nat} (h : a < l.length) (i : Nat) : (delK l a).getD i 0 = if i < a then l.getD i 0 else l.getD (i + 1) 0 := by
  unfold delK
  rw [List.getD_eq_getElem?_getD]
  by_cases h1 : i < a
  · rw [if_pos h1, List.getElem?_append_left (by simp; omega), List.getElem?_take_of_lt h1, ← List.getD_eq_getElem?_getD]
  · rw [if_neg h1, List.getElem?_append_right (by simp; omega), List.length_take, Nat.min_eq_left (by omega), List.getElem?_drop, show a + 1 + (i - a) = i + 1 by omega, ← List.getD_eq_getElem?_getD]
theorem allU_insK {l : List Int} {a : Nat} {w : Int} (h : AllU l) (hw : U64 w) : AllU (insK l a w) := by
  intro x hx
  unfold insK at hx
  rcases List.mem_append.1 hx with hx | hx
  · exact h x (List.mem_of_mem_take hx)
  · rcases List.mem_cons.1 hx with rfl | hx
    · exact hw
    · exact h x (List.mem_of_mem_drop hx)
theorem allU_delK {l : List Int} {a : Nat} (h : AllU l) : AllU (delK l a) := by
  intro x hx
  unfold delK at hx
  rcases List.mem_append.1 hx with hx | hx
  · exact h x (List.mem_of_mem_take hx)
  · exact h x (List.mem_of_mem_drop hx)
theorem atK_lo {x : Int} {i : Nat} (h : i < atK k ks x) : rkK k (ks.getD i 0) < rkK k x := by
  have h3 := List.not_of_lt_findIdx (xs := ks) (p := fun y => !lssK k y x) h
  have hl := atK_le k ks x
  have hg : ks[i]'(by omega) = ks.getD i 0 := by rw [List.getD_eq_getElem?_getD, List.getElem?_eq_getElem (by omega)]; rfl
  have h4 : (!lssK k (ks[i]'(by omega)) x) = false := by simpa using h3
  rw [hg, lssK_rk] at h4
  simpa using h4
theorem atK_hi (h : TabV k m ks vs) {x : Int} {i : Nat} (h1 : atK k ks x ≤ i) (h2 : i < ks.length) : rkK k x ≤ rkK k (ks.getD i 0) := by
  have hl : atK k ks x < ks.length := by omega
  have h3 := List.findIdx_getElem (xs := ks) (p := fun y => !lssK k y x) (w := hl)
  have h5 : (!lssK k (ks[atK k ks x]'hl) x) = true := h3
  have hg : ks[atK k ks x]'hl = ks.getD (atK k ks x) 0 := by rw [List.getD_eq_getElem?_getD, List.getElem?_eq_getElem hl]; rfl
  rw [hg, lssK_rk] at h5
  have h6 : ¬ rkK k (ks.getD (atK k ks x) 0) < rkK k x := by simpa using h5
  by_cases e : atK k ks x = i
  · rw [e] at h6; omega
  · have := h.lt (i := atK k ks x) (j := i) (by omega) h2; omega
theorem atK_gt (h : TabV k m ks vs) {x : Int} (hx : U64 x) (cx : mntV k x = x) (hno : hereK k ks x = false) {i : Nat} (h1 : atK k ks x ≤ i) (h2 : i < ks.length) : rkK k x < rkK k (ks.getD i 0) := by
  have h3 := atK_hi h h1 h2
  have hl : atK k ks x < ks.length := by omega
  have h4 := atK_hi h (Nat.le_refl (atK k ks x)) hl
  have h5 : rkK k x ≠ rkK k (ks.getD (atK k ks x) 0) := fun e => by
    have := rkK_inj (k := k) hx (allU_getD h.u1 _) cx (h.mn _ hl).2 e
    unfold hereK at hno
    exact of_decide_eq_false hno ⟨hl, this.symm⟩
  by_cases e : atK k ks x = i
  · rw [e] at h5 h4; omega
  · have := h.lt (i := atK k ks x) (j := i) (by omega) h2; omega
theorem hereK_t {x : Int} (h : hereK k ks x = true) : atK k ks x < ks.length ∧ ks.getD (atK k ks x) 0 = x := by unfold hereK at h; exact of_decide_eq_true h
theorem TabV.ins (h : TabV k m ks vs) {x : Int} (hx : U64 x) (bx : mntB k x = true) (cx : mntV k x = x) (hno : hereK k ks x = false) (hm : ks.length < m) {vs' : List Int} (hv : vs'.length = if valB k = true then ks.length + 1 else 0) (hu : AllU vs') : TabV k m (insK ks (atK k ks x) x) vs' := by
  have ha := atK_le k ks x
  refine ⟨by rw [insK_len ha]; omega, by rw [insK_len ha]; exact hv, allU_insK h.u1 hx, hu, fun i hi => ?_, fun i hi => ?_⟩
  · rw [insK_len ha] at hi
    rw [insK_at ha]
    split
    · exact h.mn i (by omega)
    · split
      · exact ⟨bx, cx⟩
      · exact h.mn (i - 1) (by omega)
  · rw [insK_len ha] at hi
    rw [insK_at ha, insK_at ha]
    by_cases c1 : i + 1 < atK k ks x
    · rw [if_pos (by omega), if_pos c1]; exact h.inc i (by omega)
    · by_cases c2 : i + 1 = atK k ks x
      · rw [if_pos (by omega), if_neg (by omega), if_pos c2]; exact atK_lo (by omega)
      · by_cases c3 : i = atK k ks x
        · rw [if_neg (by omega), if_pos c3, if_neg (by omega), if_neg (by omega), Nat.add_sub_cancel]; exact atK_gt h hx cx hno (by omega) (by omega)
        · rw [if_neg (by omega), if_neg c3, if_neg (by omega), if_neg (by omega), Nat.add_sub_cancel]
          have := h.inc (i - 1) (by omega)
          rwa [show i - 1 + 1 = i by omega] at this
theorem TabV.del (h : TabV k m ks vs) {a : Nat} (ha : a < ks.length) {vs' : List Int} (hv : vs'.length = if valB k = true then ks.length - 1 else 0) (hu : AllU vs') : TabV k m (delK ks a) vs' := by
  have hl := h.len
  refine ⟨by rw [delK_len ha]; omega, by rw [delK_len ha]; exact hv, allU_delK h.u1, hu, fun i hi => ?_, fun i hi => ?_⟩
  · rw [delK_len ha] at hi
    rw [delK_at ha]
    split
    · exact h.mn i (by omega)
    · exact h.mn (i + 1) (by omega)
  · rw [delK_len ha] at hi
    rw [delK_at ha, delK_at ha]
    by_cases c1 : i + 1 < a
    · rw [if_pos (by omega), if_pos c1]; exact h.inc i (by omega)
    · by_cases c2 : i < a
      · rw [if_pos c2, if_neg (by omega)]; exact h.lt (by omega) (by omega)
      · rw [if_neg c2, if_neg (by omega)]; exact h.inc (i + 1) (by omega)
theorem plcD_v (h : TabV k m ks vs) {x v code : Int} (hx : U64 x) (hv : U64 v) (bx : mntB k x = true) (cx : mntV k x = x) : TabV k m (plcD k m ks vs code x v).1 (plcD k m ks vs code x v).2.1 := by
  have hl := h.len
  have hvl := h.vlen
  have ha := atK_le k ks x
  cases hb : valB k <;> cases hh : hereK k ks x <;> rw [hb] at hvl <;> simp only [if_true, Bool.false_eq_true, if_false] at hvl
  · rw [plcFF hb hh]
    repeat' split
    all_goals first | exact h | skip
    rename_i hne
    exact h.ins hx bx cx hh (by omega) (by rw [hb]; simpa using hvl) h.u2
  · rw [plcFT hb hh]
    repeat' split
    all_goals first | exact h | exact h.del (hereK_t hh).1 (by rw [hb]; simpa using hvl) h.u2
  · rw [plcTF hb hh]
    repeat' split
    all_goals first | exact h | skip
    rename_i hne
    exact h.ins hx bx cx hh (by omega) (by rw [hb, insK_len (by omega)]; simp; omega) (allU_insK h.u2 hv)
  · have hat := (hereK_t hh).1
    rw [plcTT hb hh]
    repeat' split
    all_goals first | exact h | exact h.del hat (by rw [hb, delK_len (by omega)]; simp; omega) (allU_delK h.u2) | exact ⟨h.len, by rw [List.length_set, hb]; simpa using hvl, h.u1, allU_set h.u2 _ hv, h.mn, h.inc⟩
theorem tabD_v (h : TabV k m ks vs) {key v code : Int} (hk : U64 key) (hv : U64 v) : TabV k m (tabD k m ks vs code key v).1 (tabD k m ks vs code key v).2.1 := by
  unfold tabD
  split
  · exact h
  · split
    · exact h
    · rename_i hb
      exact plcD_v h (u64_mnt hk) hv (mntB_mnt (by simpa using hb)) (mntV2 _ _)
end
theorem tabV_nil (k : Int) (m : Nat) : TabV k m [] [] := ⟨Nat.zero_le _, by split <;> rfl, (fun x hx => by cases hx), (fun x hx => by cases hx), (fun i hi => by cases hi), fun i hi => by cases hi⟩
theorem fitsK {k p m : Int} (h : fitsB k p m = true) : 1 ≤ k ∧ k ≤ 5 ∧ 1 ≤ p ∧ p ≤ 16 ∧ 1 ≤ m ∧ m ≤ 256 := by unfold fitsB at h; exact of_decide_eq_true h
end Go.Proofs.YtnplgklnkcjmnaaDoor
namespace Go.Proofs.YtnplgklnkcjmnaaDoor.PrT
open Go.RowKit Go.Proofs.YtnplgklnkcjmnaaDoor.Am Go.Proofs.YtnplgklnkcjmnaaDoor
set_option linter.unusedVariables false
set_option linter.unusedSimpArgs false
/-- The records of keys and values. -/
def rsK (v : Nat) (ks vs : List Int) : List R := (List.range ks.length).map fun i => (ks.getD i 0 + 1, if v = 1 then 0 else vs.getD i 0)
theorem rsK_len (v : Nat) (ks vs : List Int) : (rsK v ks vs).length = ks.length := by simp [rsK]
theorem rsK_get (v : Nat) (ks vs : List Int) {i : Nat} (h : i < ks.length) : gR (rsK v ks vs) i = (ks.getD i 0 + 1, if v = 1 then 0 else vs.getD i 0) := by
  unfold gR rsK; rw [List.getD_eq_getElem?_getD, List.getElem?_map, List.getElem?_range h]; rfl
theorem rsK_mem (v : Nat) (ks vs : List Int) (x : R) : x ∈ rsK v ks vs ↔ ∃ i, i < ks.length ∧ x = (ks.getD i 0 + 1, if v = 1 then 0 else vs.getD i 0) := by
  unfold rsK
  rw [List.mem_map]
  constructor
  · rintro ⟨i, h, rfl⟩; exact ⟨i, List.mem_range.1 h, rfl⟩
  · rintro ⟨i, h, rfl⟩; exact ⟨i, List.mem_range.2 h, rfl⟩
/-- Which kinds have which slots. -/
def KV (v : Nat) (k : Int) : Prop := (v = 1 ∧ k = 2) ∨ (v = 2 ∧ k = 3)
theorem KV.v {v : Nat} {k : Int} (h : KV v k) : v = 1 ∨ v = 2 := by rcases h with ⟨h, -⟩ | ⟨h, -⟩ <;> omega
theorem KV.n4 {v : Nat} {k : Int} (h : KV v k) : k ≠ 4 := by rcases h with ⟨-, h⟩ | ⟨-, h⟩ <;> omega
theorem KV.val {v : Nat} {k : Int} (h : KV v k) : valB k = decide (v = 2) := by rcases h with ⟨rfl, rfl⟩ | ⟨rfl, rfl⟩ <;> rfl
theorem KV.rk {v : Nat} {k : Int} (h : KV v k) (x : Int) : rkK k x = x := by unfold rkK; rw [if_neg h.n4]
theorem KV.mv {v : Nat} {k : Int} (h : KV v k) (x : Int) : mntV k x = x := by unfold mntV; rw [if_neg h.n4]
theorem KV.mb {v : Nat} {k : Int} (h : KV v k) (x : Int) : mntB k x = decide (x ≤ 4611686018427387904) := by unfold mntB; rw [if_neg h.n4]
theorem KV.kd {v : Nat} {k : Int} (h : KV v k) : k = 2 ∨ k = 3 ∨ k = 4 := by rcases h with ⟨-, h⟩ | ⟨-, h⟩ <;> omega
section
variable {v m : Nat} {k : Int} {ks vs : List Int}
theorem _root_.Go.Proofs.YtnplgklnkcjmnaaDoor.TabV.k_u (h : TabV k m ks vs) (hk : KV v k) {i : Nat} (hi : i < ks.length) : 0 ≤ ks.getD i 0 ∧ ks.getD i 0 ≤ 4611686018427387904 := by
  have h1 := (h.mn i hi).1
  rw [hk.mb] at h1
  exact ⟨(h.u1.at hi).1, of_decide_eq_true h1⟩
theorem _root_.Go.Proofs.YtnplgklnkcjmnaaDoor.TabV.k_lt (h : TabV k m ks vs) (hk : KV v k) {i j : Nat} (hij : i < j) (hj : j < ks.length) : ks.getD i 0 < ks.getD j 0 := by
  have := h.lt hij hj
  rwa [hk.rk, hk.rk] at this
theorem _root_.Go.Proofs.YtnplgklnkcjmnaaDoor.TabV.k_inj (h : TabV k m ks vs) (hk : KV v k) {i j : Nat} (hi : i < ks.length) (hj : j < ks.length) (e : ks.getD i 0 = ks.getD j 0) : i = j := by
  rcases Nat.lt_trichotomy i j with q | q | q
  · have := h.k_lt hk q hj; omega
  · exact q
  · have := h.k_lt hk q hi; omega
theorem _root_.Go.Proofs.YtnplgklnkcjmnaaDoor.TabV.sorted (h : TabV k m ks vs) (hk : KV v k) : (rsK v ks vs).Pairwise fun a b => a.1 < b.1 := by
  rw [List.pairwise_iff_getElem]
  intro i j hi hj hij
  rw [rsK_len] at hi hj
  have e : ∀ q (hq : q < (rsK v ks vs).length), (rsK v ks vs)[q] = gR (rsK v ks vs) q := fun q hq => by
    unfold gR; rw [List.getD_eq_getElem?_getD, List.getElem?_eq_getElem hq]; rfl
  rw [e, e, rsK_get v ks vs hi, rsK_get v ks vs hj]
  have := h.k_lt hk hij hj
  dsimp only; omega
theorem _root_.Go.Proofs.YtnplgklnkcjmnaaDoor.TabV.recs (h : TabV k m ks vs) (hk : KV v k) : Recs sP (rsK v ks vs) := by
  refine ⟨fun r hr => ?_, fun r hr => ?_, (h.sorted hk).imp fun h => by omega⟩
  · obtain ⟨i, hi, rfl⟩ := (rsK_mem _ _ _ _).1 hr
    have := h.k_u hk hi
    rw [sP_U]; unfold U64; dsimp only; omega
  · obtain ⟨i, hi, rfl⟩ := (rsK_mem _ _ _ _).1 hr
    have := h.k_u hk hi
    dsimp only; omega
theorem _root_.Go.Proofs.YtnplgklnkcjmnaaDoor.TabV.nv (h : TabV k m ks vs) : v = 1 → ∀ r ∈ rsK v ks vs, r.2 = 0 := by
  rintro rfl r hr
  obtain ⟨i, hi, rfl⟩ := (rsK_mem _ _ _ _).1 hr
  rfl
theorem _root_.Go.Proofs.YtnplgklnkcjmnaaDoor.TabV.vu (h : TabV k m ks vs) : ∀ r ∈ rsK v ks vs, U64 r.2 := by
  intro r hr
  obtain ⟨i, hi, rfl⟩ := (rsK_mem _ _ _ _).1 hr
  dsimp only
  split
  · exact ⟨by decide, by decide⟩
  · exact allU_getD h.u2 _
theorem _root_.Go.Proofs.YtnplgklnkcjmnaaDoor.TabV.rlen (h : TabV k m ks vs) : (rsK v ks vs).length ≤ 2 * m := by rw [rsK_len]; have := h.len; omega
/-- The table of keys and values. -/
noncomputable def tabT (v m : Nat) (ks vs : List Int) : List Int := flat v (laid sP (2 * m) (rsK v ks vs))
theorem _root_.Go.Proofs.YtnplgklnkcjmnaaDoor.TabV.tb (h : TabV k m ks vs) (hk : KV v k) : Tb (2 * m) v (tabT v m ks vs) := tb_laid hk.v (h.recs hk) h.rlen h.nv h.vu
theorem _root_.Go.Proofs.YtnplgklnkcjmnaaDoor.TabV.trecs (h : TabV k m ks vs) (hk : KV v k) : recs (2 * m) v (tabT v m ks vs) = laid sP (2 * m) (rsK v ks vs) := laid_recs hk.v (h.recs hk) h.rlen h.nv
theorem _root_.Go.Proofs.YtnplgklnkcjmnaaDoor.TabV.tmem (h : TabV k m ks vs) (hk : KV v k) (x : R) : x ∈ nzs (Go.Proofs.YtnplgklnkcjmnaaDoor.PrT.recs (2 * m) v (tabT v m ks vs)) ↔ x ∈ rsK v ks vs := by
  obtain ⟨g1, g2⟩ := laid_ok (h.recs hk) h.rlen
  rw [h.trecs hk, ← In_nzs g1.len, g2]
theorem sort_is {l l' : List R} (h : l.Pairwise fun a b => a.1 ≠ b.1) (h' : l'.Pairwise fun a b => a.1 < b.1) (hm : ∀ x, x ∈ l ↔ x ∈ l') : sortI byK l = l' :=
  sorted_ext (f := fun r => r.1) (sortI_sorted (fun a b => rfl) h) h' fun x => (sortI_mem _ _ _).trans (hm x)
/-- Its list. -/
theorem _root_.Go.Proofs.YtnplgklnkcjmnaaDoor.TabV.lst (h : TabV k m ks vs) (hk : KV v k) (hm0 : 0 < m) (hm : m ≤ 256) : lstP v (tabT v m ks vs) = rsK v ks vs := by
  obtain ⟨hr, f2, f3⟩ := (h.tb hk).facts hk.v (by omega) (by omega)
  unfold lstP
  rw [if_pos hr, f2, Int.toNat_natCast]
  exact sort_is (h.tb hk).ok.recs.nd (h.sorted hk) (h.tmem hk)
theorem laid_ext {n : Nat} {l l' : List R} (hr : Recs sP l) (hl : l.length ≤ n) (hr' : Recs sP l') (hl' : l'.length ≤ n) (hm : ∀ x, x ∈ l ↔ x ∈ l') : laid sP n l = laid sP n l' :=
  laid_is hr hl (laid_ok hr' hl').1 fun x => ((laid_ok hr' hl').2 x).trans (hm x).symm
theorem here_iff (h : TabV k m ks vs) (hk : KV v k) (x : Int) : hereK k ks x = true ↔ ∃ i, i < ks.length ∧ ks.getD i 0 = x := by
  constructor
  · intro q; obtain ⟨h1, h2⟩ := hereK_t q; exact ⟨_, h1, h2⟩
  · rintro ⟨i, hi, rfl⟩
    have ha : atK k ks (ks.getD i 0) = i := by
      refine atK_is (Nat.le_of_lt hi) (fun j hj => ?_) (fun _ => ?_)
      · rw [lssK_rk, hk.rk, hk.rk]; exact decide_eq_true (h.k_lt hk hj hi)
      · rw [lssK_rk]; exact decide_eq_false (Int.lt_irrefl _)
    unfold hereK
    rw [ha]
    exact decide_eq_true ⟨hi, rfl⟩
/-- What is found. -/
theorem _root_.Go.Proofs.YtnplgklnkcjmnaaDoor.TabV.fnd (h : TabV k m ks vs) (hk : KV v k) (hm0 : 0 < m) (hm : m ≤ 256) (x : Int) (hx : x + 1 ≠ 0) :
    (hereK k ks x = true → ∃ p : Nat, p < 2 * m ∧ fndP v (tabT v m ks vs) (x + 1) = p ∧ (tabT v m ks vs).getD (p * v) 0 = x + 1 ∧ (v = 2 → (tabT v m ks vs).getD (p * v + 1) 0 = vs.getD (atK k ks x) 0)) ∧
    (hereK k ks x = false → fndP v (tabT v m ks vs) (x + 1) = -1) := by
  have hT := h.tb hk
  obtain ⟨hr, f2, f3⟩ := hT.facts hk.v (by omega) (by omega)
  have e : fndP v (tabT v m ks vs) (x + 1) = findF sP (2 * m) (Go.Proofs.YtnplgklnkcjmnaaDoor.PrT.recs (2 * m) v (tabT v m ks vs)) (x + 1) (2 * m) (sP.hm (2 * m) (x + 1)) := by
    unfold fndP; rw [if_pos ⟨hr, hx⟩, f2, Int.toNat_natCast]
  constructor
  · intro hh
    obtain ⟨a1, a2⟩ := hereK_t hh
    obtain ⟨q1, p, hp, hg⟩ := (In_nzs hT.ok.len _).2 ((h.tmem hk _).2 ((rsK_mem v ks vs (ks.getD (atK k ks x) 0 + 1, if v = 1 then 0 else vs.getD (atK k ks x) 0)).2 ⟨_, a1, rfl⟩))
    have hkp : kR (Go.Proofs.YtnplgklnkcjmnaaDoor.PrT.recs (2 * m) v (tabT v m ks vs)) p = x + 1 := by unfold kR; rw [hg, a2]
    refine ⟨p, hp, ?_, ?_, fun hv2 => ?_⟩
    · rw [e]
      exact findF_in hT.ok hp hkp hx _ _ (sP.hlt (2 * m) (x + 1) (by omega)) (by rw [dist_self]; exact Nat.zero_le _) (dist_lt (sP.hlt (2 * m) (x + 1) (by omega)) hp)
    · unfold kR at hkp; rw [recs_get _ hp] at hkp; exact hkp
    · rw [recs_get _ hp] at hg
      have := congrArg Prod.snd hg
      dsimp only at this
      rwa [if_neg (by omega), if_neg (by omega)] at this
  · intro hh
    rw [e]
    refine findF_out (fun j hj hkj => ?_) _ _ (sP.hlt (2 * m) (x + 1) (by omega))
    have : gR (Go.Proofs.YtnplgklnkcjmnaaDoor.PrT.recs (2 * m) v (tabT v m ks vs)) j ∈ rsK v ks vs := (h.tmem hk _).1 ((In_nzs hT.ok.len _).1 ⟨by unfold kR at hkj; rw [hkj]; exact hx, j, hj, rfl⟩)
    obtain ⟨i, hi, he⟩ := (rsK_mem _ _ _ _).1 this
    unfold kR at hkj
    rw [he] at hkj
    dsimp only at hkj
    rw [(here_iff h hk x).2 ⟨i, hi, by omega⟩] at hh
    cases hh
theorem nd_of {l : List R} (h : l.Pairwise fun a b => a.1 ≠ b.1) : l.Nodup := h.imp fun h e => h (by rw [e])
/-- What Put makes of the table: keys and values that have these records. -/
theorem _root_.Go.Proofs.YtnplgklnkcjmnaaDoor.TabV.put (h : TabV k m ks vs) (hk : KV v k) (hm0 : 0 < m) (hm : m ≤ 256) {x val : Int} (hx : 0 ≤ x ∧ x ≤ 4611686018427387904) (hvu : U64 val) (hv1 : v = 1 → val = 0)
    {ks' vs' : List Int} (h' : TabV k m ks' vs') (hmem : ∀ r, r ∈ rsK v ks' vs' ↔ r = (x + 1, val) ∨ (r ∈ rsK v ks vs ∧ r.1 ≠ x + 1)) :
    putE v (tabT v m ks vs) (x + 1) val = 0 ∧ putL v (tabT v m ks vs) (x + 1) val = tabT v m ks' vs' := by
  have hT := h.tb hk
  have hU : U64 (x + 1) := by unfold U64; omega
  have hn0 : x + 1 ≠ 0 := by omega
  have hP := put_recs hT.ok hU hn0 (val := val)
  have hmm : ∀ r, r ∈ oth (nzs (Go.Proofs.YtnplgklnkcjmnaaDoor.PrT.recs (2 * m) v (tabT v m ks vs))) (x + 1) ++ [(x + 1, val)] ↔ r ∈ rsK v ks' vs' := by
    intro r
    rw [List.mem_append, oth_mem, h.tmem hk, hmem, List.mem_singleton]
    exact or_comm
  have hl : (oth (nzs (Go.Proofs.YtnplgklnkcjmnaaDoor.PrT.recs (2 * m) v (tabT v m ks vs))) (x + 1) ++ [(x + 1, val)]).length ≤ 2 * m :=
    Nat.le_trans (nodup_sub_len (nd_of hP.nd) fun r hr => (hmm r).1 hr) h'.rlen
  have he := laid_ext hP hl (h'.recs hk) h'.rlen hmm
  obtain ⟨-, q⟩ := hT.put hk.v (by omega) (by omega) hU hn0 hvu hv1
  rw [List.length_append] at hl
  simp only [List.length_cons, List.length_nil] at hl
  rcases q with ⟨-, -, q⟩ | ⟨q1, q2, -⟩
  · omega
  · refine ⟨q1, q2.trans ?_⟩
    rw [he]; rfl
/-- What Del makes of it. -/
theorem _root_.Go.Proofs.YtnplgklnkcjmnaaDoor.TabV.dele (h : TabV k m ks vs) (hk : KV v k) (hm0 : 0 < m) (hm : m ≤ 256) {x : Int} (hx : 0 ≤ x) (hh : hereK k ks x = true)
    {ks' vs' : List Int} (h' : TabV k m ks' vs') (hmem : ∀ r, r ∈ rsK v ks' vs' ↔ (r ∈ rsK v ks vs ∧ r.1 ≠ x + 1)) :
    delE v (tabT v m ks vs) (x + 1) = 0 ∧ delL v (tabT v m ks vs) (x + 1) = tabT v m ks' vs' := by
  have hT := h.tb hk
  obtain ⟨q0, q⟩ := hT.del hk.v (by omega) (by omega) (key := x + 1) (by omega)
  obtain ⟨a1, a2⟩ := hereK_t hh
  rcases q with ⟨-, -, q⟩ | ⟨q1, -, q2⟩
  · refine absurd ⟨_, (h.tmem hk _).2 ((rsK_mem v ks vs _).2 ⟨_, a1, rfl⟩), ?_⟩ q
    dsimp only; rw [a2]
  · refine ⟨q1, ?_⟩
    have hP : Recs sP (oth (nzs (Go.Proofs.YtnplgklnkcjmnaaDoor.PrT.recs (2 * m) v (tabT v m ks vs))) (x + 1)) := hT.ok.recs.of_mem (fun x hx => (oth_mem.1 hx).1) (hT.ok.recs.nd.sublist List.filter_sublist)
    have hmm : ∀ r, r ∈ oth (nzs (Go.Proofs.YtnplgklnkcjmnaaDoor.PrT.recs (2 * m) v (tabT v m ks vs))) (x + 1) ↔ r ∈ rsK v ks' vs' := by
      intro r
      rw [oth_mem, h.tmem hk, hmem]
    have hl : (oth (nzs (Go.Proofs.YtnplgklnkcjmnaaDoor.PrT.recs (2 * m) v (tabT v m ks vs))) (x + 1)).length ≤ 2 * m :=
      Nat.le_trans (nodup_sub_len (nd_of hP.nd) fun r hr => (hmm r).1 hr) h'.rlen
    have he := laid_ext hP hl (h'.recs hk) h'.rlen hmm
    have := flat_recs hk.v q0.len
    rw [q2, he] at this
    exact this.symm
/-- Records behind a key that is new, that is there, that goes. -/
theorem mem_ins (h : TabV k m ks vs) (hk : KV v k) {x val : Int} (hno : hereK k ks x = false) (hv1 : v = 1 → val = 0) (vs' : List Int) (hvs : v = 2 → vs' = insK vs (atK k ks x) val) (r : R) :
    r ∈ rsK v (insK ks (atK k ks x) x) vs' ↔ r = (x + 1, val) ∨ (r ∈ rsK v ks vs ∧ r.1 ≠ x + 1) := by
  have ha := atK_le k ks x
  have hne : ∀ i, i < ks.length → ks.getD i 0 ≠ x := fun i hi e => by
    rw [(here_iff h hk x).2 ⟨i, hi, e⟩] at hno; cases hno
  have hvl : v = 2 → vs.length = ks.length := fun e => by have := h.vlen; rwa [hk.val, if_pos (decide_eq_true e)] at this
  have hat : ∀ i, i < ks.length + 1 → ((insK ks (atK k ks x) x).getD i 0 + 1, if v = 1 then (0 : Int) else vs'.getD i 0) =
      if i < atK k ks x then (ks.getD i 0 + 1, if v = 1 then 0 else vs.getD i 0) else if i = atK k ks x then (x + 1, val) else (ks.getD (i - 1) 0 + 1, if v = 1 then 0 else vs.getD (i - 1) 0) := by
    intro i hi
    rw [insK_at ha]
    rcases hk.v with e | e
    · have := hv1 e
      subst this
      simp only [if_pos e]
      split
      · rfl
      · split <;> rfl
    · rw [hvs e, insK_at (by rw [hvl e]; exact ha)]; simp only [if_neg (show ¬ v = 1 by omega)]
      split
      · rfl
      · split <;> rfl
  rw [rsK_mem, rsK_mem, insK_len ha]
  constructor
  · rintro ⟨i, hi, rfl⟩
    rw [hat i hi]
    by_cases h1 : i < atK k ks x
    · rw [if_pos h1]
      exact .inr ⟨⟨i, by omega, rfl⟩, by have := hne i (by omega); dsimp only; omega⟩
    · rw [if_neg h1]
      by_cases h2 : i = atK k ks x
      · rw [if_pos h2]; exact .inl rfl
      · rw [if_neg h2]
        exact .inr ⟨⟨i - 1, by omega, rfl⟩, by have := hne (i - 1) (by omega); dsimp only; omega⟩
  · rintro (rfl | ⟨⟨i, hi, rfl⟩, -⟩)
    · exact ⟨atK k ks x, by omega, by rw [hat _ (by omega), if_neg (Nat.lt_irrefl _), if_pos rfl]⟩
    · by_cases h1 : i < atK k ks x
      · exact ⟨i, by omega, by rw [hat _ (by omega), if_pos h1]⟩
      · exact ⟨i + 1, by omega, by rw [hat _ (by omega), if_neg (show ¬ i + 1 < atK k ks x by omega), if_neg (show ¬ i + 1 = atK k ks x by omega), Nat.add_sub_cancel]⟩
theorem mem_set (h : TabV k m ks vs) (hk : KV v k) (hv2 : v = 2) {x val : Int} (hh : hereK k ks x = true) (r : R) :
    r ∈ rsK v ks (vs.set (atK k ks x) val) ↔ r = (x + 1, val) ∨ (r ∈ rsK v ks vs ∧ r.1 ≠ x + 1) := by
  obtain ⟨a1, a2⟩ := hereK_t hh
  have hvl : vs.length = ks.length := by have := h.vlen; rwa [hk.val, if_pos (decide_eq_true hv2)] at this
  have hg : ∀ i, (vs.set (atK k ks x) val).getD i 0 = if i = atK k ks x then val else vs.getD i 0 := fun i => by
    rw [List.getD_eq_getElem?_getD, List.getElem?_set]
    by_cases e : i = atK k ks x
    · rw [if_pos e.symm, if_pos (by omega), if_pos e]; rfl
    · rw [if_neg (fun q => e q.symm), if_neg e, ← List.getD_eq_getElem?_getD]
  rw [rsK_mem, rsK_mem]
  simp only [hg, if_neg (show ¬ v = 1 by omega)]
  constructor
  · rintro ⟨i, hi, rfl⟩
    by_cases e : i = atK k ks x
    · rw [if_pos e, e, a2]; exact .inl rfl
    · rw [if_neg e]
      refine .inr ⟨⟨i, hi, rfl⟩, fun q => e ?_⟩
      dsimp only at q
      exact h.k_inj hk hi a1 (by omega)
  · rintro (rfl | ⟨⟨i, hi, rfl⟩, hn⟩)
    · exact ⟨_, a1, by rw [if_pos rfl, a2]⟩
    · refine ⟨i, hi, ?_⟩
      rw [if_neg]
      rintro rfl
      exact hn (by dsimp only; rw [a2])
theorem mem_del (h : TabV k m ks vs) (hk : KV v k) {x : Int} (hh : hereK k ks x = true) (vs' : List Int) (hvs : v = 2 → vs' = delK vs (atK k ks x)) (r : R) :
    r ∈ rsK v (delK ks (atK k ks x)) vs' ↔ (r ∈ rsK v ks vs ∧ r.1 ≠ x + 1) := by
  obtain ⟨a1, a2⟩ := hereK_t hh
  have hvl : v = 2 → vs.length = ks.length := fun e => by have := h.vlen; rwa [hk.val, if_pos (decide_eq_true e)] at this
  have hat : ∀ i, ((delK ks (atK k ks x)).getD i 0 + 1, if v = 1 then (0 : Int) else vs'.getD i 0) =
      if i < atK k ks x then (ks.getD i 0 + 1, if v = 1 then 0 else vs.getD i 0) else (ks.getD (i + 1) 0 + 1, if v = 1 then 0 else vs.getD (i + 1) 0) := by
    intro i
    rw [delK_at a1]
    rcases hk.v with e | e
    · simp only [if_pos e]
      split <;> rfl
    · rw [hvs e, delK_at (by rw [hvl e]; exact a1)]; simp only [if_neg (show ¬ v = 1 by omega)]
      split <;> rfl
  rw [rsK_mem, rsK_mem, delK_len a1]
  constructor
  · rintro ⟨i, hi, rfl⟩
    rw [hat i]
    by_cases h1 : i < atK k ks x
    · rw [if_pos h1]
      refine ⟨⟨i, by omega, rfl⟩, fun q => ?_⟩
      dsimp only at q
      have := h.k_inj hk (i := i) (by omega) a1 (by omega)
      omega
    · rw [if_neg h1]
      refine ⟨⟨i + 1, by omega, rfl⟩, fun q => ?_⟩
      dsimp only at q
      have := h.k_inj hk (i := i + 1) (by omega) a1 (by omega)
      omega
  · rintro ⟨⟨i, hi, rfl⟩, hn⟩
    by_cases h1 : i < atK k ks x
    · exact ⟨i, by omega, by rw [hat, if_pos h1]⟩
    · have h2 : i ≠ atK k ks x := by rintro rfl; exact hn (by dsimp only; rw [a2])
      exact ⟨i - 1, by omega, by rw [hat, if_neg (show ¬ i - 1 < atK k ks x by omega), show i - 1 + 1 = i by omega]⟩
end
/-! ### words of states -/
noncomputable def encT (v m : Nat) (ks vs : List Int) : List Int := (ks.length : Int) :: tabT v m ks vs
open Classical in
/-- Are words those of a state? -/
noncomputable def okD (v m : Nat) (w : List Int) : Bool := decide (w.length = 1 + 2 * m * v ∧ rightB v (w.drop 1) = true ∧ (∀ r ∈ lstP v (w.drop 1), r.1 ≤ 4611686018427387905) ∧ w.getD 0 0 = (lstP v (w.drop 1)).length ∧ (lstP v (w.drop 1)).length ≤ m)
noncomputable def ksD (v : Nat) (w : List Int) : List Int := (lstP v (w.drop 1)).map fun r => r.1 - 1
noncomputable def vsD (v : Nat) (w : List Int) : List Int := if v = 2 then (lstP v (w.drop 1)).map fun r => r.2 else []
section
variable {v m : Nat} {k : Int} {ks vs : List Int}
theorem map_get {l : List R} {f : R → Int} {i : Nat} (h : i < l.length) : (l.map f).getD i 0 = f (gR l i) := by
  unfold gR
  rw [List.getD_eq_getElem?_getD, List.getElem?_map, List.getD_eq_getElem?_getD, List.getElem?_eq_getElem h]; rfl
theorem ext_getD {a b : List Int} (hl : a.length = b.length) (h : ∀ i, i < a.length → a.getD i 0 = b.getD i 0) : a = b := by
  refine List.ext_getElem hl fun i h1 h2 => ?_
  have := h i h1
  rw [List.getD_eq_getElem?_getD, List.getD_eq_getElem?_getD, List.getElem?_eq_getElem h1, List.getElem?_eq_getElem h2] at this
  exact this
theorem _root_.Go.Proofs.YtnplgklnkcjmnaaDoor.TabV.enc_len (h : TabV k m ks vs) (hk : KV v k) : (encT v m ks vs).length = 1 + 2 * m * v := by
  show (tabT v m ks vs).length + 1 = _
  rw [(h.tb hk).len]; omega
theorem _root_.Go.Proofs.YtnplgklnkcjmnaaDoor.TabV.enc_u (h : TabV k m ks vs) (hk : KV v k) (hm : m ≤ 256) : AllU (encT v m ks vs) := by
  intro x hx
  rcases List.mem_cons.1 hx with rfl | hx
  · have := h.len; unfold U64; omega
  · exact (h.tb hk).u x hx
theorem _root_.Go.Proofs.YtnplgklnkcjmnaaDoor.TabV.dec (h : TabV k m ks vs) (hk : KV v k) (hm0 : 0 < m) (hm : m ≤ 256) : okD v m (encT v m ks vs) = true ∧ ksD v (encT v m ks vs) = ks ∧ vsD v (encT v m ks vs) = vs := by
  have hl := h.lst hk hm0 hm
  have hd : (encT v m ks vs).drop 1 = tabT v m ks vs := rfl
  unfold okD ksD vsD
  rw [hd, hl]
  refine ⟨decide_eq_true ⟨h.enc_len hk, ((h.tb hk).facts hk.v (by omega) (by omega)).1, fun r hr => ?_, ?_, ?_⟩, ?_, ?_⟩
  · obtain ⟨i, hi, rfl⟩ := (rsK_mem _ _ _ _).1 hr
    have := h.k_u hk hi
    dsimp only; omega
  · rw [rsK_len]; rfl
  · rw [rsK_len]; exact h.len
  · refine ext_getD (by rw [List.length_map, rsK_len]) fun i hi => ?_
    rw [List.length_map, rsK_len] at hi
    rw [map_get (by rw [rsK_len]; exact hi), rsK_get v ks vs hi]
    dsimp only; omega
  · have hvl := h.vlen
    rw [hk.val] at hvl
    by_cases e : v = 2
    · rw [if_pos e]
      rw [if_pos (decide_eq_true e)] at hvl
      refine ext_getD (by rw [List.length_map, rsK_len, hvl]) fun i hi => ?_
      rw [List.length_map, rsK_len] at hi
      rw [map_get (by rw [rsK_len]; exact hi), rsK_get v ks vs hi]
      dsimp only
      rw [if_neg (by omega)]
    · rw [if_neg e]
      rw [if_neg (by rw [decide_eq_false e]; exact Bool.false_ne_true)] at hvl
      exact (List.eq_nil_of_length_eq_zero hvl).symm
/-- Words that are a state's. -/
theorem okD_enc {w : List Int} (hk : KV v k) (hm0 : 0 < m) (hm : m ≤ 256) (hu : AllU w) (h : okD v m w = true) : TabV k m (ksD v w) (vsD v w) ∧ w = encT v m (ksD v w) (vsD v w) := by
  unfold okD at h
  obtain ⟨h1, h2, h3, h4, h5⟩ := of_decide_eq_true h
  have htl : (w.drop 1).length = 2 * m * v := by rw [List.length_drop]; omega
  have htu : AllU (w.drop 1) := fun x hx => hu x (List.mem_of_mem_drop hx)
  obtain ⟨n', v', hv', e', hn', hl', f1, f2, f3, f4⟩ := ok_facts ((rightB_iff _ _).1 h2).1
  obtain rfl : v = v' := by omega
  have hn : n' = 2 * m := by
    rw [htl] at hl'
    exact (Nat.eq_of_mul_eq_mul_right (by omega) hl').symm
  subst hn
  have hT : Tb (2 * m) v (w.drop 1) := ⟨f4.1 h2, htl, htu⟩
  have hls : lstP v (w.drop 1) = sortI byK (nzs (recs (2 * m) v (w.drop 1))) := by unfold lstP; rw [if_pos h2, f2, Int.toNat_natCast]
  have hsrt : (lstP v (w.drop 1)).Pairwise fun a b => a.1 < b.1 := by rw [hls]; exact sortI_sorted (fun a b => rfl) hT.ok.recs.nd
  have hLm : ∀ r, r ∈ lstP v (w.drop 1) ↔ r ∈ nzs (recs (2 * m) v (w.drop 1)) := fun r => by rw [hls]; exact sortI_mem _ _ _
  have hLu : ∀ r ∈ lstP v (w.drop 1), U64 r.1 ∧ U64 r.2 ∧ r.1 ≠ 0 ∧ (v = 1 → r.2 = 0) := fun r hr => by
    have h9 := nzs_mem.1 ((hLm r).1 hr)
    exact ⟨(recs_u hT.u r h9.1).1, (recs_u hT.u r h9.1).2, h9.2, fun q => recs_nv _ v _ q r h9.1⟩
  have hks : ksD v w = (lstP v (w.drop 1)).map fun r => r.1 - 1 := rfl
  have hvs : vsD v w = if v = 2 then (lstP v (w.drop 1)).map fun r => r.2 else [] := rfl
  generalize lstP v (w.drop 1) = L at *
  have hLg : ∀ i, i < L.length → gR L i ∈ L := fun i hi => gR_mem hi
  have hkg : ∀ i, i < L.length → (ksD v w).getD i 0 = (gR L i).1 - 1 := fun i hi => by rw [hks, map_get hi]
  have hkl : (ksD v w).length = L.length := by rw [hks, List.length_map]
  have hvg : ∀ i, i < L.length → v = 2 → (vsD v w).getD i 0 = (gR L i).2 := fun i hi e => by rw [hvs, if_pos e, map_get hi]
  have hvl : (vsD v w).length = if v = 2 then L.length else 0 := by
    rw [hvs]; split
    · rw [List.length_map]
    · rfl
  have hTab : TabV k m (ksD v w) (vsD v w) := by
    refine ⟨by omega, ?_, ?_, ?_, fun i hi => ?_, fun i hi => ?_⟩
    · rw [hvl, hk.val, hkl]
      by_cases e : v = 2
      · rw [if_pos e, if_pos (decide_eq_true e)]
      · rw [if_neg e, if_neg (by rw [decide_eq_false e]; exact Bool.false_ne_true)]
    · rw [hks]
      intro x hx
      obtain ⟨r, hr, rfl⟩ := List.mem_map.1 hx
      have := (hLu r hr).1; have := (hLu r hr).2.2.1
      unfold U64 at *; omega
    · rw [hvs]
      intro x hx
      split at hx
      · obtain ⟨r, hr, rfl⟩ := List.mem_map.1 hx
        exact (hLu r hr).2.1
      · cases hx
    · rw [hkl] at hi
      rw [hkg i hi, hk.mb, hk.mv]
      exact ⟨decide_eq_true (by have := h3 _ (hLg i hi); omega), rfl⟩
    · rw [hkl] at hi
      rw [hkg i (by omega), hkg (i + 1) hi, hk.rk, hk.rk]
      have := (List.pairwise_iff_getElem.1 hsrt) i (i + 1) (by omega) hi (by omega)
      have e : ∀ q (hq : q < L.length), L[q] = gR L q := fun q hq => by
        unfold gR; rw [List.getD_eq_getElem?_getD, List.getElem?_eq_getElem hq]; rfl
      rw [e, e] at this
      omega
  refine ⟨hTab, ?_⟩
  have hrs : rsK v (ksD v w) (vsD v w) = L := by
    refine gR_ext (by rw [rsK_len, hkl]) fun j hj => ?_
    rw [rsK_len, hkl] at hj
    rw [rsK_get _ _ _ (by rw [hkl]; exact hj), hkg j hj]
    refine Prod.ext (by dsimp only; omega) ?_
    dsimp only
    by_cases e : v = 1
    · rw [if_pos e, (hLu _ (hLg j hj)).2.2.2 e]
    · rw [if_neg e, hvg j hj (by rcases hk.v with q | q <;> omega)]
  have hlaid : laid sP (2 * m) L = recs (2 * m) v (w.drop 1) := by
    refine laid_is ?_ (by omega) hT.ok fun x => by rw [In_nzs hT.ok.len, hLm]
    rw [← hrs]; exact hTab.recs hk
  have htab : tabT v m (ksD v w) (vsD v w) = w.drop 1 := by
    unfold tabT
    rw [hrs, hlaid, flat_recs hk.v htl]
  unfold encT
  rw [htab, hkl, ← h4]
  cases w with
  | nil => simp at h1; omega
  | cons a w => rfl
end
end Go.Proofs.YtnplgklnkcjmnaaDoor.PrT
namespace Go.Proofs.YtnplgklnkcjmnaaDoor
open Go.RowKit Go.Proofs.YtnplgklnkcjmnaaDoor.Am
set_option linter.unusedVariables false
set_option linter.unusedSimpArgs false

end Go.Proofs.YtnplgklnkcjmnaaDoor
namespace Go.Proofs.YtnplgklnkcjmnaaDoor
open Go.RowKit Go.Proofs.YtnplgklnkcjmnaaDoor.Am
set_option linter.unusedVariables false
set_option linter.unusedSimpArgs false

end Go.Proofs.YtnplgklnkcjmnaaDoor
namespace Go.Proofs.YtnplgklnkcjmnaaDoor
open Go.RowKit Go.Proofs.YtnplgklnkcjmnaaDoor.Am
set_option linter.unusedVariables false
set_option linter.unusedSimpArgs false

attribute [local irreducible] fitsB tabD
end Go.Proofs.YtnplgklnkcjmnaaDoor
namespace Go.Proofs.YtnplgklnkcjmnaaDoor.DcT
open Go.RowKit Go.Proofs.YtnplgklnkcjmnaaDoor.Am Go.Proofs.YtnplgklnkcjmnaaDoor Go.Proofs.YtnplgklnkcjmnaaDoor.PrT
set_option linter.unusedVariables false
set_option linter.unusedSimpArgs false


section
variable {v m : Nat} {k : Int} {ks vs : List Int}
end
attribute [local irreducible] bldE bldW rsK tabT recs
attribute [local irreducible] fitsB rightT
end Go.Proofs.YtnplgklnkcjmnaaDoor.DcT
namespace Go.Proofs.YtnplgklnkcjmnaaDoor.DcT
open Go.RowKit Go.Proofs.YtnplgklnkcjmnaaDoor.Am Go.Proofs.YtnplgklnkcjmnaaDoor Go.Proofs.YtnplgklnkcjmnaaDoor.PrT
set_option linter.unusedVariables false
set_option linter.unusedSimpArgs false


theorem lst_len (v : Int) (t : List Int) : (lstP v t).length ≤ t.length := by
  unfold lstP
  split
  · rw [sortI_len]
    refine Nat.le_trans (nzs_len _) ?_
    rw [recs_len]
    unfold shN
    split
    · exact Nat.div_le_self _ _
    · exact Nat.zero_le _
  · exact Nat.zero_le _
theorem lst_mem {v : Int} {t : List Int} (hu : AllU t) {r : R} (h : r ∈ lstP v t) : U64 r.1 ∧ U64 r.2 ∧ r.1 ≠ 0 := by
  unfold lstP at h
  split at h
  · rw [sortI_mem] at h
    have := nzs_mem.1 h
    exact ⟨(recs_u hu r this.1).1, (recs_u hu r this.1).2, this.2⟩
  · cases h
attribute [local irreducible] lstP
/-! ### Dec -/
noncomputable def dKs (v m : Nat) (w : List Int) : List Int := if okD v m w = true then ksD v w else []
noncomputable def dVs (v m : Nat) (w : List Int) : List Int := if okD v m w = true then vsD v w else []
noncomputable def dE (v m : Nat) (w : List Int) : Int := if okD v m w = true then 0 else 2
theorem d_yes {v m : Nat} {w : List Int} (h : okD v m w = true) : dKs v m w = ksD v w ∧ dVs v m w = vsD v w ∧ dE v m w = 0 := by
  unfold dKs dVs dE; rw [if_pos h, if_pos h, if_pos h]; exact ⟨rfl, rfl, rfl⟩
theorem d_no {v m : Nat} {w : List Int} (h : okD v m w = false) : dKs v m w = [] ∧ dVs v m w = [] ∧ dE v m w = 2 := by
  unfold dKs dVs dE; rw [h]; exact ⟨rfl, rfl, rfl⟩
theorem home_v {v m : Nat} {k : Int} (hk : KV v k) : homeI k m = ((1 + 2 * m * v : Nat) : Int) := by
  rcases hk with ⟨rfl, rfl⟩ | ⟨rfl, rfl⟩
  · unfold homeI; rw [if_neg (by decide), if_pos rfl]; omega
  · unfold homeI; rw [if_neg (by decide), if_neg (by decide), if_pos rfl]; omega
attribute [local irreducible] fitsB rightT ksD vsD okD encT homeI tabT
end Go.Proofs.YtnplgklnkcjmnaaDoor.DcT
namespace Go.Proofs.YtnplgklnkcjmnaaDoor.DcT
open Go.RowKit Go.Proofs.YtnplgklnkcjmnaaDoor.Am Go.Proofs.YtnplgklnkcjmnaaDoor Go.Proofs.YtnplgklnkcjmnaaDoor.PrT
set_option linter.unusedVariables false
set_option linter.unusedSimpArgs false
section
variable {v m : Nat} {k : Int} {ks vs : List Int}
theorem tabD_mk (hk : KV v k) {code x val : Int} (hc : code ≠ 9) (hx : x ≤ 4611686018427387904) : tabD k m ks vs code x val = plcD k m ks vs code x val := by
  unfold tabD
  rw [if_neg hc, hk.mb, if_neg (by rw [decide_eq_true hx]; exact Bool.noConfusion), hk.mv]
theorem tabD_bad (hk : KV v k) {code x val : Int} (hc : code ≠ 9) (hx : ¬ x ≤ 4611686018427387904) : tabD k m ks vs code x val = (ks, vs, 10, 0) := by
  unfold tabD
  rw [if_neg hc, hk.mb, if_pos (decide_eq_false hx)]
theorem tabD_count {code x val : Int} (hc : code = 9) : tabD k m ks vs code x val = (ks, vs, 0, (ks.length : Int)) := by unfold tabD; rw [if_pos hc]
theorem kv2 : KV 2 3 := .inr ⟨rfl, rfl⟩
theorem dfnd (h : TabV 3 m ks vs) (hm0 : 0 < m) (hm : m ≤ 256) (x : Int) (hx : x + 1 ≠ 0) :
    (hereK 3 ks x = true → ∃ p : Nat, p < 2 * m ∧ fndP 2 (tabT 2 m ks vs) (x + 1) = p ∧ (tabT 2 m ks vs).getD (p * 2 + 1) 0 = vs.getD (atK 3 ks x) 0) ∧
    (hereK 3 ks x = false → fndP 2 (tabT 2 m ks vs) (x + 1) = -1) := by
  obtain ⟨h1, h2⟩ := h.fnd kv2 hm0 hm x hx
  exact ⟨fun q => by obtain ⟨p, a, b, c, d⟩ := h1 q; exact ⟨p, a, b, d rfl⟩, h2⟩
/-- A dict's put. -/
theorem put_here (h : TabV 3 m ks vs) (hm0 : 0 < m) (hm : m ≤ 256) {x val : Int} (hx : 0 ≤ x ∧ x ≤ 4611686018427387904) (hv : U64 val) (hh : hereK 3 ks x = true) :
    tabD 3 m ks vs 11 x val = (ks, vs.set (atK 3 ks x) val, 0, vs.getD (atK 3 ks x) 0) ∧ TabV 3 m ks (vs.set (atK 3 ks x) val) ∧ putL 2 (tabT 2 m ks vs) (x + 1) val = tabT 2 m ks (vs.set (atK 3 ks x) val) := by
  have e : tabD 3 m ks vs 11 x val = (ks, vs.set (atK 3 ks x) val, 0, vs.getD (atK 3 ks x) 0) := by
    rw [tabD_mk kv2 (by decide) hx.2, plcTT (by decide) hh]; simp
  have hT := tabD_v h (key := x) (v := val) (code := 11) (by unfold U64; omega) hv
  rw [e] at hT
  exact ⟨e, hT, (h.put kv2 hm0 hm hx hv (fun q => by cases q) hT (mem_set h kv2 rfl hh)).2⟩
theorem put_new (h : TabV 3 m ks vs) (hm0 : 0 < m) (hm : m ≤ 256) {x val : Int} (hx : 0 ≤ x ∧ x ≤ 4611686018427387904) (hv : U64 val) (hh : hereK 3 ks x = false) (hl : ks.length ≠ m) :
    tabD 3 m ks vs 11 x val = (insK ks (atK 3 ks x) x, insK vs (atK 3 ks x) val, 0, 0) ∧ TabV 3 m (insK ks (atK 3 ks x) x) (insK vs (atK 3 ks x) val) ∧ putL 2 (tabT 2 m ks vs) (x + 1) val = tabT 2 m (insK ks (atK 3 ks x) x) (insK vs (atK 3 ks x) val) := by
  have e : tabD 3 m ks vs 11 x val = (insK ks (atK 3 ks x) x, insK vs (atK 3 ks x) val, 0, 0) := by
    rw [tabD_mk kv2 (by decide) hx.2, plcTF (by decide) hh]
    rw [if_neg (by decide), if_neg (by decide), if_neg (by decide), if_pos rfl, if_neg (by omega)]
  have hT := tabD_v h (key := x) (v := val) (code := 11) (by unfold U64; omega) hv
  rw [e] at hT
  exact ⟨e, hT, (h.put kv2 hm0 hm hx hv (fun q => by cases q) hT (mem_ins h kv2 hh (fun q => by cases q) _ (fun _ => rfl))).2⟩
theorem put_full (h : TabV 3 m ks vs) {x val : Int} (hx : 0 ≤ x ∧ x ≤ 4611686018427387904) (hh : hereK 3 ks x = false) (hl : ks.length = m) : tabD 3 m ks vs 11 x val = (ks, vs, 11, 0) := by
  rw [tabD_mk kv2 (by decide) hx.2, plcTF (by decide) hh]
  rw [if_neg (by decide), if_neg (by decide), if_neg (by decide), if_pos rfl, if_pos (by omega)]
theorem get_here (h : TabV 3 m ks vs) {x val : Int} (hx : x ≤ 4611686018427387904) (hh : hereK 3 ks x = true) : tabD 3 m ks vs 10 x val = (ks, vs, 0, vs.getD (atK 3 ks x) 0) := by
  rw [tabD_mk kv2 (by decide) hx, plcTT (by decide) hh]; simp
theorem get_no (h : TabV 3 m ks vs) {x val : Int} (hx : x ≤ 4611686018427387904) (hh : hereK 3 ks x = false) : tabD 3 m ks vs 10 x val = (ks, vs, 12, 0) := by
  rw [tabD_mk kv2 (by decide) hx, plcTF (by decide) hh]; simp
theorem del_here (h : TabV 3 m ks vs) (hm0 : 0 < m) (hm : m ≤ 256) {x val : Int} (hx : 0 ≤ x ∧ x ≤ 4611686018427387904) (hv : U64 val) (hh : hereK 3 ks x = true) :
    tabD 3 m ks vs 7 x val = (delK ks (atK 3 ks x), delK vs (atK 3 ks x), 0, vs.getD (atK 3 ks x) 0) ∧ TabV 3 m (delK ks (atK 3 ks x)) (delK vs (atK 3 ks x)) ∧ delL 2 (tabT 2 m ks vs) (x + 1) = tabT 2 m (delK ks (atK 3 ks x)) (delK vs (atK 3 ks x)) := by
  have e : tabD 3 m ks vs 7 x val = (delK ks (atK 3 ks x), delK vs (atK 3 ks x), 0, vs.getD (atK 3 ks x) 0) := by
    rw [tabD_mk kv2 (by decide) hx.2, plcTT (by decide) hh]; simp
  have hT := tabD_v h (key := x) (v := val) (code := 7) (by unfold U64; omega) hv
  rw [e] at hT
  exact ⟨e, hT, (h.dele kv2 hm0 hm hx.1 hh hT (mem_del h kv2 hh _ (fun _ => rfl))).2⟩
theorem del_no (hk : KV v k) {x val : Int} (hx : x ≤ 4611686018427387904) (hh : hereK k ks x = false) : tabD k m ks vs 7 x val = (ks, vs, 12, 0) := by
  rw [tabD_mk hk (by decide) hx]
  unfold plcD
  rw [if_pos rfl, if_neg (by rw [hh]; exact Bool.false_ne_true)]
theorem next_is (hk : KV v k) {x val : Int} (hx : x ≤ 4611686018427387904) : tabD k m ks vs 8 x val = if nxK k ks x val = ks.length then (ks, vs, 12, 0) else (ks, vs, 0, ks.getD (nxK k ks x val) 0) := by
  rw [tabD_mk hk (by decide) hx]
  unfold plcD
  rw [if_neg (by decide), if_pos rfl]
/-- Where next stands: all ahead are less, or the key itself. -/
theorem nx_lo (h : TabV k m ks vs) (hk : KV v k) {x val : Int} {i : Nat} (hi : i < nxK k ks x val) (hl : i < ks.length) : ¬ (ks.getD i 0 > x ∨ (ks.getD i 0 = x ∧ val = 0)) := by
  unfold nxK at hi
  split at hi
  · rename_i q
    obtain ⟨a1, a2⟩ := hereK_t q.1
    by_cases e : i = atK k ks x
    · subst e; rw [a2]; rintro (q2 | q2)
      · omega
      · exact q.2 q2.2
    · have := h.k_lt hk (i := i) (j := atK k ks x) (by omega) a1
      rintro (q2 | q2) <;> omega
  · have := atK_lo (ks := ks) hi
    rw [hk.rk, hk.rk] at this
    rintro (q2 | q2) <;> omega
theorem nx_hi (h : TabV k m ks vs) (hk : KV v k) {x val : Int} (hl : nxK k ks x val < ks.length) : ks.getD (nxK k ks x val) 0 > x ∨ (ks.getD (nxK k ks x val) 0 = x ∧ val = 0) := by
  have h1 := atK_hi h (x := x) (i := nxK k ks x val) (by unfold nxK; split <;> omega) hl
  rw [hk.rk, hk.rk] at h1
  by_cases e : ks.getD (nxK k ks x val) 0 = x
  · refine .inr ⟨e, ?_⟩
    have hh : hereK k ks x = true := (here_iff h hk x).2 ⟨_, hl, e⟩
    by_cases v0 : val = 0
    · exact v0
    · exfalso
      have hn : nxK k ks x val = atK k ks x + 1 := by unfold nxK; rw [if_pos ⟨hh, v0⟩]
      obtain ⟨a1, a2⟩ := hereK_t hh
      have := h.k_inj hk hl a1 (by rw [e, a2])
      omega
  · exact .inl (by omega)
theorem nx_is (h : TabV k m ks vs) (hk : KV v k) {x val : Int} {j : Nat} (hj : j ≤ ks.length) (h1 : ∀ i, i < j → ¬ (ks.getD i 0 > x ∨ (ks.getD i 0 = x ∧ val = 0))) (h2 : j < ks.length → (ks.getD j 0 > x ∨ (ks.getD j 0 = x ∧ val = 0))) : nxK k ks x val = j := by
  have hle : nxK k ks x val ≤ ks.length := by
    have := atK_le k ks x
    unfold nxK
    split
    · rename_i q; have := (hereK_t q.1).1; omega
    · exact this
  rcases Nat.lt_trichotomy (nxK k ks x val) j with q | q | q
  · exact absurd (nx_hi h hk (by omega)) (h1 _ q)
  · exact q
  · exact absurd (h2 (by omega)) (nx_lo h hk q (by omega))
end
end Go.Proofs.YtnplgklnkcjmnaaDoor.DcT
namespace Go.Proofs.YtnplgklnkcjmnaaDoor.DcT
open Go.RowKit Go.Proofs.YtnplgklnkcjmnaaDoor.Am Go.Proofs.YtnplgklnkcjmnaaDoor Go.Proofs.YtnplgklnkcjmnaaDoor.PrT
set_option linter.unusedVariables false
set_option linter.unusedSimpArgs false


/-- Is a configuration one of this kind? -/
def cfB (kk k p n : Int) : Bool := fitsB k p n && decide (k = kk)
theorem cfB_t {kk k p n : Int} (h : cfB kk k p n = true) : fitsB k p n = true ∧ k = kk := by
  unfold cfB at h; rw [Bool.and_eq_true] at h; exact ⟨h.1, of_decide_eq_true h.2⟩
noncomputable def opK (v : Nat) (kk k p n : Int) (w : List Int) : List Int := if cfB kk k p n = true then dKs v n.toNat w else []
noncomputable def opV (v : Nat) (kk k p n : Int) (w : List Int) : List Int := if cfB kk k p n = true then dVs v n.toNat w else []
noncomputable def opE (v : Nat) (kk k p n : Int) (w : List Int) : Int := if cfB kk k p n = true then dE v n.toNat w else 5
theorem op_yes {v : Nat} {kk k p n : Int} {w : List Int} (h : cfB kk k p n = true) : opK v kk k p n w = dKs v n.toNat w ∧ opV v kk k p n w = dVs v n.toNat w ∧ opE v kk k p n w = dE v n.toNat w := by
  unfold opK opV opE; rw [if_pos h, if_pos h, if_pos h]; exact ⟨rfl, rfl, rfl⟩
theorem op_no {v : Nat} {kk k p n : Int} {w : List Int} (h : cfB kk k p n = false) : opK v kk k p n w = [] ∧ opV v kk k p n w = [] ∧ opE v kk k p n w = 5 := by
  unfold opK opV opE; rw [h]; exact ⟨rfl, rfl, rfl⟩
/-- What opened words are. -/
theorem op_facts {v : Nat} {kk : Int} (hk : KV v kk) (k p n : Int) {w : List Int} (hu : AllU w) :
    (opE v kk k p n w = 0 ∧ k = kk ∧ fitsB k p n = true ∧ TabV kk n.toNat (opK v kk k p n w) (opV v kk k p n w) ∧ w = encT v n.toNat (opK v kk k p n w) (opV v kk k p n w) ∧ okD v n.toNat w = true) ∨
    ((opE v kk k p n w = 2 ∨ opE v kk k p n w = 5) ∧ opK v kk k p n w = [] ∧ opV v kk k p n w = [] ∧ (cfB kk k p n = true → okD v n.toNat w = false)) := by
  cases hc : cfB kk k p n
  · obtain ⟨e1, e2, e3⟩ := op_no (v := v) (w := w) hc
    exact .inr ⟨.inr e3, e1, e2, fun q => (by cases q)⟩
  · obtain ⟨e1, e2, e3⟩ := op_yes (v := v) (w := w) hc
    obtain ⟨hf, rfl⟩ := cfB_t hc
    have hm := fitsK hf
    cases ho : okD v n.toNat w
    · obtain ⟨d1, d2, d3⟩ := d_no ho
      exact .inr ⟨.inl (e3.trans d3), e1.trans d1, e2.trans d2, fun _ => rfl⟩
    · obtain ⟨d1, d2, d3⟩ := d_yes ho
      obtain ⟨g1, g2⟩ := okD_enc hk (show 0 < n.toNat by omega) (by omega) hu ho
      rw [e1, e2, e3, d1, d2, d3]
      exact .inl ⟨rfl, rfl, hf, g1, g2, rfl⟩
attribute [local irreducible] fitsB rightT ksD vsD okD encT homeI tabT dKs dVs dE
/-- Pairs of keys and values. -/
def prD (ks vs : List Int) : List R := (List.range ks.length).map fun i => (ks.getD i 0, vs.getD i 0)
theorem prD_len (ks vs : List Int) : (prD ks vs).length = ks.length := by simp [prD]
theorem prD_get {ks : List Int} (vs : List Int) {i : Nat} (h : i < ks.length) : gR (prD ks vs) i = (ks.getD i 0, vs.getD i 0) := by
  unfold gR prD; rw [List.getD_eq_getElem?_getD, List.getElem?_map, List.getElem?_range h]; rfl
theorem prD_take {ks : List Int} (vs : List Int) {j : Nat} (h : j < ks.length) : (prD ks vs).take (j + 1) = (prD ks vs).take j ++ [(ks.getD j 0, vs.getD j 0)] := by
  rw [take_snocR (by rw [prD_len]; exact h), prD_get vs h]
attribute [local irreducible] opK opV opE prD
end Go.Proofs.YtnplgklnkcjmnaaDoor.DcT
namespace Go.Proofs.YtnplgklnkcjmnaaDoor.DcT
open Go.RowKit Go.Proofs.YtnplgklnkcjmnaaDoor.Am Go.Proofs.YtnplgklnkcjmnaaDoor Go.Proofs.YtnplgklnkcjmnaaDoor.PrT
set_option linter.unusedVariables false
set_option linter.unusedSimpArgs false


/-- A put, if there is room. -/
def putO (m : Int) (s : List Int × List Int) (p : R) : Option (List Int × List Int) := if (tabD 3 m s.1 s.2 11 p.1 p.2).2.2.1 = 0 then some ((tabD 3 m s.1 s.2 11 p.1 p.2).1, (tabD 3 m s.1 s.2 11 p.1 p.2).2.1) else none
def upS (m : Int) (s : List Int × List Int) (l : List R) : Option (List Int × List Int) := l.foldl (fun o p => o.bind fun s => putO m s p) (some s)
theorem upS_nil (m : Int) (s : List Int × List Int) : upS m s [] = some s := rfl
theorem upS_snoc (m : Int) (s : List Int × List Int) (l : List R) (p : R) : upS m s (l ++ [p]) = (upS m s l).bind fun s => putO m s p := by unfold upS; rw [List.foldl_append]; rfl
theorem upS_none (m : Int) (s : List Int × List Int) (l l' : List R) (h : upS m s l = none) : upS m s (l ++ l') = none := by
  unfold upS at *
  rw [List.foldl_append, h]
  induction l' with
  | nil => rfl
  | cons a l' ih => exact ih
theorem snocI {α : Type} {p : List α → Prop} (h0 : p []) (h1 : ∀ l a, p l → p (l ++ [a])) (l : List α) : p l := by
  have : ∀ n, ∀ l : List α, l.length = n → p l := by
    intro n
    induction n with
    | zero => intro l h; rw [List.eq_nil_of_length_eq_zero h]; exact h0
    | succ n ih =>
      intro l h
      have hne : l ≠ [] := fun e => by rw [e] at h; cases h
      rw [← List.dropLast_concat_getLast hne]
      exact h1 _ _ (ih _ (by rw [List.length_dropLast]; omega))
  exact this _ l rfl
theorem upS_v {m : Nat} {s s' : List Int × List Int} {l : List R} (h : TabV 3 m s.1 s.2) (hl : ∀ r ∈ l, U64 r.1 ∧ U64 r.2) (hu : upS m s l = some s') : TabV 3 m s'.1 s'.2 := by
  revert s'
  refine fun {s'} hu => (snocI (p := fun l => (∀ r ∈ l, U64 r.1 ∧ U64 r.2) → ∀ s', upS m s l = some s' → TabV 3 m s'.1 s'.2) ?_ ?_ l hl) s' hu
  · intro _ s' e; cases e; exact h
  · intro l p ih hl s' e
    rw [upS_snoc] at e
    cases h1 : upS m s l with
    | none => rw [h1] at e; cases e
    | some s1 =>
      rw [h1] at e
      have hT := ih (fun r hr => hl r (List.mem_append_left _ hr)) s1 h1
      have hp := hl p (by simp)
      have e : putO m s1 p = some s' := e
      unfold putO at e
      split at e
      · cases e; exact tabD_v hT hp.1 hp.2
      · cases e
open Classical in
noncomputable def updE (k p n : Int) (w : List Int) (l : List R) : Int := if opE 2 3 k p n w ≠ 0 then opE 2 3 k p n w else if ∃ r ∈ l, r.1 > 4611686018427387904 then 1 else if upS n (opK 2 3 k p n w, opV 2 3 k p n w) l = none then 11 else 0
noncomputable def updS (k p n : Int) (w : List Int) (l : List R) : List Int × List Int := (upS n (opK 2 3 k p n w, opV 2 3 k p n w) l).getD ([], [])
noncomputable def updL (k p n : Int) (w : List Int) (l : List R) : List Int := if updE k p n w l = 0 then encT 2 n.toNat (updS k p n w l).1 (updS k p n w l).2 else []
attribute [local irreducible] fitsB rightT okD encT homeI tabT opK opV opE prD tabD upS recs
/-! ### Apply -/
noncomputable def apL (v : Nat) (kk k p n : Int) (w : List Int) (code key val : Int) : List Int := if opE v kk k p n w = 0 then encT v n.toNat (tabD kk n (opK v kk k p n w) (opV v kk k p n w) code key val).1 (tabD kk n (opK v kk k p n w) (opV v kk k p n w) code key val).2.1 else []
noncomputable def apR (v : Nat) (kk k p n : Int) (w : List Int) (code key val : Int) : Int := if opE v kk k p n w = 0 then (tabD kk n (opK v kk k p n w) (opV v kk k p n w) code key val).2.2.1 else 0
noncomputable def apV (v : Nat) (kk k p n : Int) (w : List Int) (code key val : Int) : Int := if opE v kk k p n w = 0 then (tabD kk n (opK v kk k p n w) (opV v kk k p n w) code key val).2.2.2 else 0
theorem ap_yes {v : Nat} {kk k p n : Int} {w : List Int} {code key val : Int} (h : opE v kk k p n w = 0) : apL v kk k p n w code key val = encT v n.toNat (tabD kk n (opK v kk k p n w) (opV v kk k p n w) code key val).1 (tabD kk n (opK v kk k p n w) (opV v kk k p n w) code key val).2.1 ∧ apR v kk k p n w code key val = (tabD kk n (opK v kk k p n w) (opV v kk k p n w) code key val).2.2.1 ∧ apV v kk k p n w code key val = (tabD kk n (opK v kk k p n w) (opV v kk k p n w) code key val).2.2.2 := by
  unfold apL apR apV; rw [if_pos h, if_pos h, if_pos h]; exact ⟨rfl, rfl, rfl⟩
theorem ap_no {v : Nat} {kk k p n : Int} {w : List Int} {code key val : Int} (h : opE v kk k p n w ≠ 0) : apL v kk k p n w code key val = [] ∧ apR v kk k p n w code key val = 0 ∧ apV v kk k p n w code key val = 0 := by
  unfold apL apR apV; rw [if_neg h, if_neg h, if_neg h]; exact ⟨rfl, rfl, rfl⟩
attribute [local irreducible] apL apR apV
end Go.Proofs.YtnplgklnkcjmnaaDoor.DcT
namespace Go.Proofs.YtnplgklnkcjmnaaDoor.DcT
open Go.RowKit Go.Proofs.YtnplgklnkcjmnaaDoor.Am Go.Proofs.YtnplgklnkcjmnaaDoor Go.Proofs.YtnplgklnkcjmnaaDoor.PrT
set_option linter.unusedVariables false
set_option linter.unusedSimpArgs false


noncomputable def iPairs : Inl := ⟨37, Tryd.f37, bodyOf Tryd.f37, [0, 1, 2]⟩
theorem iPairs_ok : iPairs.ok Tryd.prog := Inl.mk_ok Tryd.func37 (by rfl) (by kernel_rfl) (by kernel_rfl)
noncomputable def iPairs1 : Inl := ⟨60, Tryd.f60, bodyOf Tryd.f60, [0, 1, 4, 9, 10, 11, 12, 22]⟩
theorem iPairs1_ok : iPairs1.ok Tryd.prog := Inl.mk_ok Tryd.func60 (by rfl) (by kernel_rfl) (by kernel_rfl)
noncomputable def ctxOpD_inl : List Inl := [iPairs, iPairs1]
theorem ctxOpD_inlOk : InlOk Tryd.prog ctxOpD_inl := ⟨iPairs_ok, iPairs1_ok, trivial⟩
noncomputable def ctxOpD (P : Program) (h : InlOk P ctxOpD_inl) : Ctx := ctx P glM [eFits, eHome, Go.Proofs.YtnplgklnkcjmnaaDoor.eClone, eRight, eList] [] (noEq P) ctxOpD_inl h.mem
theorem ctxOpD_good : (ctxOpD Tryd.prog ctxOpD_inlOk).good := ctx_good (by kernel_rfl) (AllOk.mem ⟨entry_lift eFits_ok, entry_lift eHome_ok, entry_lift Go.Proofs.YtnplgklnkcjmnaaDoor.eClone_ok, eRight_ok, eList_ok, trivial⟩) glM_two
attribute [local irreducible] fitsB rightT ksD vsD okD encT homeI tabT dKs dVs dE rightB lstP rsK
set_option maxHeartbeats 2000000 in
set_option maxRecDepth 100000 in
theorem openY_pure (p : Int) (m q : Nat) (w ks vs : List Int) (hu : AllU w) (hf : fitsB 3 p m = true) (hT : TabV 3 m ks vs) (hw : w = encT 2 m ks vs) : Pure Tryd.prog glM 22 [.agg [.v (.int .i64 3), .v (.int .i64 p), .v (.int .i64 m)], .fl [.u64] q w] (.tup [.op 0 0 3 0 3, .v (.int .i64 0)]) [(0, .cs [.v (.int .u64 m), .v (.int .u64 ks.length), .ow 1 1 (4 * m)]), (1, .fl [.u64] (tabT 2 m ks vs))] := by
  refine pure_wf fun hww => ?_
  obtain ⟨-, ⟨w1, w2⟩, -⟩ := hww
  simp only [List.length_cons, List.length_nil, Nat.zero_add, Nat.mul_one] at w1
  have hm := fitsK hf
  have hh := home_v (m := m) kv2
  have hel := hT.enc_len kv2
  have htb := hT.tb kv2
  obtain ⟨hr, -, -⟩ := htb.facts (.inr rfl) (by omega) (by omega)
  have hls : lstP 2 (tabT 2 m ks vs) = rsK 2 ks vs := hT.lst kv2 (by omega) (by omega)
  have hd : w.drop 1 = tabT 2 m ks vs := by rw [hw]; unfold encT; rfl
  have h0 : w.getD 0 0 = ks.length := by rw [hw]; unfold encT; rfl
  rw [hw, hel] at w1
  have hkl := hT.len
  have hku : ∀ i, i < ks.length → 0 ≤ ks.getD i 0 ∧ ks.getD i 0 ≤ 4611686018427387904 := fun i hi => hT.k_u kv2 hi
  have htl : (tabT 2 m ks vs).length = 4 * m := by rw [htb.len]; omega
  have htu := htb.u
  have hrl := rsK_len 2 ks vs
  refine pure_of (C := ctxOpD Tryd.prog ctxOpD_inlOk) ctxOpD_good Tryd.func22 (c := bodyOf Tryd.f22) (by rfl) (Nat.le_of_ble_eq_true (by rfl)) 4 4 [0, 1, 2, 4, 5, 6, 7, 8, 17, 38, 39, 40, 49, 68] ?_
  conv => whnf
  rw [hf]
  conv => whnf
  refine And.intro hf ?_
  conv => whnf
  rw [hh, w1]
  refine ifB_f (by simp) ?_
  conv => whnf
  refine And.intro (by omega) ?_
  conv => whnf
  rw [show cutN (0 + 1) (some 1) none w = w.drop 1 from rfl, hd]
  refine And.intro ⟨by dsimp only [cutL]; omega, htu⟩ ?_
  conv => whnf
  rw [show rightB 2 (tabT 2 m ks vs) = true from hr]
  conv => whnf
  refine And.intro (by omega) ?_
  conv => whnf
  rw [show cutN (0 + 1) (some 1) none w = w.drop 1 from rfl, hd, show cutL q (some 1) none = 4 * m by dsimp only [cutL]; omega]
  repeat (refine And.intro (by first | omega | exact ⟨by omega, htu⟩) ?_; conv => whnf)
  intro l
  conv => whnf
  repeat (refine And.intro (by first | omega | exact ⟨by omega, htu⟩) ?_; conv => whnf)
  rw [hls, hrl]
  rw [show IntKind.u64.wrap ((m : Nat) : Int) = m from wrapU (by omega) (by omega)]
  refine TW.loopD ctxOpD_good 3 (base := 7000000) (lv := [0, 1, 4, 9, 10, 11, 12, 22]) [11] [144] [(144, 144)] (fun j : Nat => [.v (.int .i64 j)]) (fun j => [.cs [.v (.int .u64 m), .v (.int .u64 j), .ow 136 1 (4 * m)]]) (fun j => j ≤ ks.length) (fun j => ks.length - j) ?_
  conv => whnf
  refine ⟨⟨0, ⟨rfl, rfl, rfl⟩, Nat.zero_le _⟩, fun j hj => ?_⟩
  replace hj : j ≤ ks.length := hj
  conv => whnf
  refine ifB_dec (fun h => ?_) (fun h => ?_)
  · replace h : (j : Int) < ks.length := h
    obtain ⟨k1, k2⟩ := hku j (by omega)
    have E0 : (flat 2 (rsK 2 ks vs)).getD (0 + addN 0 (j : Int).toNat * (1 + 1) + 0) 0 = ks.getD j 0 + 1 := by
      rw [addN_eq, show 0 + (0 + (j : Int).toNat) * (1 + 1) + 0 = j * 2 by omega, flat_key (.inr rfl) _ (by rw [hrl]; omega)]
      unfold kR; rw [rsK_get 2 ks vs (by omega)]
    have e1 : IntKind.u64.wrap (ks.getD j 0 + 1 - 1) = ks.getD j 0 := by rw [wrapU (by omega) (by omega)]; omega
    conv => whnf
    repeat (first | (refine And.intro (by omega) ?_; conv => whnf))
    refine ifB_f (by show decide (IntKind.u64.wrap ((flat 2 (rsK 2 ks vs)).getD (0 + addN 0 (j : Int).toNat * (1 + 1) + 0) 0 - 1) > 4611686018427387904) = false; rw [E0, e1]; exact decide_eq_false (by omega)) ?_
    conv => whnf
    repeat (first | (refine And.intro (by first | rfl | omega) ?_; conv => whnf))
    rw [wsucc (j := j) (n := ks.length) (by omega) (by omega), show IntKind.u64.wrap ((j : Int) + 1) = ((j + 1 : Nat) : Int) by rw [wrapU (by omega) (by omega)]; omega]
    exact ⟨j + 1, [(144, 144)], ⟨rfl, rfl, rfl⟩, (by omega : j + 1 ≤ ks.length), by dsimp only; omega⟩
  · replace h : ¬ (j : Int) < ks.length := h
    obtain rfl : j = ks.length := by omega
    conv => whnf
    repeat (first | (refine And.intro (by first | rfl | omega) ?_; conv => whnf))
    refine ifB_f (by show ((ks.length : Int) != w.getD 0 0) = false; rw [h0]; simp) ?_
    conv => whnf
    refine ifB_f (show (bif false then true else decide ((ks.length : Int) > m)) = false from decide_eq_false (by omega)) ?_
    conv => whnf
    repeat' (first | exact trivial | exact rfl | (refine And.intro ?_ ?_) | ((conv => whnf); done) | ((conv => whnf); (first | rfl | (refine congrArg (fun b => T.v (Value.bool b)) ?_; first | rfl | exact (decide_eq_true (by omega)).symm | exact (decide_eq_false (by omega)).symm | exact decide_eq_decide.2 (by omega)) | (refine congrArg (fun b => T.v (Value.int _ b)) ?_; first | rfl | omega) | omega)) | (first | rfl | (refine congrArg (fun b => T.v (Value.bool b)) ?_; first | rfl | exact (decide_eq_true (by omega)).symm | exact (decide_eq_false (by omega)).symm | exact decide_eq_decide.2 (by omega)) | (refine congrArg (fun b => T.v (Value.int _ b)) ?_; first | rfl | omega) | omega))
set_option maxHeartbeats 4000000 in
set_option maxRecDepth 100000 in
theorem openN_pure (k p n : Int) (q : Nat) (w : List Int) (hu : AllU w) (hq : q ≤ 10000) (hN : opE 2 3 k p n w ≠ 0) : Pure Tryd.prog glM 22 [.agg [.v (.int .i64 k), .v (.int .i64 p), .v (.int .i64 n)], .fl [.u64] q w] (.tup [.v (.pointer none), .v (.int .i64 (opE 2 3 k p n w))]) := by
  refine pure_wf fun hww => ?_
  obtain ⟨-, ⟨w1, w2⟩, -⟩ := hww
  simp only [List.length_cons, List.length_nil, Nat.zero_add, Nat.mul_one] at w1
  rcases op_facts kv2 k p n hu with ⟨e0, -⟩ | ⟨-, -, -, hO⟩
  · exact absurd e0 hN
  cases hc : cfB 3 k p n
  · obtain ⟨-, -, e3⟩ := op_no (v := 2) (w := w) hc
    rw [e3]
    refine pure_of (C := ctxOpD Tryd.prog ctxOpD_inlOk) ctxOpD_good Tryd.func22 (c := bodyOf Tryd.f22) (by rfl) (Nat.le_of_ble_eq_true (by rfl)) 4 4 [0, 1, 2, 4, 5, 6, 7, 8, 17, 38, 39, 40, 49, 68] ?_
    conv => whnf
    cases hf : fitsB k p n
    · conv => whnf
      repeat' (first | exact trivial | exact rfl | (refine And.intro ?_ ?_) | ((conv => whnf); done) | ((conv => whnf); (first | rfl | (refine congrArg (fun b => T.v (Value.bool b)) ?_; first | rfl | exact (decide_eq_true (by omega)).symm | exact (decide_eq_false (by omega)).symm | exact decide_eq_decide.2 (by omega)) | (refine congrArg (fun b => T.v (Value.int _ b)) ?_; first | rfl | omega) | omega)) | (first | rfl | (refine congrArg (fun b => T.v (Value.bool b)) ?_; first | rfl | exact (decide_eq_true (by omega)).symm | exact (decide_eq_false (by omega)).symm | exact decide_eq_decide.2 (by omega)) | (refine congrArg (fun b => T.v (Value.int _ b)) ?_; first | rfl | omega) | omega))
    · have hk3 : k ≠ 3 := fun e => by unfold cfB at hc; rw [hf, e] at hc; cases hc
      conv => whnf
      refine ifB_t (show (bif false then true else (k != 3)) = true by simpa using hk3) ?_
      conv => whnf
      repeat' (first | exact trivial | exact rfl | (refine And.intro ?_ ?_) | ((conv => whnf); done) | ((conv => whnf); (first | rfl | (refine congrArg (fun b => T.v (Value.bool b)) ?_; first | rfl | exact (decide_eq_true (by omega)).symm | exact (decide_eq_false (by omega)).symm | exact decide_eq_decide.2 (by omega)) | (refine congrArg (fun b => T.v (Value.int _ b)) ?_; first | rfl | omega) | omega)) | (first | rfl | (refine congrArg (fun b => T.v (Value.bool b)) ?_; first | rfl | exact (decide_eq_true (by omega)).symm | exact (decide_eq_false (by omega)).symm | exact decide_eq_decide.2 (by omega)) | (refine congrArg (fun b => T.v (Value.int _ b)) ?_; first | rfl | omega) | omega))
  · have ho := hO hc
    obtain ⟨-, -, e3⟩ := op_yes (v := 2) (w := w) hc
    rw [(d_no ho).2.2] at e3
    rw [e3]
    obtain ⟨hf, rfl⟩ := cfB_t hc
    have hm := fitsK hf
    obtain ⟨m, rfl⟩ := Int.eq_ofNat_of_zero_le (a := n) (by omega)
    rw [Int.toNat_natCast] at ho
    have hh := home_v (m := m) kv2
    have htu : AllU (w.drop 1) := fun x hx => hu x (List.mem_of_mem_drop hx)
    have hll := lst_len ((2 : Nat) : Int) (w.drop 1)
    rw [List.length_drop] at hll
    have hlm := fun r hr => lst_mem (v := ((2 : Nat) : Int)) (r := r) htu hr
    by_cases hl : q = 1 + 2 * m * 2
    · cases hr : rightB 2 (w.drop 1)
      · refine pure_of (C := ctxOpD Tryd.prog ctxOpD_inlOk) ctxOpD_good Tryd.func22 (c := bodyOf Tryd.f22) (by rfl) (Nat.le_of_ble_eq_true (by rfl)) 4 4 [0, 1, 2, 4, 5, 6, 7, 8, 17, 38, 39, 40, 49, 68] ?_
        conv => whnf
        rw [hf]
        conv => whnf
        refine And.intro hf ?_
        conv => whnf
        rw [hh, ← hl]
        refine ifB_f (by simp) ?_
        conv => whnf
        refine And.intro (by omega) ?_
        conv => whnf
        rw [show cutN (0 + 1) (some 1) none w = w.drop 1 from rfl]
        refine And.intro ⟨by dsimp only [cutL]; omega, htu⟩ ?_
        conv => whnf
        rw [hr]
        conv => whnf
        repeat' (first | exact trivial | exact rfl | (refine And.intro ?_ ?_) | ((conv => whnf); done) | ((conv => whnf); (first | rfl | (refine congrArg (fun b => T.v (Value.bool b)) ?_; first | rfl | exact (decide_eq_true (by omega)).symm | exact (decide_eq_false (by omega)).symm | exact decide_eq_decide.2 (by omega)) | (refine congrArg (fun b => T.v (Value.int _ b)) ?_; first | rfl | omega) | omega)) | (first | rfl | (refine congrArg (fun b => T.v (Value.bool b)) ?_; first | rfl | exact (decide_eq_true (by omega)).symm | exact (decide_eq_false (by omega)).symm | exact decide_eq_decide.2 (by omega)) | (refine congrArg (fun b => T.v (Value.int _ b)) ?_; first | rfl | omega) | omega))
      · have hbad : (∀ r ∈ lstP 2 (w.drop 1), r.1 ≤ 4611686018427387905) → w.getD 0 0 = (lstP 2 (w.drop 1)).length → (lstP 2 (w.drop 1)).length ≤ m → False := fun h1 h2 h3 => by
          have : okD 2 m w = true := by
            unfold okD
            exact decide_eq_true ⟨by omega, hr, h1, h2, h3⟩
          rw [ho] at this; cases this
        rw [show (((2 : Nat) : Int)) = 2 from rfl] at hll hlm
        refine pure_of (C := ctxOpD Tryd.prog ctxOpD_inlOk) ctxOpD_good Tryd.func22 (c := bodyOf Tryd.f22) (by rfl) (Nat.le_of_ble_eq_true (by rfl)) 4 4 [0, 1, 2, 4, 5, 6, 7, 8, 17, 38, 39, 40, 49, 68] ?_
        conv => whnf
        rw [hf]
        conv => whnf
        refine And.intro hf ?_
        conv => whnf
        rw [hh, ← hl]
        refine ifB_f (by simp) ?_
        conv => whnf
        refine And.intro (by omega) ?_
        conv => whnf
        rw [show cutN (0 + 1) (some 1) none w = w.drop 1 from rfl]
        refine And.intro ⟨by dsimp only [cutL]; omega, htu⟩ ?_
        conv => whnf
        rw [hr]
        conv => whnf
        refine And.intro (by omega) ?_
        conv => whnf
        rw [show cutN (0 + 1) (some 1) none w = w.drop 1 from rfl, show cutL q (some 1) none = 4 * m by dsimp only [cutL]; omega]
        repeat (refine And.intro (by first | omega | exact ⟨by omega, htu⟩) ?_; conv => whnf)
        intro l
        conv => whnf
        repeat (refine And.intro (by first | omega | exact ⟨by omega, htu⟩) ?_; conv => whnf)
        generalize lstP 2 (w.drop 1) = L at *
        rw [show IntKind.u64.wrap ((m : Nat) : Int) = m from wrapU (by omega) (by omega)]
        refine TW.loopD ctxOpD_good 3 (base := 7000000) (lv := [0, 1, 4, 9, 10, 11, 12, 22]) [11] [144] [(144, 144)] (fun j : Nat => [.v (.int .i64 j)]) (fun j => [.cs [.v (.int .u64 m), .v (.int .u64 j), .ow 136 1 (4 * m)]]) (fun j => j ≤ L.length ∧ ∀ i, i < j → (gR L i).1 ≤ 4611686018427387905) (fun j => L.length - j) ?_
        conv => whnf
        refine ⟨⟨0, ⟨rfl, rfl, rfl⟩, Nat.zero_le _, fun i hi => by omega⟩, fun j ⟨hj, hg⟩ => ?_⟩
        conv => whnf
        refine ifB_dec (fun h => ?_) (fun h => ?_)
        · replace h : (j : Int) < L.length := h
          obtain ⟨⟨u1, u2⟩, -, u3⟩ := hlm _ (gR_mem (T := L) (j := j) (by omega))
          have E0 : (flat 2 L).getD (0 + addN 0 (j : Int).toNat * (1 + 1) + 0) 0 = (gR L j).1 := by
            rw [addN_eq, show 0 + (0 + (j : Int).toNat) * (1 + 1) + 0 = j * 2 by omega]; exact flat_key (.inr rfl) _ (by omega)
          have e1 : IntKind.u64.wrap ((gR L j).1 - 1) = (gR L j).1 - 1 := wrapU (by omega) (by omega)
          conv => whnf
          repeat (first | (refine And.intro (by omega) ?_; conv => whnf))
          by_cases hb : (gR L j).1 ≤ 4611686018427387905
          · refine ifB_f (by show decide (IntKind.u64.wrap ((flat 2 L).getD (0 + addN 0 (j : Int).toNat * (1 + 1) + 0) 0 - 1) > 4611686018427387904) = false; rw [E0, e1]; exact decide_eq_false (by omega)) ?_
            conv => whnf
            repeat (first | (refine And.intro (by first | rfl | omega) ?_; conv => whnf))
            rw [wsucc (j := j) (n := L.length) (by omega) (by omega), show IntKind.u64.wrap ((j : Int) + 1) = ((j + 1 : Nat) : Int) by rw [wrapU (by omega) (by omega)]; omega]
            refine ⟨j + 1, [(144, 144)], ⟨rfl, rfl, rfl⟩, ⟨(by omega : j + 1 ≤ L.length), fun i hi => ?_⟩, by dsimp only; omega⟩
            by_cases z : i = j
            · rw [z]; exact hb
            · exact hg i (by omega)
          · refine ifB_t (by show decide (IntKind.u64.wrap ((flat 2 L).getD (0 + addN 0 (j : Int).toNat * (1 + 1) + 0) 0 - 1) > 4611686018427387904) = true; rw [E0, e1]; exact decide_eq_true (by omega)) ?_
            conv => whnf
            repeat (first | (refine And.intro (by first | rfl | omega) ?_; conv => whnf))
            repeat' (first | exact trivial | exact rfl | (refine And.intro ?_ ?_) | ((conv => whnf); done) | ((conv => whnf); (first | rfl | (refine congrArg (fun b => T.v (Value.bool b)) ?_; first | rfl | exact (decide_eq_true (by omega)).symm | exact (decide_eq_false (by omega)).symm | exact decide_eq_decide.2 (by omega)) | (refine congrArg (fun b => T.v (Value.int _ b)) ?_; first | rfl | omega) | omega)) | (first | rfl | (refine congrArg (fun b => T.v (Value.bool b)) ?_; first | rfl | exact (decide_eq_true (by omega)).symm | exact (decide_eq_false (by omega)).symm | exact decide_eq_decide.2 (by omega)) | (refine congrArg (fun b => T.v (Value.int _ b)) ?_; first | rfl | omega) | omega))
        · replace h : ¬ (j : Int) < L.length := h
          obtain rfl : j = L.length := by omega
          have hall : ∀ r ∈ L, r.1 ≤ 4611686018427387905 := fun r hr => by
            obtain ⟨i, hi, rfl⟩ := List.getElem_of_mem hr
            have := hg i hi
            unfold gR at this; rw [List.getD_eq_getElem?_getD, List.getElem?_eq_getElem hi] at this
            exact this
          have hb2 := hbad hall
          conv => whnf
          repeat (first | (refine And.intro (by first | rfl | omega) ?_; conv => whnf))
          by_cases hz : w.getD 0 0 = L.length
          · refine ifB_f (by show ((L.length : Int) != w.getD 0 0) = false; rw [hz]; simp) ?_
            conv => whnf
            refine ifB_t (show (bif false then true else decide ((L.length : Int) > m)) = true from decide_eq_true (by have h9 : ¬ L.length ≤ m := hb2 hz; omega)) ?_
            conv => whnf
            repeat' (first | exact trivial | exact rfl | (refine And.intro ?_ ?_) | ((conv => whnf); done) | ((conv => whnf); (first | rfl | (refine congrArg (fun b => T.v (Value.bool b)) ?_; first | rfl | exact (decide_eq_true (by omega)).symm | exact (decide_eq_false (by omega)).symm | exact decide_eq_decide.2 (by omega)) | (refine congrArg (fun b => T.v (Value.int _ b)) ?_; first | rfl | omega) | omega)) | (first | rfl | (refine congrArg (fun b => T.v (Value.bool b)) ?_; first | rfl | exact (decide_eq_true (by omega)).symm | exact (decide_eq_false (by omega)).symm | exact decide_eq_decide.2 (by omega)) | (refine congrArg (fun b => T.v (Value.int _ b)) ?_; first | rfl | omega) | omega))
          · refine ifB_t (by show ((L.length : Int) != w.getD 0 0) = true; simp; exact fun e => hz e.symm) ?_
            conv => whnf
            repeat' (first | exact trivial | exact rfl | (refine And.intro ?_ ?_) | ((conv => whnf); done) | ((conv => whnf); (first | rfl | (refine congrArg (fun b => T.v (Value.bool b)) ?_; first | rfl | exact (decide_eq_true (by omega)).symm | exact (decide_eq_false (by omega)).symm | exact decide_eq_decide.2 (by omega)) | (refine congrArg (fun b => T.v (Value.int _ b)) ?_; first | rfl | omega) | omega)) | (first | rfl | (refine congrArg (fun b => T.v (Value.bool b)) ?_; first | rfl | exact (decide_eq_true (by omega)).symm | exact (decide_eq_false (by omega)).symm | exact decide_eq_decide.2 (by omega)) | (refine congrArg (fun b => T.v (Value.int _ b)) ?_; first | rfl | omega) | omega))
    · refine pure_of (C := ctxOpD Tryd.prog ctxOpD_inlOk) ctxOpD_good Tryd.func22 (c := bodyOf Tryd.f22) (by rfl) (Nat.le_of_ble_eq_true (by rfl)) 4 4 [0, 1, 2, 4, 5, 6, 7, 8, 17, 38, 39, 40, 49, 68] ?_
      conv => whnf
      rw [hf]
      conv => whnf
      refine And.intro hf ?_
      conv => whnf
      rw [hh]
      refine ifB_t (by simp; omega) ?_
      conv => whnf
      repeat' (first | exact trivial | exact rfl | (refine And.intro ?_ ?_) | ((conv => whnf); done) | ((conv => whnf); (first | rfl | (refine congrArg (fun b => T.v (Value.bool b)) ?_; first | rfl | exact (decide_eq_true (by omega)).symm | exact (decide_eq_false (by omega)).symm | exact decide_eq_decide.2 (by omega)) | (refine congrArg (fun b => T.v (Value.int _ b)) ?_; first | rfl | omega) | omega)) | (first | rfl | (refine congrArg (fun b => T.v (Value.bool b)) ?_; first | rfl | exact (decide_eq_true (by omega)).symm | exact (decide_eq_false (by omega)).symm | exact decide_eq_decide.2 (by omega)) | (refine congrArg (fun b => T.v (Value.int _ b)) ?_; first | rfl | omega) | omega))
noncomputable def eOpenDY : Entry := ⟨22, 6, fun l => match l with
  | [.agg [.v (.int .i64 k), .v (.int .i64 p), .v (.int .i64 n)], .fl [.u64] q w] => some (some (AllU w ∧ opE 2 3 k p n w = 0), .tup [.op 0 0 3 0 3, .v (.int .i64 0)], [(0, .cs [.v (.int .u64 n), .v (.int .u64 (opK 2 3 k p n w).length), .ow 1 1 (4 * n.toNat)]), (1, .fl [.u64] (tabT 2 n.toNat (opK 2 3 k p n w) (opV 2 3 k p n w)))])
  | _ => none⟩
theorem eOpenDY_ok : eOpenDY.ok Tryd.prog glM := ⟨Am.enters_of Tryd.func22 (by kernel_rfl) (by kernel_rfl), by
  intro args c t bs h hc
  simp only [eOpenDY] at h
  split at h <;> cases h
  rename_i k p n q w
  obtain ⟨hu, h0⟩ := hc _ rfl
  rcases op_facts kv2 k p n hu with ⟨-, rfl, hf, hT, hE, -⟩ | ⟨h1, -⟩
  · have hm := fitsK hf
    obtain ⟨m, rfl⟩ := Int.eq_ofNat_of_zero_le (a := n) (by omega)
    rw [Int.toNat_natCast] at hT hE
    exact openY_pure p m q w _ _ hu hf hT hE
  · omega⟩
noncomputable def eOpenDN : Entry := ⟨22, 6, fun l => match l with
  | [.agg [.v (.int .i64 k), .v (.int .i64 p), .v (.int .i64 n)], .fl [.u64] q w] => some (some (AllU w ∧ q ≤ 10000 ∧ opE 2 3 k p n w ≠ 0), .tup [.v (.pointer none), .v (.int .i64 (opE 2 3 k p n w))], [])
  | _ => none⟩
theorem eOpenDN_ok : eOpenDN.ok Tryd.prog glM := ⟨Am.enters_of Tryd.func22 (by kernel_rfl) (by kernel_rfl), by
  intro args c t bs h hc
  simp only [eOpenDN] at h
  split at h <;> cases h
  rename_i k p n q w
  obtain ⟨hu, hq, h0⟩ := hc _ rfl
  exact openN_pure k p n q w hu hq h0⟩
end Go.Proofs.YtnplgklnkcjmnaaDoor.DcT
namespace Go.Proofs.YtnplgklnkcjmnaaDoor.DcT
open Go.RowKit Go.Proofs.YtnplgklnkcjmnaaDoor.Am Go.Proofs.YtnplgklnkcjmnaaDoor Go.Proofs.YtnplgklnkcjmnaaDoor.PrT
set_option linter.unusedVariables false
set_option linter.unusedSimpArgs false


noncomputable def ctxWdD (P : Program) : Ctx := ctx P glM [] [] (noEq P) [] (fun _ h => by cases h)
theorem ctxWdD_good : (ctxWdD Tryd.prog).good := ctx_good (by kernel_rfl) (fun _ h => by cases h) glM_two
set_option maxRecDepth 100000 in
theorem wordsD_pure (most cnt : Int) (n : Nat) (t : List Int) (hn : n ≤ 100000) : Pure Tryd.prog glM 26 [.sp [.v (.int .u64 most), .v (.int .u64 cnt), .fl [.u64] n t] 0] (.ow 0 1 (1 + n)) [(0, .fl [.u64] (cnt :: t))] := by
  refine pure_of (C := ctxWdD Tryd.prog) ctxWdD_good Tryd.func26 (c := bodyOf Tryd.f26) (by rfl) (Nat.le_of_ble_eq_true (by rfl)) 4 0 [0, 2] ?_
  conv => whnf
  repeat (refine And.intro (by omega) ?_; conv => whnf)
  repeat' (first | exact trivial | exact rfl | (refine And.intro ?_ ?_) | ((conv => whnf); done) | ((conv => whnf); (first | rfl | (refine congrArg (fun b => T.v (Value.bool b)) ?_; first | rfl | exact (decide_eq_true (by omega)).symm | exact (decide_eq_false (by omega)).symm | exact decide_eq_decide.2 (by omega)) | (refine congrArg (fun b => T.v (Value.int _ b)) ?_; first | rfl | omega) | omega)) | (first | rfl | (refine congrArg (fun b => T.v (Value.bool b)) ?_; first | rfl | exact (decide_eq_true (by omega)).symm | exact (decide_eq_false (by omega)).symm | exact decide_eq_decide.2 (by omega)) | (refine congrArg (fun b => T.v (Value.int _ b)) ?_; first | rfl | omega) | omega))
noncomputable def eWordsD : Entry := ⟨26, 4, fun l => match l with | [.sp [.v (.int .u64 most), .v (.int .u64 cnt), .fl [.u64] n t] 0] => some (some (n ≤ 100000), .ow 0 1 (1 + n), [(0, .fl [.u64] (List.cons cnt t))]) | _ => none⟩
theorem eWordsD_ok : eWordsD.ok Tryd.prog glM := ⟨Am.enters_of Tryd.func26 (by kernel_rfl) (by kernel_rfl), by
  intro args c t bs h hc
  simp only [eWordsD] at h
  split at h <;> cases h
  replace hc := hc _ rfl
  exact wordsD_pure _ _ _ _ hc⟩
noncomputable def iPut : Inl := ⟨25, Tryd.f25, bodyOf Tryd.f25, [0, 1, 2, 6, 7, 8, 9, 17, 26]⟩
theorem iPut_ok : iPut.ok Tryd.prog := Inl.mk_ok Tryd.func25 (by rfl) (by kernel_rfl) (by kernel_rfl)
noncomputable def iGet : Inl := ⟨42, Tryd.f42, bodyOf Tryd.f42, [0, 1, 4, 5, 6, 7, 19]⟩
theorem iGet_ok : iGet.ok Tryd.prog := Inl.mk_ok Tryd.func42 (by rfl) (by kernel_rfl) (by kernel_rfl)
noncomputable def iCon : Inl := ⟨23, Tryd.f23, bodyOf Tryd.f23, [0, 1, 4]⟩
theorem iCon_ok : iCon.ok Tryd.prog := Inl.mk_ok Tryd.func23 (by rfl) (by kernel_rfl) (by kernel_rfl)
noncomputable def iIdx : Inl := ⟨41, Tryd.f41, bodyOf Tryd.f41, [0, 1, 4, 5, 7, 8, 9, 16]⟩
theorem iIdx_ok : iIdx.ok Tryd.prog := Inl.mk_ok Tryd.func41 (by rfl) (by kernel_rfl) (by kernel_rfl)
noncomputable def iUp1 : Inl := ⟨24, Tryd.f24, bodyOf Tryd.f24, [0, 1, 2]⟩
theorem iUp1_ok : iUp1.ok Tryd.prog := Inl.mk_ok Tryd.func24 (by rfl) (by kernel_rfl) (by kernel_rfl)
noncomputable def ctxUpD_inl : List Inl := [iPut, iGet, iCon, iIdx, iUp1]
theorem ctxUpD_inlOk : InlOk Tryd.prog ctxUpD_inl := ⟨iPut_ok, iGet_ok, iCon_ok, iIdx_ok, iUp1_ok, trivial⟩
noncomputable def ctxUpD (P : Program) (h : InlOk P ctxUpD_inl) : Ctx := ctx P glM [eOpenDY, eWordsD, eFindP, ePut] [] (noEq P) ctxUpD_inl h.mem
theorem ctxUpD_good : (ctxUpD Tryd.prog ctxUpD_inlOk).good := ctx_good (by kernel_rfl) (AllOk.mem ⟨eOpenDY_ok, eWordsD_ok, eFindP_ok, ePut_ok, trivial⟩) glM_two
noncomputable def ctxUpN (P : Program) : Ctx := ctx P glM [eOpenDN] [] (noEq P) [] (fun _ h => by cases h)
theorem ctxUpN_good : (ctxUpN Tryd.prog).good := ctx_good (by kernel_rfl) (AllOk.mem ⟨eOpenDN_ok, trivial⟩) glM_two
attribute [local irreducible] fitsB rightT okD encT homeI tabT opK opV opE prD tabD upS recs fndP putL putE hereK atK insK
set_option maxHeartbeats 2000000 in
set_option maxRecDepth 100000 in
theorem update_pure (k p n : Int) (q c : Nat) (w xs : List Int) (hu : AllU w) (hx : AllU xs) (hq : q ≤ 10000) (hc : c ≤ 1000) : Pure Tryd.prog glM 8 [.agg [.v (.int .i64 k), .v (.int .i64 p), .v (.int .i64 n)], .fl [.u64] q w, .fl [.u64, .u64] c xs] (.tup [.ow 0 1 (updL k p n w (recs c 2 xs)).length, .v (.int .i64 (updE k p n w (recs c 2 xs)))]) [(0, .fl [.u64] (updL k p n w (recs c 2 xs)))] := by
  refine pure_wf fun hw => ?_
  obtain ⟨-, ⟨w1, w2⟩, ⟨w3, w4⟩, -⟩ := hw
  simp only [List.length_cons, List.length_nil, Nat.zero_add, Nat.mul_one] at w1 w3
  have hF := op_facts kv2 k p n hu
  have hLl : (recs c 2 xs).length = c := recs_len _ _ _
  have hLg : ∀ j, j < c → gR (recs c 2 xs) j = (xs.getD (j * 2) 0, xs.getD (j * 2 + 1) 0) := fun j hj => recs2_get hj
  have hLu := recs_u (n := c) (v := 2) hx
  generalize hL : recs c 2 xs = L at *
  rcases hF with ⟨e0, rfl, hf, hT, hE, hO⟩ | ⟨e0, -, -, -⟩
  · have hn := fitsK hf
    obtain ⟨m, rfl⟩ := Int.eq_ofNat_of_zero_le (a := n) (by omega)
    rw [Int.toNat_natCast] at hT
    have hex : (∃ r ∈ L, r.1 > 4611686018427387904) → updE 3 p m w L = 1 ∧ updL 3 p m w L = [] := fun h => by
      have : updE 3 p m w L = 1 := by unfold updE; rw [e0, if_neg (fun q => q rfl), if_pos h]
      exact ⟨this, by unfold updL; rw [this, if_neg (by decide)]⟩
    refine pure_of (C := ctxUpD Tryd.prog ctxUpD_inlOk) ctxUpD_good Tryd.func8 (c := bodyOf Tryd.f8) (by rfl) (Nat.le_of_ble_eq_true (by rfl)) 4 4 [0, 1, 2, 3, 6, 7, 8, 9, 11, 13, 21, 24, 25, 26, 27, 28, 41] ?_
    conv => whnf
    refine And.intro ⟨hu, e0⟩ ?_
    conv => whnf
    rw [Int.toNat_natCast]
    refine TW.loopD ctxUpD_good 4 (base := 70000000000) (lv := [0, 1, 4, 5, 7, 8, 9, 16]) [8] [] [] (fun j : Nat => [.v (.int .i64 j)]) (fun _ => []) (fun j => j ≤ c ∧ ∀ i, i < j → kR L i ≤ 4611686018427387904) (fun j => c - j) ?_
    conv => whnf
    refine ⟨⟨0, ⟨rfl, rfl, rfl⟩, Nat.zero_le _, fun i hi => by omega⟩, fun j ⟨hj, hg⟩ => ?_⟩
    conv => whnf
    refine ifB_dec (fun h => ?_) (fun h => ?_)
    · replace h : (j : Int) < c := h
      have E0 : xs.getD (0 + addN 0 (j : Int).toNat * (1 + 1) + 0) 0 = kR L j := by
        unfold kR; rw [hLg j (by omega), addN_eq, show 0 + (0 + (j : Int).toNat) * (1 + 1) + 0 = j * 2 by omega]
      conv => whnf
      repeat (refine And.intro (by omega) ?_; conv => whnf)
      by_cases hb : kR L j ≤ 4611686018427387904
      · refine ifB_f (by show decide (xs.getD (0 + addN 0 (j : Int).toNat * (1 + 1) + 0) 0 > 4611686018427387904) = false; rw [E0]; exact decide_eq_false (by omega)) ?_
        conv => whnf
        repeat (refine And.intro (by omega) ?_; conv => whnf)
        rw [wsucc (j := j) (n := c) (by omega) (by omega)]
        refine ⟨j + 1, [], ⟨rfl, rfl, rfl⟩, ⟨(by omega : j + 1 ≤ c), fun i hi => ?_⟩, by dsimp only; omega⟩
        by_cases z : i = j
        · rw [z]; exact hb
        · exact hg i (by omega)
      · obtain ⟨x1, x2⟩ := hex ⟨gR L j, gR_mem (by omega), by unfold kR at hb; omega⟩
        rw [x1, x2]
        refine ifB_t (by show decide (xs.getD (0 + addN 0 (j : Int).toNat * (1 + 1) + 0) 0 > 4611686018427387904) = true; rw [E0]; exact decide_eq_true (by omega)) ?_
        conv => whnf
        repeat' (first | exact trivial | exact rfl | (refine And.intro ?_ ?_) | ((conv => whnf); done) | ((conv => whnf); (first | rfl | (refine congrArg (fun b => T.v (Value.bool b)) ?_; first | rfl | exact (decide_eq_true (by omega)).symm | exact (decide_eq_false (by omega)).symm | exact decide_eq_decide.2 (by omega)) | (refine congrArg (fun b => T.v (Value.int _ b)) ?_; first | rfl | omega) | omega)) | (first | rfl | (refine congrArg (fun b => T.v (Value.bool b)) ?_; first | rfl | exact (decide_eq_true (by omega)).symm | exact (decide_eq_false (by omega)).symm | exact decide_eq_decide.2 (by omega)) | (refine congrArg (fun b => T.v (Value.int _ b)) ?_; first | rfl | omega) | omega))
    · replace h : ¬ (j : Int) < c := h
      obtain rfl : j = c := by omega
      have hok : ¬ ∃ r ∈ L, r.1 > 4611686018427387904 := by
        rintro ⟨r, hr, hb⟩
        obtain ⟨i, hi, rfl⟩ := List.getElem_of_mem hr
        have := hg i (by omega)
        have e : gR L i = L[i] := by unfold gR; rw [List.getD_eq_getElem?_getD, List.getElem?_eq_getElem hi]; rfl
        unfold kR at this; rw [e] at this
        omega
      have huE : updE 3 p m w L = if upS m (opK 2 3 3 p m w, opV 2 3 3 p m w) L = none then 11 else 0 := by
        unfold updE; rw [e0, if_neg (fun q => q rfl), if_neg hok]
      have huS : updS 3 p m w L = (upS m (opK 2 3 3 p m w, opV 2 3 3 p m w) L).getD ([], []) := rfl
      have huL : updL 3 p m w L = if updE 3 p m w L = 0 then encT 2 (m : Int).toNat (updS 3 p m w L).1 (updS 3 p m w L).2 else [] := rfl
      rw [Int.toNat_natCast] at huL
      conv => whnf
      generalize hk0 : opK 2 3 3 p m w = k0 at *
      generalize hv0 : opV 2 3 3 p m w = v0 at *
      refine TW.loopD ctxUpD_good 4 (base := 0) (lv := [0, 1, 2, 3, 6, 7, 8, 9, 11, 13, 21, 24, 25, 26, 27, 28, 41]) [27] [68, 69] [(68, 68), (69, 69)] (fun x : Nat × List Int × List Int => [.v (.int .i64 x.1)]) (fun x => [.cs [.v (.int .u64 m), .v (.int .u64 x.2.1.length), .ow 69 1 (4 * m)], .fl [.u64] (tabT 2 m x.2.1 x.2.2)]) (fun x => x.1 ≤ j ∧ upS m (k0, v0) (L.take x.1) = some (x.2.1, x.2.2)) (fun x => j - x.1) ?_
      conv => whnf
      refine ⟨⟨(0, k0, v0), ⟨rfl, rfl, rfl⟩, Nat.zero_le _, upS_nil _ _⟩, fun ⟨i, ks, vs⟩ ⟨hi, hs⟩ => ?_⟩
      replace hi : i ≤ j := hi
      replace hs : upS m (k0, v0) (L.take i) = some (ks, vs) := hs
      have hTi : TabV 3 m ks vs := upS_v (s := (k0, v0)) (s' := (ks, vs)) hT (fun r hr => hLu r (List.mem_of_mem_take hr)) hs
      have hkl := hTi.len
      have htb := hTi.tb kv2
      have htu := htb.u
      have htl : (tabT 2 m ks vs).length = 4 * m := by rw [htb.len]; omega
      have hen := hTi.enc_len kv2
      conv => whnf
      refine ifB_dec (fun h => ?_) (fun h => ?_)
      · replace h : (i : Int) < j := h
        obtain ⟨u1, u2⟩ := hLu _ (gR_mem (T := L) (j := i) (by omega))
        have hkm : (gR L i).1 ≤ 4611686018427387904 := hg i (by omega)
        have E0 : xs.getD (0 + addN 0 (i : Int).toNat * (1 + 1) + 0) 0 = (gR L i).1 := by
          rw [hLg i (by omega), addN_eq, show 0 + (0 + (i : Int).toNat) * (1 + 1) + 0 = i * 2 by omega]
        have E1 : xs.getD (0 + addN 0 (i : Int).toNat * (1 + 1) + (0 + 1)) 0 = (gR L i).2 := by
          rw [hLg i (by omega), addN_eq, show 0 + (0 + (i : Int).toNat) * (1 + 1) + (0 + 1) = i * 2 + 1 by omega]
        have hsn : upS m (k0, v0) (L.take (i + 1)) = putO m (ks, vs) (gR L i) := by
          rw [take_snocR (by omega), upS_snoc, hs]; rfl
        have hpu : putO m (ks, vs) (gR L i) = if (tabD 3 m ks vs 11 (gR L i).1 (gR L i).2).2.2.1 = 0 then some ((tabD 3 m ks vs 11 (gR L i).1 (gR L i).2).1, (tabD 3 m ks vs 11 (gR L i).1 (gR L i).2).2.1) else none := rfl
        conv => whnf
        repeat (refine And.intro (by omega) ?_; conv => whnf)
        refine And.intro ⟨by omega, htu⟩ ?_
        conv => whnf
        obtain ⟨f1, f2⟩ := dfnd hTi (by omega) (by omega) (gR L i).1 (by unfold U64 at u1; omega)
        obtain ⟨u1a, u1b⟩ := id u1
        have e1 : IntKind.u64.wrap ((gR L i).1 + 1) = (gR L i).1 + 1 := wrapU (by omega) (by omega)
        have G0 : IntKind.u64.wrap ((([0, 0].set (0 + 0 * (1 + 1) + 0) (xs.getD (0 + (i : Int).toNat * (1 + 1) + 0) 0)).set (0 + 0 * (1 + 1) + (0 + 1)) (xs.getD (0 + (i : Int).toNat * (1 + 1) + (0 + 1)) 0)).getD (0 + 0 * (1 + 1)) 0 + 1) = (gR L i).1 + 1 := by
          show IntKind.u64.wrap (xs.getD (0 + (i : Int).toNat * (1 + 1) + 0) 0 + 1) = _
          rw [show xs.getD (0 + (i : Int).toNat * (1 + 1) + 0) 0 = (gR L i).1 from E0, e1]
        have G1 : (([0, 0].set (0 + 0 * (1 + 1) + 0) (xs.getD (0 + (i : Int).toNat * (1 + 1) + 0) 0)).set (0 + 0 * (1 + 1) + (0 + 1)) (xs.getD (0 + (i : Int).toNat * (1 + 1) + (0 + 1)) 0)).getD (0 + 1 + 0 * (1 + 1)) 0 = (gR L i).2 := E1
        rw [show (((i, ks, vs) : Nat × List Int × List Int).1) = i from rfl, G0]
        cases hh : hereK 3 ks (gR L i).1
        · rw [f2 hh]
          conv => whnf
          by_cases hm2 : ks.length = m
          · have hd := put_full hTi ⟨u1a, hkm⟩ hh hm2 (val := (gR L i).2)
            have hpn : putO m (ks, vs) (gR L i) = none := by unfold putO; dsimp only; rw [hd]; rfl
            have hno : upS m (k0, v0) L = none := by
              rw [← List.take_append_drop (i + 1) L]
              exact upS_none _ _ _ _ (by rw [hsn, hpn])
            rw [hno] at huE
            rw [if_pos rfl] at huE
            rw [huE, if_neg (by decide)] at huL
            rw [huE, huL]
            refine ifB_t (show ((ks.length : Int) == m) = true by simp; omega) ?_
            conv => whnf
            repeat' (first | exact trivial | exact rfl | (refine And.intro ?_ ?_) | ((conv => whnf); done) | ((conv => whnf); (first | rfl | (refine congrArg (fun b => T.v (Value.bool b)) ?_; first | rfl | exact (decide_eq_true (by omega)).symm | exact (decide_eq_false (by omega)).symm | exact decide_eq_decide.2 (by omega)) | (refine congrArg (fun b => T.v (Value.int _ b)) ?_; first | rfl | omega) | omega)) | (first | rfl | (refine congrArg (fun b => T.v (Value.bool b)) ?_; first | rfl | exact (decide_eq_true (by omega)).symm | exact (decide_eq_false (by omega)).symm | exact decide_eq_decide.2 (by omega)) | (refine congrArg (fun b => T.v (Value.int _ b)) ?_; first | rfl | omega) | omega))
          · obtain ⟨hd, hT2, hP⟩ := put_new hTi (by omega) (by omega) ⟨u1a, hkm⟩ u2 hh hm2
            rw [hd, if_pos rfl] at hpu
            refine ifB_f (show ((ks.length : Int) == m) = false by simp; omega) ?_
            conv => whnf
            refine And.intro ⟨by omega, htu, by rw [G0]; unfold U64; omega⟩ ?_
            conv => whnf
            have htl2 : (tabT 2 m (insK ks (atK 3 ks (gR L i).1) (gR L i).1) (insK vs (atK 3 ks (gR L i).1) (gR L i).2)).length = 4 * m := by rw [(hT2.tb kv2).len]; omega
            have hil := insK_len (l := ks) (a := atK 3 ks (gR L i).1) (w := (gR L i).1) (atK_le _ _ _)
            rw [G0, G1, hP, htl2, wsucc (j := i) (n := j) (by omega) (by omega), show IntKind.u64.wrap ((((i, ks, vs) : Nat × List Int × List Int).2.1.length : Int) + 1) = ((insK ks (atK 3 ks (gR L i).1) (gR L i).1).length : Int) by rw [hil, wrapU (by omega) (by dsimp only; omega)]; dsimp only; omega]
            exact ⟨(i + 1, _, _), [(68, 68), (610484, 69)], ⟨rfl, rfl, rfl⟩, ⟨(by omega : i + 1 ≤ j), hsn.trans hpu⟩, by dsimp only; omega⟩
        · obtain ⟨pp, hp, hf1, hf3⟩ := f1 hh
          obtain ⟨hd, hT2, hP⟩ := put_here hTi (by omega) (by omega) ⟨u1a, hkm⟩ u2 hh
          rw [hd, if_pos rfl] at hpu
          have hi2 : IntKind.i64.wrap (IntKind.i64.wrap ((pp : Int) * 2) + 1) = ((pp * 2 + 1 : Nat) : Int) := by
            rw [wrap64 (a := (pp : Int) * 2) (by omega) (by omega), wrap64 (by omega) (by omega)]; omega
          rw [hf1]
          conv => whnf
          rw [if_neg (show ¬ (pp : Int) < 0 by omega), hi2]
          refine And.intro (by omega) ?_
          conv => whnf
          refine And.intro ⟨by omega, htu, by rw [G0]; unfold U64; omega⟩ ?_
          conv => whnf
          have htl2 : (tabT 2 m ks (vs.set (atK 3 ks (gR L i).1) (gR L i).2)).length = 4 * m := by rw [(hT2.tb kv2).len]; omega
          rw [G0, G1, hP, htl2, wsucc (j := i) (n := j) (by omega) (by omega)]
          exact ⟨(i + 1, ks, vs.set (atK 3 ks (gR L i).1) (gR L i).2), [(68, 68), (610484, 69)], ⟨rfl, rfl, rfl⟩, ⟨(by omega : i + 1 ≤ j), hsn.trans hpu⟩, by dsimp only; omega⟩
      · replace h : ¬ (i : Int) < j := h
        obtain rfl : i = j := by omega
        conv => whnf
        rw [List.take_of_length_le (by omega)] at hs
        rw [hs] at huE huS
        rw [if_neg (by simp)] at huE
        rw [huE, if_pos rfl, huS] at huL
        rw [huE, huL]
        simp only [Option.getD_some] at *
        rw [hen, show encT 2 m ks vs = (ks.length : Int) :: tabT 2 m ks vs by unfold encT; rfl, show 1 + 2 * m * 2 = 1 + 4 * m by omega]
        refine And.intro (by omega) ?_
        conv => whnf
        repeat' (first | exact trivial | exact rfl | (refine And.intro ?_ ?_) | ((conv => whnf); done) | ((conv => whnf); (first | rfl | (refine congrArg (fun b => T.v (Value.bool b)) ?_; first | rfl | exact (decide_eq_true (by omega)).symm | exact (decide_eq_false (by omega)).symm | exact decide_eq_decide.2 (by omega)) | (refine congrArg (fun b => T.v (Value.int _ b)) ?_; first | rfl | omega) | omega)) | (first | rfl | (refine congrArg (fun b => T.v (Value.bool b)) ?_; first | rfl | exact (decide_eq_true (by omega)).symm | exact (decide_eq_false (by omega)).symm | exact decide_eq_decide.2 (by omega)) | (refine congrArg (fun b => T.v (Value.int _ b)) ?_; first | rfl | omega) | omega))
  · have hne : opE 2 3 k p n w ≠ 0 := by omega
    have e1 : updE k p n w L = opE 2 3 k p n w := by unfold updE; rw [if_pos hne]
    have e2 : updL k p n w L = [] := by unfold updL; rw [e1, if_neg hne]
    rw [e1, e2]
    refine pure_of (C := ctxUpN Tryd.prog) ctxUpN_good Tryd.func8 (c := bodyOf Tryd.f8) (by rfl) (Nat.le_of_ble_eq_true (by rfl)) 4 0 [0, 1, 2, 3, 6, 7, 8, 9, 11, 13, 21, 24, 25, 26, 27, 28, 41] ?_
    conv => whnf
    refine And.intro ⟨hu, hq, hne⟩ ?_
    conv => whnf
    refine ifB_ne (fun h => ?_) (fun h => absurd h hne)
    conv => whnf
    repeat' (first | exact trivial | exact rfl | (refine And.intro ?_ ?_) | ((conv => whnf); done) | ((conv => whnf); (first | rfl | (refine congrArg (fun b => T.v (Value.bool b)) ?_; first | rfl | exact (decide_eq_true (by omega)).symm | exact (decide_eq_false (by omega)).symm | exact decide_eq_decide.2 (by omega)) | (refine congrArg (fun b => T.v (Value.int _ b)) ?_; first | rfl | omega) | omega)) | (first | rfl | (refine congrArg (fun b => T.v (Value.bool b)) ?_; first | rfl | exact (decide_eq_true (by omega)).symm | exact (decide_eq_false (by omega)).symm | exact decide_eq_decide.2 (by omega)) | (refine congrArg (fun b => T.v (Value.int _ b)) ?_; first | rfl | omega) | omega))
end Go.Proofs.YtnplgklnkcjmnaaDoor.DcT
namespace Go.Proofs.YtnplgklnkcjmnaaDoor.DcT
open Go.RowKit Go.Proofs.YtnplgklnkcjmnaaDoor.Am Go.Proofs.YtnplgklnkcjmnaaDoor Go.Proofs.YtnplgklnkcjmnaaDoor.PrT
set_option linter.unusedVariables false
set_option linter.unusedSimpArgs false


noncomputable def eUpdate : Entry := ⟨8, 8, fun l => match l with
  | [.agg [.v (.int .i64 k), .v (.int .i64 p), .v (.int .i64 n)], .fl [.u64] q w, .fl [.u64, .u64] c xs] => some (some (AllU w ∧ AllU xs ∧ q ≤ 10000 ∧ c ≤ 1000), .tup [.ow 0 1 (updL k p n w (recs c 2 xs)).length, .v (.int .i64 (updE k p n w (recs c 2 xs)))], [(0, .fl [.u64] (updL k p n w (recs c 2 xs)))])
  | _ => none⟩
theorem eUpdate_ok : eUpdate.ok Tryd.prog glM := ⟨Am.enters_of Tryd.func8 (by kernel_rfl) (by kernel_rfl), by
  intro args c t bs h hc
  simp only [eUpdate] at h
  split at h <;> cases h
  obtain ⟨h1, h2, h3, h4⟩ := hc _ rfl
  exact update_pure _ _ _ _ _ _ _ h1 h2 h3 h4⟩
noncomputable def ctxPsD_inl : List Inl := [iPairs, iPairs1]
theorem ctxPsD_inlOk : InlOk Tryd.prog ctxPsD_inl := ⟨iPairs_ok, iPairs1_ok, trivial⟩
noncomputable def ctxPsD (P : Program) (h : InlOk P ctxPsD_inl) : Ctx := ctx P glM [eOpenDY, eList] [] (noEq P) ctxPsD_inl h.mem
theorem ctxPsD_good : (ctxPsD Tryd.prog ctxPsD_inlOk).good := ctx_good (by kernel_rfl) (AllOk.mem ⟨eOpenDY_ok, eList_ok, trivial⟩) glM_two
attribute [local irreducible] fitsB rightT okD encT homeI tabT opK opV opE prD lstP rsK
set_option maxHeartbeats 2000000 in
set_option maxRecDepth 100000 in
theorem pairs_pure (k p n : Int) (q : Nat) (w : List Int) (hu : AllU w) (hq : q ≤ 10000) : Pure Tryd.prog glM 20 [.agg [.v (.int .i64 k), .v (.int .i64 p), .v (.int .i64 n)], .fl [.u64] q w] (.tup [.ow 0 2 (opK 2 3 k p n w).length, .v (.int .i64 (opE 2 3 k p n w))]) [(0, .fl [.u64, .u64] (flat 2 (prD (opK 2 3 k p n w) (opV 2 3 k p n w))))] := by
  rcases op_facts kv2 k p n hu with ⟨e0, rfl, hf, hT, -, -⟩ | ⟨e0, e1, e2, -⟩
  · have hn := fitsK hf
    obtain ⟨m, rfl⟩ := Int.eq_ofNat_of_zero_le (a := n) (by omega)
    rw [Int.toNat_natCast] at hT
    refine pure_of (C := ctxPsD Tryd.prog ctxPsD_inlOk) ctxPsD_good Tryd.func20 (c := bodyOf Tryd.f20) (by rfl) (Nat.le_of_ble_eq_true (by rfl)) 4 4 [0, 1, 2, 4, 5, 6, 7, 8, 16, 19, 20, 21] ?_
    conv => whnf
    refine And.intro ⟨hu, e0⟩ ?_
    conv => whnf
    rw [Int.toNat_natCast, e0]
    generalize opK 2 3 3 p m w = ks at *
    generalize opV 2 3 3 p m w = vs at *
    have hkl := hT.len
    have hku : ∀ i, i < ks.length → 0 ≤ ks.getD i 0 ∧ ks.getD i 0 ≤ 4611686018427387904 := fun i hi => hT.k_u kv2 hi
    have htb := hT.tb kv2
    have htu := htb.u
    have hls : lstP 2 (tabT 2 m ks vs) = rsK 2 ks vs := hT.lst kv2 (by omega) (by omega)
    have hrl := rsK_len 2 ks vs
    intro l
    conv => whnf
    repeat (refine And.intro (by first | omega | exact ⟨by omega, htu⟩) ?_; conv => whnf)
    rw [hls, hrl]
    refine TW.nilOwnB 16 0 5000 2 _ (.fl [.u64, .u64] []) rfl rfl rfl (.inr ⟨_, _, rfl⟩) (by decide) ?_
    refine TW.loopD ctxPsD_good 4 (base := 7000000) (lv := [0, 1, 4, 9, 10, 11, 12, 22]) [11] [16, 5000] [(16, 16), (5000, 5000)] (fun j : Nat => [.v (.int .i64 j)]) (fun j => [.cs [.ow 5000 2 j], .fl [.u64, .u64] (flat 2 ((prD ks vs).take j))]) (fun j => j ≤ ks.length) (fun j => ks.length - j) ?_
    conv => whnf
    refine ⟨⟨0, ⟨rfl, rfl, rfl⟩, Nat.zero_le _⟩, fun j hj => ?_⟩
    replace hj : j ≤ ks.length := hj
    conv => whnf
    refine ifB_dec (fun h => ?_) (fun h => ?_)
    · replace h : (j : Int) < ks.length := h
      have hs := prD_take vs (ks := ks) (j := j) (by omega)
      obtain ⟨k1, k2⟩ := hku j (by omega)
      have E0 : (flat 2 (rsK 2 ks vs)).getD (0 + addN 0 (j : Int).toNat * (1 + 1) + 0) 0 = ks.getD j 0 + 1 := by
        rw [addN_eq, show 0 + (0 + (j : Int).toNat) * (1 + 1) + 0 = j * 2 by omega, flat_key (.inr rfl) _ (by rw [hrl]; omega)]
        unfold kR; rw [rsK_get 2 ks vs (by omega)]
      have E1 : (flat 2 (rsK 2 ks vs)).getD (0 + addN 0 (j : Int).toNat * (1 + 1) + (0 + 1)) 0 = vs.getD j 0 := by
        rw [addN_eq, show 0 + (0 + (j : Int).toNat) * (1 + 1) + (0 + 1) = j * 2 + 1 by omega, flat_val _ (by rw [hrl]; omega), rsK_get 2 ks vs (by omega)]
        rfl
      have e1 : IntKind.u64.wrap (ks.getD j 0 + 1 - 1) = ks.getD j 0 := by rw [wrapU (by omega) (by omega)]; omega
      conv => whnf
      repeat (refine And.intro (by first | rfl | omega | (show j + 1 ≤ 1099511627776; omega)) ?_; conv => whnf)
      rw [wsucc (j := j) (n := ks.length) (by omega) (by omega)]
      refine ⟨j + 1, [(16, 16), (28672348276, 5000)], ⟨rfl, rfl, ?_⟩, (by omega : j + 1 ≤ ks.length), by dsimp only; omega⟩
      have G : flat 2 ((prD ks vs).take (j + 1)) = flat 2 ((prD ks vs).take j) ++ [IntKind.u64.wrap ((flat 2 (rsK 2 ks vs)).getD (0 + addN 0 (j : Int).toNat * (1 + 1) + 0) 0 - 1), (flat 2 (rsK 2 ks vs)).getD (0 + addN 0 (j : Int).toNat * (1 + 1) + (0 + 1)) 0] := by
        rw [hs, flat_append, E0, E1, e1]; rfl
      show _ = (16, Blk.cs [Am.T.ow 5000 2 (j + 1)]) :: (5000, Blk.fl [.u64, .u64] (flat 2 ((prD ks vs).take (j + 1)))) :: _
      rw [G]; rfl
    · replace h : ¬ (j : Int) < ks.length := h
      obtain rfl : j = ks.length := by omega
      conv => whnf
      repeat (refine And.intro (by first | rfl | omega) ?_; conv => whnf)
      rw [List.take_of_length_le (by rw [prD_len]; exact Nat.le_refl _)]
      repeat' (first | exact trivial | exact rfl | (refine And.intro ?_ ?_) | ((conv => whnf); done) | ((conv => whnf); (first | rfl | (refine congrArg (fun b => T.v (Value.bool b)) ?_; first | rfl | exact (decide_eq_true (by omega)).symm | exact (decide_eq_false (by omega)).symm | exact decide_eq_decide.2 (by omega)) | (refine congrArg (fun b => T.v (Value.int _ b)) ?_; first | rfl | omega) | omega)) | (first | rfl | (refine congrArg (fun b => T.v (Value.bool b)) ?_; first | rfl | exact (decide_eq_true (by omega)).symm | exact (decide_eq_false (by omega)).symm | exact decide_eq_decide.2 (by omega)) | (refine congrArg (fun b => T.v (Value.int _ b)) ?_; first | rfl | omega) | omega))
  · have hne : opE 2 3 k p n w ≠ 0 := by omega
    rw [e1, e2]
    refine pure_of (C := ctxUpN Tryd.prog) ctxUpN_good Tryd.func20 (c := bodyOf Tryd.f20) (by rfl) (Nat.le_of_ble_eq_true (by rfl)) 4 0 [0, 1, 2, 4, 5, 6, 7, 8, 16, 19, 20, 21] ?_
    conv => whnf
    refine And.intro ⟨hu, hq, hne⟩ ?_
    conv => whnf
    refine ifB_ne (fun h => ?_) (fun h => absurd h hne)
    conv => whnf
    rw [show prD [] [] = [] by unfold prD; rfl]
    repeat' (first | exact trivial | exact rfl | (refine And.intro ?_ ?_) | ((conv => whnf); done) | ((conv => whnf); (first | rfl | (refine congrArg (fun b => T.v (Value.bool b)) ?_; first | rfl | exact (decide_eq_true (by omega)).symm | exact (decide_eq_false (by omega)).symm | exact decide_eq_decide.2 (by omega)) | (refine congrArg (fun b => T.v (Value.int _ b)) ?_; first | rfl | omega) | omega)) | (first | rfl | (refine congrArg (fun b => T.v (Value.bool b)) ?_; first | rfl | exact (decide_eq_true (by omega)).symm | exact (decide_eq_false (by omega)).symm | exact decide_eq_decide.2 (by omega)) | (refine congrArg (fun b => T.v (Value.int _ b)) ?_; first | rfl | omega) | omega))
end Go.Proofs.YtnplgklnkcjmnaaDoor.DcT
namespace Go.Proofs.YtnplgklnkcjmnaaDoor.DcT
open Go.RowKit Go.Proofs.YtnplgklnkcjmnaaDoor.Am Go.Proofs.YtnplgklnkcjmnaaDoor Go.Proofs.YtnplgklnkcjmnaaDoor.PrT
set_option linter.unusedVariables false
set_option linter.unusedSimpArgs false


noncomputable def ePairs : Entry := ⟨20, 8, fun l => match l with
  | [.agg [.v (.int .i64 k), .v (.int .i64 p), .v (.int .i64 n)], .fl [.u64] q w] => some (some (AllU w ∧ q ≤ 10000), .tup [.ow 0 2 (opK 2 3 k p n w).length, .v (.int .i64 (opE 2 3 k p n w))], [(0, .fl [.u64, .u64] (flat 2 (prD (opK 2 3 k p n w) (opV 2 3 k p n w))))])
  | _ => none⟩
theorem ePairs_ok : ePairs.ok Tryd.prog glM := ⟨Am.enters_of Tryd.func20 (by kernel_rfl) (by kernel_rfl), by
  intro args c t bs h hc
  simp only [ePairs] at h
  split at h <;> cases h
  obtain ⟨h1, h2⟩ := hc _ rfl
  exact pairs_pure _ _ _ _ _ h1 h2⟩
noncomputable def iCall : Inl := ⟨27, Tryd.f27, bodyOf Tryd.f27, [0, 1, 2, 4, 5, 6, 7, 8, 11, 14, 17]⟩
theorem iCall_ok : iCall.ok Tryd.prog := Inl.mk_ok Tryd.func27 (by rfl) (by kernel_rfl) (by kernel_rfl)
noncomputable def iCall1 : Inl := ⟨44, Tryd.f44, bodyOf Tryd.f44, [0, 1, 3, 4, 5, 6]⟩
theorem iCall1_ok : iCall1.ok Tryd.prog := Inl.mk_ok Tryd.func44 (by rfl) (by kernel_rfl) (by kernel_rfl)
noncomputable def iCall2 : Inl := ⟨46, Tryd.f46, bodyOf Tryd.f46, [0, 1, 2, 4, 5, 6, 7]⟩
theorem iCall2_ok : iCall2.ok Tryd.prog := Inl.mk_ok Tryd.func46 (by rfl) (by kernel_rfl) (by kernel_rfl)
noncomputable def iCall3 : Inl := ⟨47, Tryd.f47, bodyOf Tryd.f47, [0, 1, 3, 4, 5, 6, 13]⟩
theorem iCall3_ok : iCall3.ok Tryd.prog := Inl.mk_ok Tryd.func47 (by rfl) (by kernel_rfl) (by kernel_rfl)
noncomputable def iCall4 : Inl := ⟨49, Tryd.f49, bodyOf Tryd.f49, [0, 1, 2, 4, 5, 6, 8, 9, 10, 22]⟩
theorem iCall4_ok : iCall4.ok Tryd.prog := Inl.mk_ok Tryd.func49 (by rfl) (by kernel_rfl) (by kernel_rfl)
noncomputable def iUnless : Inl := ⟨45, Tryd.f45, bodyOf Tryd.f45, [0, 1, 4, 5]⟩
theorem iUnless_ok : iUnless.ok Tryd.prog := Inl.mk_ok Tryd.func45 (by rfl) (by kernel_rfl) (by kernel_rfl)
noncomputable def ctxApD_inl : List Inl := [iCall, iCall1, iCall2, iCall3, iCall4, iUnless, iPairs, iPairs1, iGet, iPut]
theorem ctxApD_inlOk : InlOk Tryd.prog ctxApD_inl := ⟨iCall_ok, iCall1_ok, iCall2_ok, iCall3_ok, iCall4_ok, iUnless_ok, iPairs_ok, iPairs1_ok, iGet_ok, iPut_ok, trivial⟩
noncomputable def ctxApD (P : Program) (h : InlOk P ctxApD_inl) : Ctx := ctx P glM [eOpenDY, eWordsD, eFindP, ePut, eDel, eList] [] (noEq P) ctxApD_inl h.mem
theorem ctxApD_good : (ctxApD Tryd.prog ctxApD_inlOk).good := ctx_good (by kernel_rfl) (AllOk.mem ⟨eOpenDY_ok, eWordsD_ok, eFindP_ok, ePut_ok, eDel_ok, eList_ok, trivial⟩) glM_two
attribute [local irreducible] fitsB rightT okD encT homeI tabT opK opV opE prD tabD upS recs fndP putL putE delL delE hereK atK insK delK nxK lstP rsK
section
variable {p : Int} {m q : Nat} {w : List Int} {code key val : Int}
/-- What is to be shown of a call. -/
def ApG (p : Int) (m q : Nat) (w : List Int) (code key val : Int) : Prop := Pure Tryd.prog glM 11 [.agg [.v (.int .i64 3), .v (.int .i64 p), .v (.int .i64 m)], .fl [.u64] q w, .agg [.v (.int .i64 code), .v (.int .u64 key), .v (.int .u64 val)]]
  (.tup [.ow 0 1 (encT 2 m (tabD 3 m (opK 2 3 3 p m w) (opV 2 3 3 p m w) code key val).1 (tabD 3 m (opK 2 3 3 p m w) (opV 2 3 3 p m w) code key val).2.1).length, .agg [.v (.int .i64 (tabD 3 m (opK 2 3 3 p m w) (opV 2 3 3 p m w) code key val).2.2.1), .v (.int .u64 (tabD 3 m (opK 2 3 3 p m w) (opV 2 3 3 p m w) code key val).2.2.2)], .v (.int .i64 0)])
  [(0, .fl [.u64] (encT 2 m (tabD 3 m (opK 2 3 3 p m w) (opV 2 3 3 p m w) code key val).1 (tabD 3 m (opK 2 3 3 p m w) (opV 2 3 3 p m w) code key val).2.1))]
variable (hu : AllU w) (e0 : opE 2 3 3 p m w = 0) (hf : fitsB 3 p m = true) (hT : TabV 3 m (opK 2 3 3 p m w) (opV 2 3 3 p m w)) (hk : U64 key) (hv : U64 val)
set_option maxHeartbeats 2000000 in
set_option maxRecDepth 100000 in
include hu e0 hf hT in
theorem ap_count : ApG p m q w 9 key val := by
  have hn := fitsK hf
  unfold ApG
  rw [tabD_count rfl]
  refine pure_of (C := ctxApD Tryd.prog ctxApD_inlOk) ctxApD_good Tryd.func11 (c := bodyOf Tryd.f11) (by rfl) (Nat.le_of_ble_eq_true (by rfl)) 4 5 [0, 1, 2, 3, 5, 6, 7, 8, 9, 10, 11, 12, 13, 21, 26, 47] ?_
  conv => whnf
  refine And.intro ⟨hu, e0⟩ ?_
  conv => whnf
  rw [Int.toNat_natCast]
  generalize opK 2 3 3 p m w = ks at *
  generalize opV 2 3 3 p m w = vs at *
  have hkl := hT.len
  have htb := hT.tb kv2
  have htu := htb.u
  have htl : (tabT 2 m ks vs).length = 4 * m := by rw [htb.len]; omega
  have hec : encT 2 m ks vs = (ks.length : Int) :: tabT 2 m ks vs := by unfold encT; rfl
  have hel : (encT 2 m ks vs).length = 1 + 4 * m := by rw [hT.enc_len kv2]; omega
  repeat (refine And.intro (by omega) ?_; conv => whnf)
  dsimp only
  rw [hel, hec]
  repeat' (first | exact trivial | exact rfl | (refine And.intro ?_ ?_) | ((conv => whnf); done) | ((conv => whnf); (first | rfl | (refine congrArg (fun b => T.v (Value.bool b)) ?_; first | rfl | exact (decide_eq_true (by omega)).symm | exact (decide_eq_false (by omega)).symm | exact decide_eq_decide.2 (by omega)) | (refine congrArg (fun b => T.v (Value.int _ b)) ?_; first | rfl | omega) | omega)) | (first | rfl | (refine congrArg (fun b => T.v (Value.bool b)) ?_; first | rfl | exact (decide_eq_true (by omega)).symm | exact (decide_eq_false (by omega)).symm | exact decide_eq_decide.2 (by omega)) | (refine congrArg (fun b => T.v (Value.int _ b)) ?_; first | rfl | omega) | omega))
set_option maxHeartbeats 2000000 in
set_option maxRecDepth 100000 in
include hu e0 hf hT in
theorem ap_other (h : code ≠ 9 ∧ code ≠ 10 ∧ code ≠ 11 ∧ code ≠ 7 ∧ code ≠ 8) : ApG p m q w code key val := by
  have hn := fitsK hf
  obtain ⟨h1, h2, h3, h4, h5⟩ := h
  have htd : tabD 3 m (opK 2 3 3 p m w) (opV 2 3 3 p m w) code key val = (opK 2 3 3 p m w, opV 2 3 3 p m w, 10, 0) := by
    by_cases hx : key ≤ 4611686018427387904
    · rw [tabD_mk kv2 h1 hx]
      unfold plcD
      rw [if_neg h4, if_neg h5, if_neg (fun q => by cases q.2), if_neg (fun q => h2 q.1), if_neg (fun q => by cases q.2), if_neg (fun q => h3 q.1)]
    · exact tabD_bad kv2 h1 hx
  unfold ApG
  rw [htd]
  refine pure_of (C := ctxApD Tryd.prog ctxApD_inlOk) ctxApD_good Tryd.func11 (c := bodyOf Tryd.f11) (by rfl) (Nat.le_of_ble_eq_true (by rfl)) 4 5 [0, 1, 2, 3, 5, 6, 7, 8, 9, 10, 11, 12, 13, 21, 26, 47] ?_
  conv => whnf
  refine And.intro ⟨hu, e0⟩ ?_
  conv => whnf
  rw [Int.toNat_natCast]
  generalize opK 2 3 3 p m w = ks at *
  generalize opV 2 3 3 p m w = vs at *
  have hkl := hT.len
  have htb := hT.tb kv2
  have htu := htb.u
  have htl : (tabT 2 m ks vs).length = 4 * m := by rw [htb.len]; omega
  have hec : encT 2 m ks vs = (ks.length : Int) :: tabT 2 m ks vs := by unfold encT; rfl
  have hel : (encT 2 m ks vs).length = 1 + 4 * m := by rw [hT.enc_len kv2]; omega
  dsimp only
  rw [hel, hec]
  refine ifB_f (by simpa using h1) ?_
  conv => whnf
  refine ifB_f (by simpa using h2) ?_
  conv => whnf
  refine ifB_f (by simpa using h3) ?_
  conv => whnf
  refine ifB_f (by simpa using h4) ?_
  conv => whnf
  refine ifB_f (by simpa using h5) ?_
  conv => whnf
  repeat (refine And.intro (by omega) ?_; conv => whnf)
  repeat' (first | exact trivial | exact rfl | (refine And.intro ?_ ?_) | ((conv => whnf); done) | ((conv => whnf); (first | rfl | (refine congrArg (fun b => T.v (Value.bool b)) ?_; first | rfl | exact (decide_eq_true (by omega)).symm | exact (decide_eq_false (by omega)).symm | exact decide_eq_decide.2 (by omega)) | (refine congrArg (fun b => T.v (Value.int _ b)) ?_; first | rfl | omega) | omega)) | (first | rfl | (refine congrArg (fun b => T.v (Value.bool b)) ?_; first | rfl | exact (decide_eq_true (by omega)).symm | exact (decide_eq_false (by omega)).symm | exact decide_eq_decide.2 (by omega)) | (refine congrArg (fun b => T.v (Value.int _ b)) ?_; first | rfl | omega) | omega))
set_option maxHeartbeats 2000000 in
set_option maxRecDepth 100000 in
include hu e0 hf hT in
theorem ap_big (hc : code = 10 ∨ code = 11 ∨ code = 7 ∨ code = 8) (hx : ¬ key ≤ 4611686018427387904) : ApG p m q w code key val := by
  have hn := fitsK hf
  unfold ApG
  rw [tabD_bad kv2 (by omega) hx]
  rcases hc with rfl | rfl | rfl | rfl
  all_goals (
    refine pure_of (C := ctxApD Tryd.prog ctxApD_inlOk) ctxApD_good Tryd.func11 (c := bodyOf Tryd.f11) (by rfl) (Nat.le_of_ble_eq_true (by rfl)) 4 5 [0, 1, 2, 3, 5, 6, 7, 8, 9, 10, 11, 12, 13, 21, 26, 47] ?_
    conv => whnf
    refine And.intro ⟨hu, e0⟩ ?_
    conv => whnf
    rw [Int.toNat_natCast]
    generalize opK 2 3 3 p m w = ks at *
    generalize opV 2 3 3 p m w = vs at *
    have hkl := hT.len
    have htb := hT.tb kv2
    have htu := htb.u
    have htl : (tabT 2 m ks vs).length = 4 * m := by rw [htb.len]; omega
    have hec : encT 2 m ks vs = (ks.length : Int) :: tabT 2 m ks vs := by unfold encT; rfl
    have hel : (encT 2 m ks vs).length = 1 + 4 * m := by rw [hT.enc_len kv2]; omega
    dsimp only
    rw [hel, hec]
    refine ifB_t (show (bif false then true else decide (key > 4611686018427387904)) = true from decide_eq_true (by omega)) ?_
    conv => whnf
    repeat (refine And.intro (by omega) ?_; conv => whnf)
    repeat' (first | exact trivial | exact rfl | (refine And.intro ?_ ?_) | ((conv => whnf); done) | ((conv => whnf); (first | rfl | (refine congrArg (fun b => T.v (Value.bool b)) ?_; first | rfl | exact (decide_eq_true (by omega)).symm | exact (decide_eq_false (by omega)).symm | exact decide_eq_decide.2 (by omega)) | (refine congrArg (fun b => T.v (Value.int _ b)) ?_; first | rfl | omega) | omega)) | (first | rfl | (refine congrArg (fun b => T.v (Value.bool b)) ?_; first | rfl | exact (decide_eq_true (by omega)).symm | exact (decide_eq_false (by omega)).symm | exact decide_eq_decide.2 (by omega)) | (refine congrArg (fun b => T.v (Value.int _ b)) ?_; first | rfl | omega) | omega)))
set_option maxHeartbeats 2000000 in
set_option maxRecDepth 100000 in
include hu e0 hf hT hk in
theorem ap_get (hx : key ≤ 4611686018427387904) : ApG p m q w 10 key val := by
  have hn := fitsK hf
  obtain ⟨u1, u2⟩ := id hk
  have e1 : IntKind.u64.wrap (key + 1) = key + 1 := wrapU (by omega) (by omega)
  have fG := fun ha => get_here hT (x := key) (val := val) hx ha
  have fN := fun ha => get_no hT (x := key) (val := val) hx ha
  obtain ⟨f1, f2⟩ := dfnd hT (by omega) (by omega) key (by omega)
  unfold ApG
  cases hh : hereK 3 (opK 2 3 3 p m w) key
  · rw [fN hh]
    have f2 := f2 hh
    refine pure_of (C := ctxApD Tryd.prog ctxApD_inlOk) ctxApD_good Tryd.func11 (c := bodyOf Tryd.f11) (by rfl) (Nat.le_of_ble_eq_true (by rfl)) 4 5 [0, 1, 2, 3, 5, 6, 7, 8, 9, 10, 11, 12, 13, 21, 26, 47] ?_
    conv => whnf
    refine And.intro ⟨hu, e0⟩ ?_
    conv => whnf
    rw [Int.toNat_natCast]
    generalize opK 2 3 3 p m w = ks at *
    generalize opV 2 3 3 p m w = vs at *
    have hkl := hT.len
    have htb := hT.tb kv2
    have htu := htb.u
    have htl : (tabT 2 m ks vs).length = 4 * m := by rw [htb.len]; omega
    have hec : encT 2 m ks vs = (ks.length : Int) :: tabT 2 m ks vs := by unfold encT; rfl
    have hel : (encT 2 m ks vs).length = 1 + 4 * m := by rw [hT.enc_len kv2]; omega
    dsimp only
    rw [hel, hec]
    refine ifB_f (show (bif false then true else decide (key > 4611686018427387904)) = false from decide_eq_false (by omega)) ?_
    conv => whnf
    refine And.intro ⟨by omega, htu⟩ ?_
    conv => whnf
    rw [e1, f2]
    conv => whnf
    repeat (refine And.intro (by omega) ?_; conv => whnf)
    repeat' (first | exact trivial | exact rfl | (refine And.intro ?_ ?_) | ((conv => whnf); done) | ((conv => whnf); (first | rfl | (refine congrArg (fun b => T.v (Value.bool b)) ?_; first | rfl | exact (decide_eq_true (by omega)).symm | exact (decide_eq_false (by omega)).symm | exact decide_eq_decide.2 (by omega)) | (refine congrArg (fun b => T.v (Value.int _ b)) ?_; first | rfl | omega) | omega)) | (first | rfl | (refine congrArg (fun b => T.v (Value.bool b)) ?_; first | rfl | exact (decide_eq_true (by omega)).symm | exact (decide_eq_false (by omega)).symm | exact decide_eq_decide.2 (by omega)) | (refine congrArg (fun b => T.v (Value.int _ b)) ?_; first | rfl | omega) | omega))
  · rw [fG hh]
    obtain ⟨pp, hp, f1, f3⟩ := f1 hh
    have hi2 : IntKind.i64.wrap (IntKind.i64.wrap ((pp : Int) * 2) + 1) = ((pp * 2 + 1 : Nat) : Int) := by
      rw [wrap64 (a := (pp : Int) * 2) (by omega) (by omega), wrap64 (by omega) (by omega)]; omega
    refine pure_of (C := ctxApD Tryd.prog ctxApD_inlOk) ctxApD_good Tryd.func11 (c := bodyOf Tryd.f11) (by rfl) (Nat.le_of_ble_eq_true (by rfl)) 4 5 [0, 1, 2, 3, 5, 6, 7, 8, 9, 10, 11, 12, 13, 21, 26, 47] ?_
    conv => whnf
    refine And.intro ⟨hu, e0⟩ ?_
    conv => whnf
    rw [Int.toNat_natCast]
    generalize opK 2 3 3 p m w = ks at *
    generalize opV 2 3 3 p m w = vs at *
    have hkl := hT.len
    have htb := hT.tb kv2
    have htu := htb.u
    have htl : (tabT 2 m ks vs).length = 4 * m := by rw [htb.len]; omega
    have hec : encT 2 m ks vs = (ks.length : Int) :: tabT 2 m ks vs := by unfold encT; rfl
    have hel : (encT 2 m ks vs).length = 1 + 4 * m := by rw [hT.enc_len kv2]; omega
    dsimp only
    rw [hel, hec]
    refine ifB_f (show (bif false then true else decide (key > 4611686018427387904)) = false from decide_eq_false (by omega)) ?_
    conv => whnf
    refine And.intro ⟨by omega, htu⟩ ?_
    conv => whnf
    rw [e1, f1]
    conv => whnf
    rw [if_neg (show ¬ (pp : Int) < 0 by omega), hi2]
    repeat (refine And.intro (by omega) ?_; conv => whnf)
    rw [show (tabT 2 m ks vs).getD (0 + addN 0 ((pp * 2 + 1 : Nat) : Int).toNat * (0 + 1)) 0 = vs.getD (atK 3 ks key) 0 by rw [addN_eq, show 0 + (0 + ((pp * 2 + 1 : Nat) : Int).toNat) * (0 + 1) = pp * 2 + 1 by omega]; exact f3]
    repeat' (first | exact trivial | exact rfl | (refine And.intro ?_ ?_) | ((conv => whnf); done) | ((conv => whnf); (first | rfl | (refine congrArg (fun b => T.v (Value.bool b)) ?_; first | rfl | exact (decide_eq_true (by omega)).symm | exact (decide_eq_false (by omega)).symm | exact decide_eq_decide.2 (by omega)) | (refine congrArg (fun b => T.v (Value.int _ b)) ?_; first | rfl | omega) | omega)) | (first | rfl | (refine congrArg (fun b => T.v (Value.bool b)) ?_; first | rfl | exact (decide_eq_true (by omega)).symm | exact (decide_eq_false (by omega)).symm | exact decide_eq_decide.2 (by omega)) | (refine congrArg (fun b => T.v (Value.int _ b)) ?_; first | rfl | omega) | omega))
set_option maxHeartbeats 2000000 in
set_option maxRecDepth 100000 in
include hu e0 hf hT hk hv in
theorem ap_put (hx : key ≤ 4611686018427387904) : ApG p m q w 11 key val := by
  have hn := fitsK hf
  obtain ⟨u1, u2⟩ := id hk
  have e1 : IntKind.u64.wrap (key + 1) = key + 1 := wrapU (by omega) (by omega)
  have uk1 : U64 (key + 1) := by unfold U64; omega
  have fH := fun ha => put_here hT (by omega) (by omega) (x := key) ⟨u1, hx⟩ hv ha
  have fN := fun ha => put_new hT (by omega) (by omega) (x := key) ⟨u1, hx⟩ hv ha
  have fF := fun ha => put_full hT (x := key) (val := val) ⟨u1, hx⟩ ha
  obtain ⟨f1, f2⟩ := dfnd hT (by omega) (by omega) key (by omega)
  unfold ApG
  cases hh : hereK 3 (opK 2 3 3 p m w) key
  · by_cases hl : (opK 2 3 3 p m w).length = m
    · rw [fF hh hl]
      have f2 := f2 hh
      refine pure_of (C := ctxApD Tryd.prog ctxApD_inlOk) ctxApD_good Tryd.func11 (c := bodyOf Tryd.f11) (by rfl) (Nat.le_of_ble_eq_true (by rfl)) 4 5 [0, 1, 2, 3, 5, 6, 7, 8, 9, 10, 11, 12, 13, 21, 26, 47] ?_
      conv => whnf
      refine And.intro ⟨hu, e0⟩ ?_
      conv => whnf
      rw [Int.toNat_natCast]
      generalize opK 2 3 3 p m w = ks at *
      generalize opV 2 3 3 p m w = vs at *
      have hkl := hT.len
      have htb := hT.tb kv2
      have htu := htb.u
      have htl : (tabT 2 m ks vs).length = 4 * m := by rw [htb.len]; omega
      have hec : encT 2 m ks vs = (ks.length : Int) :: tabT 2 m ks vs := by unfold encT; rfl
      have hel : (encT 2 m ks vs).length = 1 + 4 * m := by rw [hT.enc_len kv2]; omega
      dsimp only
      rw [hel, hec]
      refine ifB_f (show (bif false then true else decide (key > 4611686018427387904)) = false from decide_eq_false (by omega)) ?_
      conv => whnf
      refine And.intro ⟨by omega, htu⟩ ?_
      conv => whnf
      rw [e1, f2]
      conv => whnf
      refine ifB_t (show ((ks.length : Int) == m) = true by simp; omega) ?_
      conv => whnf
      repeat (refine And.intro (by omega) ?_; conv => whnf)
      repeat' (first | exact trivial | exact rfl | (refine And.intro ?_ ?_) | ((conv => whnf); done) | ((conv => whnf); (first | rfl | (refine congrArg (fun b => T.v (Value.bool b)) ?_; first | rfl | exact (decide_eq_true (by omega)).symm | exact (decide_eq_false (by omega)).symm | exact decide_eq_decide.2 (by omega)) | (refine congrArg (fun b => T.v (Value.int _ b)) ?_; first | rfl | omega) | omega)) | (first | rfl | (refine congrArg (fun b => T.v (Value.bool b)) ?_; first | rfl | exact (decide_eq_true (by omega)).symm | exact (decide_eq_false (by omega)).symm | exact decide_eq_decide.2 (by omega)) | (refine congrArg (fun b => T.v (Value.int _ b)) ?_; first | rfl | omega) | omega))
    · obtain ⟨hd, hT2, hP⟩ := fN hh hl
      rw [hd]
      have f2 := f2 hh
      refine pure_of (C := ctxApD Tryd.prog ctxApD_inlOk) ctxApD_good Tryd.func11 (c := bodyOf Tryd.f11) (by rfl) (Nat.le_of_ble_eq_true (by rfl)) 4 5 [0, 1, 2, 3, 5, 6, 7, 8, 9, 10, 11, 12, 13, 21, 26, 47] ?_
      conv => whnf
      refine And.intro ⟨hu, e0⟩ ?_
      conv => whnf
      rw [Int.toNat_natCast]
      generalize opK 2 3 3 p m w = ks at *
      generalize opV 2 3 3 p m w = vs at *
      have hkl := hT.len
      have htb := hT.tb kv2
      have htu := htb.u
      have htl : (tabT 2 m ks vs).length = 4 * m := by rw [htb.len]; omega
      have hec : encT 2 m ks vs = (ks.length : Int) :: tabT 2 m ks vs := by unfold encT; rfl
      have hel : (encT 2 m ks vs).length = 1 + 4 * m := by rw [hT.enc_len kv2]; omega
      have htl2 : (tabT 2 m (insK ks (atK 3 ks key) key) (insK vs (atK 3 ks key) val)).length = 4 * m := by rw [(hT2.tb kv2).len]; omega
      have hil := insK_len (l := ks) (a := atK 3 ks key) (w := key) (atK_le _ _ _)
      have hec2 : encT 2 m (insK ks (atK 3 ks key) key) (insK vs (atK 3 ks key) val) = ((ks.length + 1 : Nat) : Int) :: tabT 2 m (insK ks (atK 3 ks key) key) (insK vs (atK 3 ks key) val) := by unfold encT; rw [hil]
      have hel2 : (encT 2 m (insK ks (atK 3 ks key) key) (insK vs (atK 3 ks key) val)).length = 1 + 4 * m := by rw [hT2.enc_len kv2]; omega
      dsimp only
      rw [hel2, hec2]
      refine ifB_f (show (bif false then true else decide (key > 4611686018427387904)) = false from decide_eq_false (by omega)) ?_
      conv => whnf
      refine And.intro ⟨by omega, htu⟩ ?_
      conv => whnf
      rw [e1, f2]
      conv => whnf
      refine ifB_f (show ((ks.length : Int) == m) = false by simp; omega) ?_
      conv => whnf
      rw [e1]
      refine And.intro ⟨by omega, htu, uk1⟩ ?_
      conv => whnf
      rw [hP, htl2, show IntKind.u64.wrap ((ks.length : Int) + 1) = ((ks.length + 1 : Nat) : Int) by rw [wrapU (by omega) (by omega)]; omega]
      repeat (refine And.intro (by omega) ?_; conv => whnf)
      repeat' (first | exact trivial | exact rfl | (refine And.intro ?_ ?_) | ((conv => whnf); done) | ((conv => whnf); (first | rfl | (refine congrArg (fun b => T.v (Value.bool b)) ?_; first | rfl | exact (decide_eq_true (by omega)).symm | exact (decide_eq_false (by omega)).symm | exact decide_eq_decide.2 (by omega)) | (refine congrArg (fun b => T.v (Value.int _ b)) ?_; first | rfl | omega) | omega)) | (first | rfl | (refine congrArg (fun b => T.v (Value.bool b)) ?_; first | rfl | exact (decide_eq_true (by omega)).symm | exact (decide_eq_false (by omega)).symm | exact decide_eq_decide.2 (by omega)) | (refine congrArg (fun b => T.v (Value.int _ b)) ?_; first | rfl | omega) | omega))
  · obtain ⟨hd, hT2, hP⟩ := fH hh
    rw [hd]
    obtain ⟨pp, hp, f1, f3⟩ := f1 hh
    have hi2 : IntKind.i64.wrap (IntKind.i64.wrap ((pp : Int) * 2) + 1) = ((pp * 2 + 1 : Nat) : Int) := by
      rw [wrap64 (a := (pp : Int) * 2) (by omega) (by omega), wrap64 (by omega) (by omega)]; omega
    refine pure_of (C := ctxApD Tryd.prog ctxApD_inlOk) ctxApD_good Tryd.func11 (c := bodyOf Tryd.f11) (by rfl) (Nat.le_of_ble_eq_true (by rfl)) 4 5 [0, 1, 2, 3, 5, 6, 7, 8, 9, 10, 11, 12, 13, 21, 26, 47] ?_
    conv => whnf
    refine And.intro ⟨hu, e0⟩ ?_
    conv => whnf
    rw [Int.toNat_natCast]
    generalize opK 2 3 3 p m w = ks at *
    generalize opV 2 3 3 p m w = vs at *
    have hkl := hT.len
    have htb := hT.tb kv2
    have htu := htb.u
    have htl : (tabT 2 m ks vs).length = 4 * m := by rw [htb.len]; omega
    have hec : encT 2 m ks vs = (ks.length : Int) :: tabT 2 m ks vs := by unfold encT; rfl
    have hel : (encT 2 m ks vs).length = 1 + 4 * m := by rw [hT.enc_len kv2]; omega
    have htl2 : (tabT 2 m ks (vs.set (atK 3 ks key) val)).length = 4 * m := by rw [(hT2.tb kv2).len]; omega
    have hec2 : encT 2 m ks (vs.set (atK 3 ks key) val) = (ks.length : Int) :: tabT 2 m ks (vs.set (atK 3 ks key) val) := by unfold encT; rfl
    have hel2 : (encT 2 m ks (vs.set (atK 3 ks key) val)).length = 1 + 4 * m := by rw [hT2.enc_len kv2]; omega
    dsimp only
    rw [hel2, hec2]
    refine ifB_f (show (bif false then true else decide (key > 4611686018427387904)) = false from decide_eq_false (by omega)) ?_
    conv => whnf
    refine And.intro ⟨by omega, htu⟩ ?_
    conv => whnf
    rw [e1, f1]
    conv => whnf
    rw [if_neg (show ¬ (pp : Int) < 0 by omega), hi2]
    repeat (refine And.intro (by omega) ?_; conv => whnf)
    rw [e1, show (tabT 2 m ks vs).getD (0 + addN 0 ((pp * 2 + 1 : Nat) : Int).toNat * (0 + 1)) 0 = vs.getD (atK 3 ks key) 0 by rw [addN_eq, show 0 + (0 + ((pp * 2 + 1 : Nat) : Int).toNat) * (0 + 1) = pp * 2 + 1 by omega]; exact f3]
    refine And.intro ⟨by omega, htu, uk1⟩ ?_
    conv => whnf
    rw [hP, htl2]
    repeat (refine And.intro (by omega) ?_; conv => whnf)
    repeat' (first | exact trivial | exact rfl | (refine And.intro ?_ ?_) | ((conv => whnf); done) | ((conv => whnf); (first | rfl | (refine congrArg (fun b => T.v (Value.bool b)) ?_; first | rfl | exact (decide_eq_true (by omega)).symm | exact (decide_eq_false (by omega)).symm | exact decide_eq_decide.2 (by omega)) | (refine congrArg (fun b => T.v (Value.int _ b)) ?_; first | rfl | omega) | omega)) | (first | rfl | (refine congrArg (fun b => T.v (Value.bool b)) ?_; first | rfl | exact (decide_eq_true (by omega)).symm | exact (decide_eq_false (by omega)).symm | exact decide_eq_decide.2 (by omega)) | (refine congrArg (fun b => T.v (Value.int _ b)) ?_; first | rfl | omega) | omega))
set_option maxHeartbeats 2000000 in
set_option maxRecDepth 100000 in
include hu e0 hf hT hk hv in
theorem ap_del (hx : key ≤ 4611686018427387904) : ApG p m q w 7 key val := by
  have hn := fitsK hf
  obtain ⟨u1, u2⟩ := id hk
  have e1 : IntKind.u64.wrap (key + 1) = key + 1 := wrapU (by omega) (by omega)
  have fH := fun ha => del_here hT (by omega) (by omega) (x := key) ⟨u1, hx⟩ hv ha
  have fN := fun ha => del_no (ks := opK 2 3 3 p m w) (vs := opV 2 3 3 p m w) (m := m) kv2 (x := key) (val := val) hx ha
  obtain ⟨f1, f2⟩ := dfnd hT (by omega) (by omega) key (by omega)
  unfold ApG
  cases hh : hereK 3 (opK 2 3 3 p m w) key
  · rw [fN hh]
    have f2 := f2 hh
    refine pure_of (C := ctxApD Tryd.prog ctxApD_inlOk) ctxApD_good Tryd.func11 (c := bodyOf Tryd.f11) (by rfl) (Nat.le_of_ble_eq_true (by rfl)) 4 5 [0, 1, 2, 3, 5, 6, 7, 8, 9, 10, 11, 12, 13, 21, 26, 47] ?_
    conv => whnf
    refine And.intro ⟨hu, e0⟩ ?_
    conv => whnf
    rw [Int.toNat_natCast]
    generalize opK 2 3 3 p m w = ks at *
    generalize opV 2 3 3 p m w = vs at *
    have hkl := hT.len
    have htb := hT.tb kv2
    have htu := htb.u
    have htl : (tabT 2 m ks vs).length = 4 * m := by rw [htb.len]; omega
    have hec : encT 2 m ks vs = (ks.length : Int) :: tabT 2 m ks vs := by unfold encT; rfl
    have hel : (encT 2 m ks vs).length = 1 + 4 * m := by rw [hT.enc_len kv2]; omega
    dsimp only
    rw [hel, hec]
    refine ifB_f (show (bif false then true else decide (key > 4611686018427387904)) = false from decide_eq_false (by omega)) ?_
    conv => whnf
    refine And.intro ⟨by omega, htu⟩ ?_
    conv => whnf
    rw [e1, f2]
    conv => whnf
    repeat (refine And.intro (by omega) ?_; conv => whnf)
    repeat' (first | exact trivial | exact rfl | (refine And.intro ?_ ?_) | ((conv => whnf); done) | ((conv => whnf); (first | rfl | (refine congrArg (fun b => T.v (Value.bool b)) ?_; first | rfl | exact (decide_eq_true (by omega)).symm | exact (decide_eq_false (by omega)).symm | exact decide_eq_decide.2 (by omega)) | (refine congrArg (fun b => T.v (Value.int _ b)) ?_; first | rfl | omega) | omega)) | (first | rfl | (refine congrArg (fun b => T.v (Value.bool b)) ?_; first | rfl | exact (decide_eq_true (by omega)).symm | exact (decide_eq_false (by omega)).symm | exact decide_eq_decide.2 (by omega)) | (refine congrArg (fun b => T.v (Value.int _ b)) ?_; first | rfl | omega) | omega))
  · obtain ⟨hd, hT2, hP⟩ := fH hh
    rw [hd]
    obtain ⟨a1, -⟩ := hereK_t hh
    obtain ⟨pp, hp, f1, f3⟩ := f1 hh
    have hi2 : IntKind.i64.wrap (IntKind.i64.wrap ((pp : Int) * 2) + 1) = ((pp * 2 + 1 : Nat) : Int) := by
      rw [wrap64 (a := (pp : Int) * 2) (by omega) (by omega), wrap64 (by omega) (by omega)]; omega
    refine pure_of (C := ctxApD Tryd.prog ctxApD_inlOk) ctxApD_good Tryd.func11 (c := bodyOf Tryd.f11) (by rfl) (Nat.le_of_ble_eq_true (by rfl)) 4 5 [0, 1, 2, 3, 5, 6, 7, 8, 9, 10, 11, 12, 13, 21, 26, 47] ?_
    conv => whnf
    refine And.intro ⟨hu, e0⟩ ?_
    conv => whnf
    rw [Int.toNat_natCast]
    generalize opK 2 3 3 p m w = ks at *
    generalize opV 2 3 3 p m w = vs at *
    have hkl := hT.len
    have htb := hT.tb kv2
    have htu := htb.u
    have htl : (tabT 2 m ks vs).length = 4 * m := by rw [htb.len]; omega
    have hec : encT 2 m ks vs = (ks.length : Int) :: tabT 2 m ks vs := by unfold encT; rfl
    have hel : (encT 2 m ks vs).length = 1 + 4 * m := by rw [hT.enc_len kv2]; omega
    have htl2 : (tabT 2 m (delK ks (atK 3 ks key)) (delK vs (atK 3 ks key))).length = 4 * m := by rw [(hT2.tb kv2).len]; omega
    have hil := delK_len (l := ks) (a := atK 3 ks key) a1
    have hec2 : encT 2 m (delK ks (atK 3 ks key)) (delK vs (atK 3 ks key)) = ((ks.length - 1 : Nat) : Int) :: tabT 2 m (delK ks (atK 3 ks key)) (delK vs (atK 3 ks key)) := by unfold encT; rw [hil]
    have hel2 : (encT 2 m (delK ks (atK 3 ks key)) (delK vs (atK 3 ks key))).length = 1 + 4 * m := by rw [hT2.enc_len kv2]; omega
    dsimp only
    rw [hel2, hec2]
    refine ifB_f (show (bif false then true else decide (key > 4611686018427387904)) = false from decide_eq_false (by omega)) ?_
    conv => whnf
    refine And.intro ⟨by omega, htu⟩ ?_
    conv => whnf
    rw [e1, f1]
    conv => whnf
    rw [if_neg (show ¬ (pp : Int) < 0 by omega), hi2]
    repeat (refine And.intro (by omega) ?_; conv => whnf)
    rw [e1, show (tabT 2 m ks vs).getD (0 + addN 0 ((pp * 2 + 1 : Nat) : Int).toNat * (0 + 1)) 0 = vs.getD (atK 3 ks key) 0 by rw [addN_eq, show 0 + (0 + ((pp * 2 + 1 : Nat) : Int).toNat) * (0 + 1) = pp * 2 + 1 by omega]; exact f3]
    refine And.intro ⟨by omega, htu⟩ ?_
    conv => whnf
    rw [hP, htl2, show IntKind.u64.wrap ((ks.length : Int) - 1) = ((ks.length - 1 : Nat) : Int) by rw [wrapU (by omega) (by omega)]; omega]
    repeat (refine And.intro (by omega) ?_; conv => whnf)
    repeat' (first | exact trivial | exact rfl | (refine And.intro ?_ ?_) | ((conv => whnf); done) | ((conv => whnf); (first | rfl | (refine congrArg (fun b => T.v (Value.bool b)) ?_; first | rfl | exact (decide_eq_true (by omega)).symm | exact (decide_eq_false (by omega)).symm | exact decide_eq_decide.2 (by omega)) | (refine congrArg (fun b => T.v (Value.int _ b)) ?_; first | rfl | omega) | omega)) | (first | rfl | (refine congrArg (fun b => T.v (Value.bool b)) ?_; first | rfl | exact (decide_eq_true (by omega)).symm | exact (decide_eq_false (by omega)).symm | exact decide_eq_decide.2 (by omega)) | (refine congrArg (fun b => T.v (Value.int _ b)) ?_; first | rfl | omega) | omega))
set_option maxHeartbeats 2000000 in
set_option maxRecDepth 100000 in
include hu e0 hf hT in
theorem ap_next (hx : key ≤ 4611686018427387904) : ApG p m q w 8 key val := by
  have hn := fitsK hf
  have fX := next_is (ks := opK 2 3 3 p m w) (vs := opV 2 3 3 p m w) (m := m) kv2 (x := key) (val := val) hx
  have hku := fun i hi => hT.k_u kv2 (i := i) hi
  have hls : lstP 2 (tabT 2 m (opK 2 3 3 p m w) (opV 2 3 3 p m w)) = rsK 2 (opK 2 3 3 p m w) (opV 2 3 3 p m w) := hT.lst kv2 (by omega) (by omega)
  have hrl := rsK_len 2 (opK 2 3 3 p m w) (opV 2 3 3 p m w)
  have fI := fun j hj h1 h2 => nx_is hT kv2 (x := key) (val := val) (j := j) hj h1 h2
  unfold ApG
  rw [fX]
  refine pure_of (C := ctxApD Tryd.prog ctxApD_inlOk) ctxApD_good Tryd.func11 (c := bodyOf Tryd.f11) (by rfl) (Nat.le_of_ble_eq_true (by rfl)) 4 5 [0, 1, 2, 3, 5, 6, 7, 8, 9, 10, 11, 12, 13, 21, 26, 47] ?_
  conv => whnf
  refine And.intro ⟨hu, e0⟩ ?_
  conv => whnf
  rw [Int.toNat_natCast]
  generalize opK 2 3 3 p m w = ks at *
  generalize opV 2 3 3 p m w = vs at *
  have hkl := hT.len
  have htb := hT.tb kv2
  have htu := htb.u
  have htl : (tabT 2 m ks vs).length = 4 * m := by rw [htb.len]; omega
  have hec : encT 2 m ks vs = (ks.length : Int) :: tabT 2 m ks vs := by unfold encT; rfl
  have hel : (encT 2 m ks vs).length = 1 + 4 * m := by rw [hT.enc_len kv2]; omega
  refine ifB_f (show (bif false then true else decide (key > 4611686018427387904)) = false from decide_eq_false (by omega)) ?_
  conv => whnf
  intro l
  conv => whnf
  repeat (refine And.intro (by first | omega | exact ⟨by omega, htu⟩) ?_; conv => whnf)
  rw [hls, hrl]
  refine TW.loopD ctxApD_good 4 (base := 7000000) (lv := [0, 1, 4, 9, 10, 11, 12, 22]) [11] [] [] (fun j : Nat => [.v (.int .i64 j)]) (fun _ => []) (fun j => j ≤ ks.length ∧ ∀ i, i < j → ¬ (ks.getD i 0 > key ∨ (ks.getD i 0 = key ∧ val = 0))) (fun j => ks.length - j) ?_
  conv => whnf
  refine ⟨⟨0, ⟨rfl, rfl, rfl⟩, Nat.zero_le _, fun i hi => by omega⟩, fun j ⟨hj, hg⟩ => ?_⟩
  conv => whnf
  refine ifB_dec (fun h => ?_) (fun h => ?_)
  · replace h : (j : Int) < ks.length := h
    obtain ⟨k1, k2⟩ := hku j (by omega)
    have E0 : (flat 2 (rsK 2 ks vs)).getD (0 + addN 0 (j : Int).toNat * (1 + 1) + 0) 0 = ks.getD j 0 + 1 := by
      rw [addN_eq, show 0 + (0 + (j : Int).toNat) * (1 + 1) + 0 = j * 2 by omega, flat_key (.inr rfl) _ (by rw [hrl]; omega)]
      unfold kR; rw [rsK_get 2 ks vs (by omega)]
    have e1 : IntKind.u64.wrap (ks.getD j 0 + 1 - 1) = ks.getD j 0 := by rw [wrapU (by omega) (by omega)]; omega
    have G0 : IntKind.u64.wrap ((([0, 0].set (0 + 0 * (1 + 1) + 0) ((flat 2 (rsK 2 ks vs)).getD (0 + addN 0 (j : Int).toNat * (1 + 1) + 0) 0)).set (0 + 0 * (1 + 1) + (0 + 1)) ((flat 2 (rsK 2 ks vs)).getD (0 + addN 0 (j : Int).toNat * (1 + 1) + (0 + 1)) 0)).getD (0 + 0 * (1 + 1)) 0 - 1) = ks.getD j 0 := by
      show IntKind.u64.wrap ((flat 2 (rsK 2 ks vs)).getD (0 + addN 0 (j : Int).toNat * (1 + 1) + 0) 0 - 1) = _
      rw [E0, e1]
    conv => whnf
    repeat (refine And.intro (by omega) ?_; conv => whnf)
    rw [G0]
    by_cases hgo : ks.getD j 0 > key ∨ (ks.getD j 0 = key ∧ val = 0)
    · have hnx := fI j (by omega) hg (fun _ => hgo)
      rw [hnx, if_neg (by omega)]
      dsimp only
      rw [hel, hec]
      by_cases hg1 : ks.getD j 0 > key
      · refine ifB_t (decide_eq_true hg1) ?_
        conv => whnf
        repeat (refine And.intro (by first | rfl | omega) ?_; conv => whnf)
        repeat' (first | exact trivial | exact rfl | (refine And.intro ?_ ?_) | ((conv => whnf); done) | ((conv => whnf); (first | rfl | (refine congrArg (fun b => T.v (Value.bool b)) ?_; first | rfl | exact (decide_eq_true (by omega)).symm | exact (decide_eq_false (by omega)).symm | exact decide_eq_decide.2 (by omega)) | (refine congrArg (fun b => T.v (Value.int _ b)) ?_; first | rfl | omega) | omega)) | (first | rfl | (refine congrArg (fun b => T.v (Value.bool b)) ?_; first | rfl | exact (decide_eq_true (by omega)).symm | exact (decide_eq_false (by omega)).symm | exact decide_eq_decide.2 (by omega)) | (refine congrArg (fun b => T.v (Value.int _ b)) ?_; first | rfl | omega) | omega))
      · obtain ⟨hg2, hg3⟩ := hgo.resolve_left hg1
        subst hg3
        refine ifB_f (decide_eq_false hg1) ?_
        conv => whnf
        refine ifB_t (show (ks.getD j 0 == key) = true from beq_iff_eq.2 hg2) ?_
        conv => whnf
        repeat (refine And.intro (by first | rfl | omega) ?_; conv => whnf)
        repeat' (first | exact trivial | exact rfl | (refine And.intro ?_ ?_) | ((conv => whnf); done) | ((conv => whnf); (first | rfl | (refine congrArg (fun b => T.v (Value.bool b)) ?_; first | rfl | exact (decide_eq_true (by omega)).symm | exact (decide_eq_false (by omega)).symm | exact decide_eq_decide.2 (by omega)) | (refine congrArg (fun b => T.v (Value.int _ b)) ?_; first | rfl | omega) | omega)) | (first | rfl | (refine congrArg (fun b => T.v (Value.bool b)) ?_; first | rfl | exact (decide_eq_true (by omega)).symm | exact (decide_eq_false (by omega)).symm | exact decide_eq_decide.2 (by omega)) | (refine congrArg (fun b => T.v (Value.int _ b)) ?_; first | rfl | omega) | omega))
    · have hg1 : ¬ ks.getD j 0 > key := fun q => hgo (.inl q)
      refine ifB_f (decide_eq_false hg1) ?_
      conv => whnf
      refine ifB_eq (x := ks.getD j 0) (y := key) (fun hg2 => ?_) (fun hg2 => ?_)
      · have hv0 : val ≠ 0 := fun q => hgo (.inr ⟨hg2, q⟩)
        conv => whnf
        refine ifB_f (show (bif false then true else (bif true then (val == 0) else false)) = false by simpa using hv0) ?_
        conv => whnf
        repeat (refine And.intro (by first | rfl | omega) ?_; conv => whnf)
        rw [wsucc (j := j) (n := ks.length) (by omega) (by omega)]
        refine ⟨j + 1, [], ⟨rfl, rfl, rfl⟩, ⟨(by omega : j + 1 ≤ ks.length), fun i hi => ?_⟩, by dsimp only; omega⟩
        by_cases z : i = j
        · rw [z]; exact hgo
        · exact hg i (by omega)
      · conv => whnf
        repeat (refine And.intro (by first | rfl | omega) ?_; conv => whnf)
        rw [wsucc (j := j) (n := ks.length) (by omega) (by omega)]
        refine ⟨j + 1, [], ⟨rfl, rfl, rfl⟩, ⟨(by omega : j + 1 ≤ ks.length), fun i hi => ?_⟩, by dsimp only; omega⟩
        by_cases z : i = j
        · rw [z]; exact hgo
        · exact hg i (by omega)
  · replace h : ¬ (j : Int) < ks.length := h
    obtain rfl : j = ks.length := by omega
    rw [if_pos (fI ks.length (Nat.le_refl _) hg (fun q => by omega))]
    dsimp only
    rw [hel, hec]
    conv => whnf
    repeat (refine And.intro (by first | rfl | omega) ?_; conv => whnf)
    repeat' (first | exact trivial | exact rfl | (refine And.intro ?_ ?_) | ((conv => whnf); done) | ((conv => whnf); (first | rfl | (refine congrArg (fun b => T.v (Value.bool b)) ?_; first | rfl | exact (decide_eq_true (by omega)).symm | exact (decide_eq_false (by omega)).symm | exact decide_eq_decide.2 (by omega)) | (refine congrArg (fun b => T.v (Value.int _ b)) ?_; first | rfl | omega) | omega)) | (first | rfl | (refine congrArg (fun b => T.v (Value.bool b)) ?_; first | rfl | exact (decide_eq_true (by omega)).symm | exact (decide_eq_false (by omega)).symm | exact decide_eq_decide.2 (by omega)) | (refine congrArg (fun b => T.v (Value.int _ b)) ?_; first | rfl | omega) | omega))
end
end Go.Proofs.YtnplgklnkcjmnaaDoor.DcT
namespace Go.Proofs.YtnplgklnkcjmnaaDoor.DcT
open Go.RowKit Go.Proofs.YtnplgklnkcjmnaaDoor.Am Go.Proofs.YtnplgklnkcjmnaaDoor Go.Proofs.YtnplgklnkcjmnaaDoor.PrT
set_option linter.unusedVariables false
set_option linter.unusedSimpArgs false


set_option maxRecDepth 100000 in
theorem apply_pure (k p n : Int) (q : Nat) (w : List Int) (code key val : Int) (hu : AllU w) (hq : q ≤ 10000) (hk : U64 key) (hv : U64 val) : Pure Tryd.prog glM 11 [.agg [.v (.int .i64 k), .v (.int .i64 p), .v (.int .i64 n)], .fl [.u64] q w, .agg [.v (.int .i64 code), .v (.int .u64 key), .v (.int .u64 val)]] (.tup [.ow 0 1 (apL 2 3 k p n w code key val).length, .agg [.v (.int .i64 (apR 2 3 k p n w code key val)), .v (.int .u64 (apV 2 3 k p n w code key val))], .v (.int .i64 (opE 2 3 k p n w))]) [(0, .fl [.u64] (apL 2 3 k p n w code key val))] := by
  rcases op_facts kv2 k p n hu with ⟨e0, rfl, hf, hT, -, -⟩ | ⟨e0, -, -, -⟩
  · have hn := fitsK hf
    obtain ⟨m, rfl⟩ := Int.eq_ofNat_of_zero_le (a := n) (by omega)
    obtain ⟨y1, y2, y3⟩ := ap_yes (code := code) (key := key) (val := val) e0
    rw [Int.toNat_natCast] at hT y1
    rw [y1, y2, y3, e0]
    show ApG p m q w code key val
    by_cases h9 : code = 9
    · subst h9; exact ap_count hu e0 hf hT
    by_cases h10 : code = 10 ∨ code = 11 ∨ code = 7 ∨ code = 8
    · by_cases hx : key ≤ 4611686018427387904
      · rcases h10 with rfl | rfl | rfl | rfl
        · exact ap_get hu e0 hf hT hk hx
        · exact ap_put hu e0 hf hT hk hv hx
        · exact ap_del hu e0 hf hT hk hv hx
        · exact ap_next hu e0 hf hT hx
      · exact ap_big hu e0 hf hT h10 hx
    · exact ap_other hu e0 hf hT (by omega)
  · have hne : opE 2 3 k p n w ≠ 0 := by omega
    obtain ⟨y1, y2, y3⟩ := ap_no (code := code) (key := key) (val := val) hne
    rw [y1, y2, y3]
    refine pure_of (C := ctxUpN Tryd.prog) ctxUpN_good Tryd.func11 (c := bodyOf Tryd.f11) (by rfl) (Nat.le_of_ble_eq_true (by rfl)) 4 0 [0, 1, 2, 3, 5, 6, 7, 8, 9, 10, 11, 12, 13, 21, 26, 47] ?_
    conv => whnf
    refine And.intro ⟨hu, hq, hne⟩ ?_
    conv => whnf
    refine ifB_ne (fun h => ?_) (fun h => absurd h hne)
    conv => whnf
    repeat' (first | exact trivial | exact rfl | (refine And.intro ?_ ?_) | ((conv => whnf); done) | ((conv => whnf); (first | rfl | (refine congrArg (fun b => T.v (Value.bool b)) ?_; first | rfl | exact (decide_eq_true (by omega)).symm | exact (decide_eq_false (by omega)).symm | exact decide_eq_decide.2 (by omega)) | (refine congrArg (fun b => T.v (Value.int _ b)) ?_; first | rfl | omega) | omega)) | (first | rfl | (refine congrArg (fun b => T.v (Value.bool b)) ?_; first | rfl | exact (decide_eq_true (by omega)).symm | exact (decide_eq_false (by omega)).symm | exact decide_eq_decide.2 (by omega)) | (refine congrArg (fun b => T.v (Value.int _ b)) ?_; first | rfl | omega) | omega))
noncomputable def eApply : Entry := ⟨11, 8, fun l => match l with
  | [.agg [.v (.int .i64 k), .v (.int .i64 p), .v (.int .i64 n)], .fl [.u64] q w, .agg [.v (.int .i64 code), .v (.int .u64 key), .v (.int .u64 val)]] => some (some (AllU w ∧ q ≤ 10000 ∧ U64 key ∧ U64 val), .tup [.ow 0 1 (apL 2 3 k p n w code key val).length, .agg [.v (.int .i64 (apR 2 3 k p n w code key val)), .v (.int .u64 (apV 2 3 k p n w code key val))], .v (.int .i64 (opE 2 3 k p n w))], [(0, .fl [.u64] (apL 2 3 k p n w code key val))])
  | _ => none⟩
theorem eApply_ok : eApply.ok Tryd.prog glM := ⟨Am.enters_of Tryd.func11 (by kernel_rfl) (by kernel_rfl), by
  intro args c t bs h hc
  simp only [eApply] at h
  split at h <;> cases h
  obtain ⟨h1, h2, h3, h4⟩ := hc _ rfl
  exact apply_pure _ _ _ _ _ _ _ _ h1 h2 h3 h4⟩
/-! ### the law's own functions -/

set_option maxRecDepth 100000 in
theorem pick12_pure (c n : Int) (hc : I64 c) (hn : 0 < n) (hn2 : n ≤ 4096) : Pure Tryd.prog glR 10 [.v (.int .i64 c), .v (.int .i64 n)] (.v (.int .i64 (ipick c n))) := by
  have hv := ipick_val c n hc
  refine pure_of (C := ctx0 Tryd.prog) ctx0_good Tryd.func10 (c := bodyOf Tryd.f10) (by rfl) (Nat.le_of_ble_eq_true (by rfl)) 4 0 [0, 1, 2, 4, 6] ?_
  conv => whnf
  repeat' (first | (refine ifB_t (by assumption) ?_; conv => whnf) | (refine ifB_f (by assumption) ?_; conv => whnf) | (refine ifB_dec (fun h => ?_) (fun h => ?_) <;> (first | (exfalso; omega) | (conv => whnf))) | (refine ifB_eq (fun h => ?_) (fun h => ?_) <;> (first | (exfalso; omega) | (conv => whnf))) | (refine ifB_ne (fun h => ?_) (fun h => ?_) <;> (first | (exfalso; omega) | (conv => whnf))) | (refine ifB_not ?_; conv => whnf) | (refine ifB_and ?_; conv => whnf) | (refine ifB_or ?_; conv => whnf) | (refine And.intro ?_ ?_; (first | omega | assumption | (exact allU_getD (by assumption) _) | (simp only [cutL]; omega) | (refine And.intro ?_ ?_ <;> first | assumption | exact allU_getD (by assumption) _) | (simp only [cutL, IntKind.wrap_u64, IntKind.wrap_i64] at *; omega) | decide); conv => whnf))
  · rw [if_pos h] at hv; exact congrArg (fun b => T.v (Value.int .i64 b)) hv
  · rw [if_neg h] at hv; exact congrArg (fun b => T.v (Value.int .i64 b)) hv
noncomputable def ePick12 : Entry := ⟨10, 3, fun l => match l with | [.v (.int .i64 c), .v (.int .i64 n)] => some (some (I64 c ∧ 0 < n ∧ n ≤ 4096), .v (.int .i64 (ipick c n)), []) | _ => none⟩
theorem ePick12_ok : ePick12.ok Tryd.prog glR := ⟨Am.enters_of Tryd.func10 (by kernel_rfl) (by kernel_rfl), by
  intro args c t bs h hc
  simp only [ePick12] at h
  split at h <;> cases h
  replace hc := hc _ rfl
  exact pick12_pure _ _ hc.1 hc.2.1 hc.2.2⟩
noncomputable def ctxLw12 (P : Program) : Ctx := ctx P glR [ePick12] [] (noEq P) [] (fun _ h => by cases h)
theorem ctxLw12_good : (ctxLw12 Tryd.prog).good := ctx_good (by kernel_rfl) (AllOk.mem ⟨ePick12_ok, trivial⟩) glR_two
def keyD (n : Int) : Int := if ipick n 16 > 11 then 4611686018427387904 - (ipick n 16 - 12) else ipick n 16
theorem keyD_f (n : Int) : 0 ≤ keyD n ∧ keyD n ≤ 4611686018427387904 := by
  obtain ⟨h1, h2⟩ := ipick_bounds n (n := 16) (by omega)
  unfold keyD; split <;> omega
set_option maxRecDepth 100000 in
theorem key12_pure (n : Int) (hr : I64 n) : Pure Tryd.prog glR 13 [.v (.int .i64 n)] (.v (.int .u64 (keyD n))) := by
  obtain ⟨h1, h2⟩ := ipick_bounds n (n := 16) (by omega)
  have e : IntKind.u64.wrap (ipick n 16) = ipick n 16 := wrapU (by omega) (by omega)
  refine pure_of (C := ctxLw12 Tryd.prog) ctxLw12_good Tryd.func13 (c := bodyOf Tryd.f13) (by rfl) (Nat.le_of_ble_eq_true (by rfl)) 4 0 [0, 2, 3, 8] ?_
  conv => whnf
  refine And.intro ⟨hr, by omega, by omega⟩ ?_
  conv => whnf
  rw [e]
  refine ifB_dec (fun h => ?_) (fun h => ?_)
  · conv => whnf
    rw [wrapU (a := ipick n 16 - 12) (by omega) (by omega), wrapU (by omega) (by omega)]
    unfold keyD; rw [if_pos h]
  · conv => whnf
    unfold keyD; rw [if_neg h]
noncomputable def eKey12 : Entry := ⟨13, 4, fun l => match l with | [.v (.int .i64 n)] => some (some (I64 n), .v (.int .u64 (keyD n)), []) | _ => none⟩
theorem eKey12_ok : eKey12.ok Tryd.prog glR := ⟨Am.enters_of Tryd.func13 (by kernel_rfl) (by kernel_rfl), by
  intro args c t bs h hc
  simp only [eKey12] at h
  split at h <;> cases h
  replace hc := hc _ rfl
  exact key12_pure _ hc⟩
noncomputable def ctxLw12b (P : Program) : Ctx := ctx P glR [ePick12, eKey12] [] (noEq P) [] (fun _ h => by cases h)
theorem ctxLw12b_good : (ctxLw12b Tryd.prog).good := ctx_good (by kernel_rfl) (AllOk.mem ⟨ePick12_ok, eKey12_ok, trivial⟩) glR_two
set_option maxRecDepth 100000 in
theorem pair12_pure (a b : Int) (ha : I64 a) (hb : I64 b) : Pure Tryd.prog glR 7 [.agg [.v (.int .i64 a), .v (.int .i64 b)]] (.agg [.v (.int .u64 (keyD a)), .v (.int .u64 (ipick b 1000))]) := by
  obtain ⟨h1, h2⟩ := ipick_bounds b (n := 1000) (by omega)
  refine pure_of (C := ctxLw12b Tryd.prog) ctxLw12b_good Tryd.func7 (c := bodyOf Tryd.f7) (by rfl) (Nat.le_of_ble_eq_true (by rfl)) 4 0 [0, 1, 2] ?_
  conv => whnf
  repeat (refine And.intro (by first | decide | assumption | exact ⟨by assumption, by decide, by decide⟩) ?_; conv => whnf)
  rw [show IntKind.u64.wrap (ipick ([a, b].getD (0 + 1 + 0 * ([Am.T.v (Value.int IntKind.i64 b)].length + 1)) 0) 1000) = ipick b 1000 from wrapU h1 (by show ipick b 1000 < _; omega)]
  repeat' (first | exact trivial | exact rfl | (refine And.intro ?_ ?_) | ((conv => whnf); done) | ((conv => whnf); (first | rfl | (refine congrArg (fun b => T.v (Value.bool b)) ?_; first | rfl | exact (decide_eq_true (by omega)).symm | exact (decide_eq_false (by omega)).symm | exact decide_eq_decide.2 (by omega)) | (refine congrArg (fun b => T.v (Value.int _ b)) ?_; first | rfl | omega) | omega)) | (first | rfl | (refine congrArg (fun b => T.v (Value.bool b)) ?_; first | rfl | exact (decide_eq_true (by omega)).symm | exact (decide_eq_false (by omega)).symm | exact decide_eq_decide.2 (by omega)) | (refine congrArg (fun b => T.v (Value.int _ b)) ?_; first | rfl | omega) | omega))
noncomputable def ePair12 : Entry := ⟨7, 5, fun l => match l with | [.agg [.v (.int .i64 a), .v (.int .i64 b)]] => some (some (I64 a ∧ I64 b), .agg [.v (.int .u64 (keyD a)), .v (.int .u64 (ipick b 1000))], []) | _ => none⟩
theorem ePair12_ok : ePair12.ok Tryd.prog glR := ⟨Am.enters_of Tryd.func7 (by kernel_rfl) (by kernel_rfl), by
  intro args c t bs h hc
  simp only [ePair12] at h
  split at h <;> cases h
  replace hc := hc _ rfl
  exact pair12_pure _ _ hc.1 hc.2⟩
set_option maxRecDepth 100000 in
theorem zero12_pure (k p : Int) (m : Nat) (hm : m ≤ 1000) : Pure Tryd.prog glR 9 [.agg [.v (.int .i64 k), .v (.int .i64 p), .v (.int .i64 m)]] (.ow 0 1 (1 + 4 * m)) [(0, .fl [.u64] (List.replicate (1 + 4 * m) 0))] := by
  have e : IntKind.i64.wrap (1 + IntKind.i64.wrap (4 * (m : Int))) = ((1 + 4 * m : Nat) : Int) := by rw [wrap64 (a := 4 * (m : Int)) (by omega) (by omega), wrap64 (by omega) (by omega)]; omega
  refine pure_of (C := ctx0 Tryd.prog) ctx0_good Tryd.func9 (c := bodyOf Tryd.f9) (by rfl) (Nat.le_of_ble_eq_true (by rfl)) 4 0 [0, 1, 2] ?_
  conv => whnf
  rw [e]
  refine And.intro (by omega) ?_
  conv => whnf
  rw [Int.toNat_natCast]
  repeat' (first | exact trivial | exact rfl | (refine And.intro ?_ ?_) | ((conv => whnf); done) | ((conv => whnf); (first | rfl | (refine congrArg (fun b => T.v (Value.bool b)) ?_; first | rfl | exact (decide_eq_true (by omega)).symm | exact (decide_eq_false (by omega)).symm | exact decide_eq_decide.2 (by omega)) | (refine congrArg (fun b => T.v (Value.int _ b)) ?_; first | rfl | omega) | omega)) | (first | rfl | (refine congrArg (fun b => T.v (Value.bool b)) ?_; first | rfl | exact (decide_eq_true (by omega)).symm | exact (decide_eq_false (by omega)).symm | exact decide_eq_decide.2 (by omega)) | (refine congrArg (fun b => T.v (Value.int _ b)) ?_; first | rfl | omega) | omega))
noncomputable def eZero12 : Entry := ⟨9, 4, fun l => match l with | [.agg [.v (.int .i64 k), .v (.int .i64 p), .v (.int .i64 n)]] => some (some (0 ≤ n ∧ n ≤ 1000), .ow 0 1 (1 + 4 * n.toNat), [(0, .fl [.u64] (List.replicate (1 + 4 * n.toNat) 0))]) | _ => none⟩
theorem eZero12_ok : eZero12.ok Tryd.prog glR := ⟨Am.enters_of Tryd.func9 (by kernel_rfl) (by kernel_rfl), by
  intro args c t bs h hc
  simp only [eZero12] at h
  split at h <;> cases h
  replace hc := hc _ rfl
  exact (by obtain ⟨h1, h2⟩ := hc; obtain ⟨m, rfl⟩ := Int.eq_ofNat_of_zero_le h1; exact zero12_pure _ _ m (by omega))⟩
end Go.Proofs.YtnplgklnkcjmnaaDoor.DcT
namespace Go.Proofs.YtnplgklnkcjmnaaDoor.DcT
open Go.RowKit Go.Proofs.YtnplgklnkcjmnaaDoor.Am Go.Proofs.YtnplgklnkcjmnaaDoor Go.Proofs.YtnplgklnkcjmnaaDoor.PrT
set_option linter.unusedVariables false
set_option linter.unusedSimpArgs false


section
variable {v m : Nat} {k p : Int} {ks vs ks' vs' : List Int}
theorem op_enc (hk : KV v k) (h : TabV k m ks vs) (hf : fitsB k p m = true) : opE v k k p m (encT v m ks vs) = 0 ∧ opK v k k p m (encT v m ks vs) = ks ∧ opV v k k p m (encT v m ks vs) = vs := by
  have hm := fitsK hf
  have hc : cfB k k p m = true := by unfold cfB; rw [hf]; simp
  obtain ⟨e1, e2, e3⟩ := op_yes (v := v) (w := encT v m ks vs) hc
  obtain ⟨d1, d2, d3⟩ := h.dec hk (by omega) (by omega)
  rw [Int.toNat_natCast] at e1 e2 e3
  obtain ⟨g1, g2, g3⟩ := d_yes d1
  exact ⟨e3.trans g3, e1.trans (g1.trans d2), e2.trans (g2.trans d3)⟩
theorem laid_nil (n : Nat) : laid sP n [] = List.replicate n (0, 0) := rfl
theorem flat_zero (v n : Nat) (hv : v = 1 ∨ v = 2) : flat v (List.replicate n (0, 0)) = List.replicate (n * v) 0 := by
  induction n with
  | zero => simp [flat]
  | succ n ih =>
    rw [List.replicate_succ, flat_cons, ih, Nat.succ_mul]
    rcases hv with rfl | rfl <;> rfl
theorem enc_nil (v m : Nat) (hv : v = 1 ∨ v = 2) : encT v m [] [] = List.replicate (1 + 2 * m * v) 0 := by
  unfold encT tabT
  rw [show rsK v [] [] = [] from rfl, laid_nil, flat_zero v _ hv, Nat.add_comm 1, List.replicate_succ]; rfl
theorem ap_enc (hk : KV v k) (h : TabV k m ks vs) (hf : fitsB k p m = true) (code key val : Int) : apL v k k p m (encT v m ks vs) code key val = encT v m (tabD k m ks vs code key val).1 (tabD k m ks vs code key val).2.1 ∧ apR v k k p m (encT v m ks vs) code key val = (tabD k m ks vs code key val).2.2.1 ∧ apV v k k p m (encT v m ks vs) code key val = (tabD k m ks vs code key val).2.2.2 := by
  obtain ⟨e1, e2, e3⟩ := op_enc hk h hf
  obtain ⟨y1, y2, y3⟩ := ap_yes (code := code) (key := key) (val := val) e1
  rw [e2, e3, Int.toNat_natCast] at y1
  rw [e2, e3] at y2 y3
  exact ⟨y1, y2, y3⟩
end
theorem up_enc {m : Nat} {p : Int} {ks vs : List Int} (h : TabV 3 m ks vs) (hf : fitsB 3 p m = true) (l : List R) (hl : ∀ r ∈ l, r.1 ≤ 4611686018427387904) :
    (upS m (ks, vs) l = none → updE 3 p m (encT 2 m ks vs) l = 11 ∧ updL 3 p m (encT 2 m ks vs) l = []) ∧
    (∀ s, upS m (ks, vs) l = some s → updE 3 p m (encT 2 m ks vs) l = 0 ∧ updL 3 p m (encT 2 m ks vs) l = encT 2 m s.1 s.2) := by
  obtain ⟨e1, e2, e3⟩ := op_enc kv2 h hf
  have hok : ¬ ∃ r ∈ l, r.1 > 4611686018427387904 := fun ⟨r, hr, hb⟩ => by have := hl r hr; omega
  have hE : updE 3 p m (encT 2 m ks vs) l = if upS m (ks, vs) l = none then 11 else 0 := by
    unfold updE; rw [e1, if_neg (fun q => q rfl), if_neg hok, e2, e3]
  constructor
  · intro hn
    rw [hn, if_pos rfl] at hE
    exact ⟨hE, by unfold updL; rw [hE, if_neg (by decide)]⟩
  · intro s hs
    rw [hs, if_neg (by simp)] at hE
    refine ⟨hE, ?_⟩
    unfold updL updS
    rw [hE, if_pos rfl, e2, e3, hs, Int.toNat_natCast]; rfl
theorem tb00 : TabV 3 1 [] [] := tabV_nil 3 1
theorem aw_f : fitsB 3 1 ((1 : Nat) : Int) = true := by decide
theorem aw_z : encT 2 1 [] [] = [0, 0, 0, 0, 0] := enc_nil 2 1 (.inr rfl)
theorem aw_t4 : tabD 3 1 [5] [2] 7 5 0 = ([], [], 0, 2) := by decide
theorem aw_u1 : updE 3 1 1 [0, 0, 0, 0, 0] (recs 2 2 [5, 1, 5, 2]) = 0 ∧ updL 3 1 1 [0, 0, 0, 0, 0] (recs 2 2 [5, 1, 5, 2]) = encT 2 1 [5] [2] := by
  have := (up_enc tb00 aw_f [(5, 1), (5, 2)] (by decide)).2 ([5], [2]) (by decide)
  rw [aw_z] at this; exact this
theorem aw_u2 : updE 3 1 1 [0, 0, 0, 0, 0] (recs 2 2 [5, 1, 6, 1]) = 11 ∧ updL 3 1 1 [0, 0, 0, 0, 0] (recs 2 2 [5, 1, 6, 1]) = [] := by
  have := (up_enc tb00 aw_f [(5, 1), (6, 1)] (by decide)).1 (by decide)
  rw [aw_z] at this; exact this
theorem tb52 : TabV 3 1 [5] [2] := by
  have h1 := tabD_v tb00 (key := 5) (v := 2) (code := 11) ⟨by decide, by decide⟩ ⟨by decide, by decide⟩
  rw [show tabD 3 ((1 : Nat) : Int) [] [] 11 5 2 = ([5], [2], 0, 0) by decide] at h1
  exact h1
theorem aw_o1 : opE 2 3 3 1 1 (encT 2 1 [5] [2]) = 0 ∧ opK 2 3 3 1 1 (encT 2 1 [5] [2]) = [5] ∧ opV 2 3 3 1 1 (encT 2 1 [5] [2]) = [2] := op_enc kv2 tb52 aw_f
theorem aw_a1 : apL 2 3 3 1 1 (encT 2 1 [5] [2]) 7 5 0 = [0, 0, 0, 0, 0] ∧ apR 2 3 3 1 1 (encT 2 1 [5] [2]) 7 5 0 = 0 ∧ apV 2 3 3 1 1 (encT 2 1 [5] [2]) 7 5 0 = 2 := by
  have h := ap_enc kv2 tb52 aw_f 7 5 0
  rw [show ((1 : Nat) : Int) = 1 from rfl, aw_t4] at h
  dsimp only at h
  rw [aw_z] at h
  exact h
theorem aw_o2 : opE 2 3 3 1 1 [1, 0, 0, 0, 0] = 2 ∧ opK 2 3 3 1 1 [1, 0, 0, 0, 0] = [] ∧ opV 2 3 3 1 1 [1, 0, 0, 0, 0] = [] := by
  have hu : AllU [1, 0, 0, 0, 0] := by intro x hx; simp at hx; rcases hx with rfl | rfl <;> exact ⟨by decide, by decide⟩
  rcases op_facts kv2 3 1 1 hu with ⟨-, -, -, hT, hE, hO⟩ | ⟨h1, h2, h3, -⟩
  · exfalso
    have h9 := tb00.lst kv2 (by omega) (by omega)
    have hd : tabT 2 1 [] [] = [0, 0, 0, 0] := by have := aw_z; unfold encT at this; exact (List.cons.inj this).2
    rw [hd] at h9
    unfold okD at hO
    have := (of_decide_eq_true hO).2.2.2.1
    rw [show List.drop 1 [(1 : Int), 0, 0, 0, 0] = [0, 0, 0, 0] from rfl, h9] at this
    revert this; decide
  · refine ⟨?_, h2, h3⟩
    rcases h1 with h | h
    · exact h
    · exfalso
      have hc : cfB 3 3 1 1 = true := by decide
      obtain ⟨-, -, e3⟩ := op_yes (v := 2) (w := [1, 0, 0, 0, 0]) hc
      rw [h] at e3
      unfold dE at e3
      split at e3 <;> cases e3
theorem aw_o3 (w : List Int) : opE 2 3 2 1 1 w = 5 := (op_no (v := 2) (w := w) (by decide)).2.2
theorem allU_52 : AllU (encT 2 1 [5] [2]) := tb52.enc_u kv2 (by omega)
theorem len_52 : (encT 2 1 [5] [2]).length = 5 := tb52.enc_len kv2
theorem aw_all : ∃ W : List Int, (AllU W ∧ W.length = 5) ∧ (updE 3 1 1 [0, 0, 0, 0, 0] (recs 2 2 [5, 1, 5, 2]) = 0 ∧ updL 3 1 1 [0, 0, 0, 0, 0] (recs 2 2 [5, 1, 5, 2]) = W) ∧
    (opE 2 3 3 1 1 W = 0 ∧ opK 2 3 3 1 1 W = [5] ∧ opV 2 3 3 1 1 W = [2]) ∧ (apL 2 3 3 1 1 W 7 5 0 = [0, 0, 0, 0, 0] ∧ apR 2 3 3 1 1 W 7 5 0 = 0 ∧ apV 2 3 3 1 1 W 7 5 0 = 2) :=
  ⟨_, ⟨allU_52, len_52⟩, aw_u1, aw_o1, aw_a1⟩
theorem ctxAw12_eqOk : ∀ t, hasN [38] t = true → Tryd.prog.stoodInHeld t = false := HeldOk.mem ⟨by kernel_rfl, trivial⟩
noncomputable def ctxAw12 (P : Program) (heq : ∀ t, hasN [38] t = true → P.stoodInHeld t = false) : Ctx := ctx P glM [eUpdate, ePairs, eApply, eZero12, eRRecs, Go.Proofs.YtnplgklnkcjmnaaDoor.eWords] [38] heq [] (fun _ h => by cases h)
theorem ctxAw12_good : (ctxAw12 Tryd.prog ctxAw12_eqOk).good := ctx_good (by kernel_rfl) (AllOk.mem ⟨eUpdate_ok, ePairs_ok, eApply_ok, entry_lift eZero12_ok, entry_lift eRRecs_ok, entry_lift Go.Proofs.YtnplgklnkcjmnaaDoor.eWords_ok, trivial⟩) glM_two
attribute [local irreducible] updE updL apL apR apV opE opK opV encT prD
set_option maxHeartbeats 2000000 in
set_option maxRecDepth 100000 in
theorem awake12_pure : Pure Tryd.prog glM 6 [] (.v (.bool true)) := by
  have hz : AllU [0, 0, 0, 0, 0] := by intro x hx; simp at hx; unfold U64; omega
  have h1 : AllU [(5 : Int), 1, 5, 2] := by intro x hx; simp at hx; unfold U64; omega
  have h2 : AllU [(5 : Int), 1, 6, 1] := by intro x hx; simp at hx; unfold U64; omega
  have h3 : AllU [(1 : Int), 0, 0, 0, 0] := by intro x hx; simp at hx; unfold U64; omega
  have u5 : U64 5 := ⟨by decide, by decide⟩
  have u0 : U64 0 := ⟨by decide, by decide⟩
  have e0 : List.replicate (1 + 4 * Int.toNat 1) (0 : Int) = [0, 0, 0, 0, 0] := rfl
  obtain ⟨W, ⟨allU_52, len_52⟩, aw_u1, aw_o1, aw_a1⟩ := aw_all
  refine pure_of (C := ctxAw12 Tryd.prog ctxAw12_eqOk) ctxAw12_good Tryd.func6 (c := bodyOf Tryd.f6) (by rfl) (Nat.le_of_ble_eq_true (by rfl)) 4 0 [0, 1, 2, 3, 5, 6, 7, 8, 9, 10, 12, 15] ?_
  conv => whnf
  repeat (refine And.intro (by decide) ?_; conv => whnf)
  rw [e0]
  refine And.intro ⟨hz, h1, by decide, by decide⟩ ?_
  conv => whnf
  rw [aw_u1.1, aw_u1.2]
  conv => whnf
  repeat (refine And.intro (by decide) ?_; conv => whnf)
  try rw [e0]
  refine And.intro ⟨hz, h2, by decide, by decide⟩ ?_
  conv => whnf
  rw [aw_u2.1, aw_u2.2]
  conv => whnf
  refine And.intro ⟨allU_52, by rw [len_52]; decide⟩ ?_
  conv => whnf
  rw [aw_o1.1, aw_o1.2.1, aw_o1.2.2]
  conv => whnf
  refine And.intro ⟨allU_52, by rw [len_52]; decide, u5, u0⟩ ?_
  conv => whnf
  rw [aw_a1.1, aw_a1.2.1, aw_a1.2.2]
  conv => whnf
  refine And.intro ⟨h3, by decide⟩ ?_
  conv => whnf
  rw [aw_o2.1, aw_o2.2.1, aw_o2.2.2]
  conv => whnf
  refine And.intro ⟨allU_52, by rw [len_52]; decide, u0, u0⟩ ?_
  conv => whnf
  rw [aw_o3]
  conv => whnf
  rw [show flat 2 (prD [5] [2]) = [5, 2] by unfold prD; rfl]
  conv => whnf
  repeat (refine And.intro (by decide) ?_; conv => whnf)
  rfl
noncomputable def eAwk12 : Entry := ⟨6, 10, fun l => match l with | [] => some (none, .v (.bool true), []) | _ => none⟩
theorem eAwk12_ok : eAwk12.ok Tryd.prog glM := ⟨Am.enters_of Tryd.func6 (by kernel_rfl) (by kernel_rfl), by
  intro args c t bs h hc
  simp only [eAwk12] at h
  split at h <;> cases h
  exact awake12_pure⟩
end Go.Proofs.YtnplgklnkcjmnaaDoor.DcT
namespace Go.Proofs.YtnplgklnkcjmnaaDoor.DcT
open Go.RowKit Go.Proofs.YtnplgklnkcjmnaaDoor.Am Go.Proofs.YtnplgklnkcjmnaaDoor Go.Proofs.YtnplgklnkcjmnaaDoor.PrT
set_option linter.unusedVariables false
set_option linter.unusedSimpArgs false


attribute [local irreducible] updE updL apL apR apV opE opK opV encT prD tabD keyD hereK atK insK
end Go.Proofs.YtnplgklnkcjmnaaDoor.DcT
namespace Go.Proofs.YtnplgklnkcjmnaaDoor.DcT
open Go.RowKit Go.Proofs.YtnplgklnkcjmnaaDoor.Am Go.Proofs.YtnplgklnkcjmnaaDoor Go.Proofs.YtnplgklnkcjmnaaDoor.PrT
set_option linter.unusedVariables false
set_option linter.unusedSimpArgs false


theorem allU_fl2 {l : List R} (h : ∀ r ∈ l, U64 r.1 ∧ U64 r.2) : AllU (flat 2 l) := allU_flat h
attribute [local irreducible] updE updL apL apR apV opE opK opV encT prD tabD keyD hereK atK insK recs
end Go.Proofs.YtnplgklnkcjmnaaDoor.DcT
namespace Go.Proofs.YtnplgklnkcjmnaaDoor.DcT
open Go.RowKit Go.Proofs.YtnplgklnkcjmnaaDoor.Am Go.Proofs.YtnplgklnkcjmnaaDoor Go.Proofs.YtnplgklnkcjmnaaDoor.PrT
set_option linter.unusedVariables false
set_option linter.unusedSimpArgs false
section
variable {m : Nat} {ks vs ks' vs' : List Int}
/-- The words hang on what is there alone. -/
theorem enc_ext (h : TabV 3 m ks vs) (h' : TabV 3 m ks' vs') (hm : ∀ r, r ∈ rsK 2 ks vs ↔ r ∈ rsK 2 ks' vs') : encT 2 m ks vs = encT 2 m ks' vs' := by
  have e : rsK 2 ks vs = rsK 2 ks' vs' := sorted_ext (f := fun r => r.1) (h.sorted kv2) (h'.sorted kv2) hm
  have hl : ks.length = ks'.length := by rw [← rsK_len 2 ks vs, e, rsK_len]
  unfold encT tabT
  rw [e, hl]
theorem rs_here (h : TabV 3 m ks vs) (x : Int) : hereK 3 ks x = true ↔ ∃ y, (x + 1, y) ∈ rsK 2 ks vs := by
  rw [here_iff h kv2]
  constructor
  · rintro ⟨i, hi, rfl⟩; exact ⟨vs.getD i 0, (rsK_mem _ _ _ _).2 ⟨i, hi, rfl⟩⟩
  · rintro ⟨y, hy⟩
    obtain ⟨i, hi, e⟩ := (rsK_mem _ _ _ _).1 hy
    have := congrArg Prod.fst e
    exact ⟨i, hi, by simp only at this; omega⟩
theorem rs_val (h : TabV 3 m ks vs) {x : Int} (hh : hereK 3 ks x = true) : (x + 1, vs.getD (atK 3 ks x) 0) ∈ rsK 2 ks vs := by
  obtain ⟨h1, h2⟩ := hereK_t hh
  exact (rsK_mem _ _ _ _).2 ⟨_, h1, by rw [h2]; rfl⟩
theorem rs_fun (h : TabV 3 m ks vs) {x y z : Int} (h1 : (x, y) ∈ rsK 2 ks vs) (h2 : (x, z) ∈ rsK 2 ks vs) : y = z := by
  obtain ⟨i, hi, e⟩ := (rsK_mem _ _ _ _).1 h1
  obtain ⟨j, hj, f⟩ := (rsK_mem _ _ _ _).1 h2
  have e1 := congrArg Prod.fst e
  have f1 := congrArg Prod.fst f
  have e2 := congrArg Prod.snd e
  have f2 := congrArg Prod.snd f
  simp only at e1 f1 e2 f2
  have : i = j := h.k_inj kv2 hi hj (by omega)
  subst this
  rw [if_neg (by decide)] at e2 f2
  rw [e2, f2]
/-- A put where there is room. -/
theorem putF (h : TabV 3 m ks vs) (hm0 : 0 < m) (hm : m ≤ 256) {x val : Int} (hx : 0 ≤ x ∧ x ≤ 4611686018427387904) (hv : U64 val) (hl : ks.length < m) :
    ∃ ks' vs' old, tabD 3 m ks vs 11 x val = (ks', vs', 0, old) ∧ TabV 3 m ks' vs' ∧ (ks.length ≤ ks'.length ∧ ks'.length ≤ ks.length + 1 ∧ (hereK 3 ks x = true → ks'.length = ks.length)) ∧ (∀ r, r ∈ rsK 2 ks' vs' ↔ r = (x + 1, val) ∨ (r ∈ rsK 2 ks vs ∧ r.1 ≠ x + 1)) ∧
      (∀ o : Option Int, (∀ y, (x + 1, y) ∈ rsK 2 ks vs ↔ o = some y) → old = o.getD 0) := by
  cases hh : hereK 3 ks x
  · obtain ⟨e, hT, -⟩ := put_new h hm0 hm hx hv hh (by omega)
    have hil := insK_len (w := x) (atK_le 3 ks x)
    refine ⟨_, _, _, e, hT, ⟨by omega, by omega, fun q => by cases q⟩, mem_ins h kv2 hh (fun q => by cases q) _ (fun _ => rfl), fun o ho => ?_⟩
    cases o with
    | none => rfl
    | some y => exact absurd ((rs_here h x).2 ⟨y, (ho y).2 rfl⟩) (by rw [hh]; exact Bool.false_ne_true)
  · obtain ⟨e, hT, -⟩ := put_here h hm0 hm hx hv hh
    refine ⟨_, _, _, e, hT, ⟨by omega, by omega, fun _ => rfl⟩, mem_set h kv2 rfl hh, fun o ho => ?_⟩
    have := (ho _).1 (rs_val h hh)
    rw [this]; rfl
/-- A key that is there, taken out. -/
theorem delF (h : TabV 3 m ks vs) (hm0 : 0 < m) (hm : m ≤ 256) {x y val : Int} (hx : 0 ≤ x ∧ x ≤ 4611686018427387904) (hv : U64 val) (hy : (x + 1, y) ∈ rsK 2 ks vs) :
    ∃ ks' vs', tabD 3 m ks vs 7 x val = (ks', vs', 0, y) ∧ TabV 3 m ks' vs' ∧ ks'.length + 1 = ks.length ∧ (∀ r, r ∈ rsK 2 ks' vs' ↔ (r ∈ rsK 2 ks vs ∧ r.1 ≠ x + 1)) := by
  have hh := (rs_here h x).2 ⟨y, hy⟩
  obtain ⟨e, hT, -⟩ := del_here h hm0 hm hx hv hh
  obtain ⟨h1, h2⟩ := hereK_t hh
  rw [rs_fun h (rs_val h hh) hy] at e
  refine ⟨_, _, e, hT, ?_, mem_del h kv2 hh _ (fun _ => rfl)⟩
  have := delK_len h1
  omega
theorem rs_nil (r : R) : ¬ r ∈ rsK 2 [] [] := by intro h; cases h
theorem putO_of {s : List Int × List Int} {ks' vs' : List Int} {x val old : Int} (e : tabD 3 m s.1 s.2 11 x val = (ks', vs', 0, old)) : putO m s (x, val) = some (ks', vs') := by unfold putO; dsimp only; rw [e]; rfl
end
/-! ### the last one of a key -/
theorem keyD_nq (n : Int) (h : 12 ≤ keyD n) : 4611686018427387900 ≤ keyD n := by
  have := ipick_bounds n (n := 16) (by omega)
  unfold keyD at *
  split at h <;> split <;> omega
end Go.Proofs.YtnplgklnkcjmnaaDoor.DcT
namespace Go.Proofs.YtnplgklnkcjmnaaDoor.DcT
open Go.RowKit Go.Proofs.YtnplgklnkcjmnaaDoor.Am Go.Proofs.YtnplgklnkcjmnaaDoor Go.Proofs.YtnplgklnkcjmnaaDoor.PrT
set_option linter.unusedVariables false
set_option linter.unusedSimpArgs false
/-- Raw pairs with values that hang on the keys. -/
def prT (raw : List Int) (c : Nat) : List R := (List.range c).map fun i => (keyD (raw.getD (i * 2) 0), 3 * keyD (raw.getD (i * 2) 0))
theorem prT_len (raw : List Int) (c : Nat) : (prT raw c).length = c := by simp [prT]
theorem prT_succ (raw : List Int) (c : Nat) : prT raw (c + 1) = prT raw c ++ [(keyD (raw.getD (c * 2) 0), 3 * keyD (raw.getD (c * 2) 0))] := by simp [prT, List.range_succ]
theorem prT_mem {raw : List Int} {c : Nat} : ∀ r ∈ prT raw c, ((0 ≤ r.1 ∧ r.1 ≤ 4611686018427387904) ∧ (12 ≤ r.1 → 4611686018427387900 ≤ r.1)) ∧ r.2 = 3 * r.1 := by
  intro r hr
  unfold prT at hr
  obtain ⟨i, -, rfl⟩ := List.mem_map.1 hr
  exact ⟨⟨keyD_f _, keyD_nq _⟩, rfl⟩
theorem prT_get {raw : List Int} {c i : Nat} (h : i < c) : gR (prT raw c) i ∈ prT raw c := by
  unfold gR
  rw [List.getD_eq_getElem?_getD, List.getElem?_eq_getElem (by rw [prT_len]; exact h)]
  exact List.getElem_mem _
/-- Puts of pairs whose values hang on the keys. -/
theorem upT {m : Nat} (hm : m ≤ 256) (l : List R) : l.length ≤ m → (∀ r ∈ l, (0 ≤ r.1 ∧ r.1 ≤ 4611686018427387904) ∧ r.2 = 3 * r.1) →
    ∃ ks vs, upS m ([], []) l = some (ks, vs) ∧ TabV 3 m ks vs ∧ ks.length ≤ l.length ∧ ∀ r, r ∈ rsK 2 ks vs ↔ ∃ p ∈ l, r = (p.1 + 1, p.2) := by
  refine snocI (p := fun l => l.length ≤ m → (∀ r ∈ l, (0 ≤ r.1 ∧ r.1 ≤ 4611686018427387904) ∧ r.2 = 3 * r.1) → ∃ ks vs, upS m ([], []) l = some (ks, vs) ∧ TabV 3 m ks vs ∧ ks.length ≤ l.length ∧ ∀ r, r ∈ rsK 2 ks vs ↔ ∃ p ∈ l, r = (p.1 + 1, p.2)) ?_ ?_ l
  · intro _ _
    exact ⟨[], [], upS_nil _ _, tabV_nil 3 m, Nat.le_refl _, fun r => ⟨fun h => absurd h (rs_nil r), fun ⟨p, hp, _⟩ => by cases hp⟩⟩
  · intro l a ih hl hr
    rw [List.length_append, List.length_singleton] at hl
    obtain ⟨ks, vs, h1, h2, h3, h4⟩ := ih (by omega) (fun r h => hr r (List.mem_append_left _ h))
    obtain ⟨ha, ha2⟩ := hr a (List.mem_append_right _ (List.mem_singleton.2 rfl))
    obtain ⟨x, y⟩ := a
    dsimp only at ha ha2
    obtain ⟨ks', vs', old, hd, hT', ⟨q1, q2, -⟩, hM', -⟩ := putF h2 (by omega) hm ha (val := y) (by unfold U64; omega) (by omega)
    refine ⟨ks', vs', by rw [upS_snoc, h1]; exact putO_of (s := (ks, vs)) hd, hT', by rw [List.length_append, List.length_singleton]; omega, fun r => ?_⟩
    rw [hM' r]
    constructor
    · rintro (rfl | ⟨h, -⟩)
      · exact ⟨(x, y), List.mem_append_right _ (List.mem_singleton.2 rfl), rfl⟩
      · obtain ⟨p, hp, rfl⟩ := (h4 r).1 h
        exact ⟨p, List.mem_append_left _ hp, rfl⟩
    · rintro ⟨p, hp, rfl⟩
      rcases List.mem_append.1 hp with hp | hp
      · by_cases e : p.1 = x
        · refine .inl ?_
          have := (hr p (List.mem_append_left _ hp)).2
          rw [e, this, e, ha2]
        · exact .inr ⟨(h4 _).2 ⟨p, hp, rfl⟩, by dsimp only; omega⟩
      · rw [List.mem_singleton.1 hp]; exact .inl rfl
/-- One more, with another key put and taken between. -/
theorem oneStep {m i : Nat} {ks vs : List Int} (hm : m ≤ 256) (h : TabV 3 m ks vs) (hl : ks.length ≤ i) (hi : i + 1 < m) {x q v : Int} (hx : 0 ≤ x ∧ x ≤ 4611686018427387904) (hq : 0 ≤ q ∧ q ≤ 4611686018427387904) (hv : U64 v) (hqx : q ≠ x) (hno : ∀ y, ¬ (q + 1, y) ∈ rsK 2 ks vs) :
    ∃ k1 v1, (tabD 3 m ks vs 11 q 7 = (k1, v1, 0, 0) ∧ TabV 3 m k1 v1) ∧ ∃ k2 v2 o2, (tabD 3 m k1 v1 11 x v = (k2, v2, 0, o2) ∧ TabV 3 m k2 v2) ∧ ∃ k3 v3, (tabD 3 m k2 v2 7 q 0 = (k3, v3, 0, 7) ∧ TabV 3 m k3 v3) ∧
      ∃ k4 v4 o4, (tabD 3 m k3 v3 11 x (3 * x) = (k4, v4, 0, o4) ∧ TabV 3 m k4 v4) ∧ k4.length ≤ i + 1 ∧ ∀ r, r ∈ rsK 2 k4 v4 ↔ r = (x + 1, 3 * x) ∨ (r ∈ rsK 2 ks vs ∧ r.1 ≠ x + 1) := by
  obtain ⟨k1, v1, o1, d1, T1, ⟨a1, b1, -⟩, M1, O1⟩ := putF h (by omega) hm hq (val := 7) ⟨by decide, by decide⟩ (by omega)
  have e1 : o1 = 0 := O1 none (fun y => ⟨fun g => absurd g (hno y), fun g => by cases g⟩)
  rw [e1] at d1
  obtain ⟨k2, v2, o2, d2, T2, ⟨a2, b2, -⟩, M2, -⟩ := putF T1 (by omega) hm hx (val := v) hv (by omega)
  have hq2 : (q + 1, 7) ∈ rsK 2 k2 v2 := (M2 _).2 (.inr ⟨(M1 _).2 (.inl rfl), by dsimp only; omega⟩)
  obtain ⟨k3, v3, d3, T3, a3, M3⟩ := delF T2 (by omega) hm hq (val := 0) ⟨by decide, by decide⟩ hq2
  have hx3 : hereK 3 k3 x = true := (rs_here T3 x).2 ⟨v, (M3 _).2 ⟨(M2 _).2 (.inl rfl), by dsimp only; omega⟩⟩
  obtain ⟨k4, v4, o4, d4, T4, ⟨a4, b4, c4⟩, M4, -⟩ := putF T3 (by omega) hm hx (val := 3 * x) (by unfold U64; omega) (by omega)
  have c4 := c4 hx3
  refine ⟨k1, v1, ⟨d1, T1⟩, k2, v2, o2, ⟨d2, T2⟩, k3, v3, ⟨d3, T3⟩, k4, v4, o4, ⟨d4, T4⟩, by omega, fun r => ?_⟩
  rw [M4, M3, M2, M1]
  constructor
  · rintro (g | ⟨⟨g | ⟨g | g, -⟩, g3⟩, g4⟩)
    · exact .inl g
    · exact absurd (by rw [g]) g4
    · exact absurd (by rw [g]) g3
    · exact .inr ⟨g.1, g4⟩
  · rintro (g | ⟨g, g2⟩)
    · exact .inl g
    · refine .inr ⟨⟨.inr ⟨.inr ⟨g, ?_⟩, g2⟩, ?_⟩, g2⟩ <;>
      · intro e
        obtain ⟨r1, r2⟩ := r
        dsimp only at e
        subst e
        exact hno _ g
/-- What is there when the first i of a turned list have been put. -/
def TurnM (L : List R) (n k i : Nat) (ks vs : List Int) : Prop := ∀ r, r ∈ rsK 2 ks vs ↔ ∃ t, t < i ∧ r = ((gR L ((t + k) % n)).1 + 1, 3 * (gR L ((t + k) % n)).1)
theorem turn_zero (L : List R) (n k : Nat) : TurnM L n k 0 [] [] := fun r => ⟨fun h => absurd h (rs_nil r), fun ⟨t, ht, _⟩ => absurd ht (Nat.not_lt_zero _)⟩
theorem turn_succ {L : List R} {n k i : Nat} {ks vs ks' vs' : List Int} (h : TurnM L n k i ks vs) {x : Int} (hx : x = (gR L ((i + k) % n)).1) (hM : ∀ r, r ∈ rsK 2 ks' vs' ↔ r = (x + 1, 3 * x) ∨ (r ∈ rsK 2 ks vs ∧ r.1 ≠ x + 1)) : TurnM L n k (i + 1) ks' vs' := by
  subst hx
  intro r
  rw [hM r, h r]
  constructor
  · rintro (g | ⟨⟨t, ht, g⟩, -⟩)
    · exact ⟨i, by omega, g⟩
    · exact ⟨t, by omega, g⟩
  · rintro ⟨t, ht, g⟩
    by_cases e : (gR L ((t + k) % n)).1 = (gR L ((i + k) % n)).1
    · rw [e] at g; exact .inl g
    · have : t ≠ i := fun q => e (by rw [q])
      exact .inr ⟨⟨t, by omega, g⟩, by rw [g]; dsimp only; omega⟩
theorem turn_all {raw : List Int} {n k : Nat} (hk : k ≤ n) {ks vs : List Int} (h : TurnM (prT raw n) n k n ks vs) (r : R) : r ∈ rsK 2 ks vs ↔ ∃ p ∈ prT raw n, r = (p.1 + 1, p.2) := by
  rw [h r]
  constructor
  · rintro ⟨t, ht, g⟩
    have hlt : (t + k) % n < n := Nat.mod_lt _ (by omega)
    have hm := prT_get (raw := raw) hlt
    exact ⟨_, hm, by rw [g, (prT_mem _ hm).2]⟩
  · rintro ⟨p, hp, g⟩
    obtain ⟨s, hs, e⟩ := List.getElem_of_mem hp
    rw [prT_len] at hs
    have e2 : gR (prT raw n) s = p := by unfold gR; rw [List.getD_eq_getElem?_getD, List.getElem?_eq_getElem (by rw [prT_len]; exact hs)]; exact e
    refine ⟨(s + (n - k)) % n, Nat.mod_lt _ (by omega), ?_⟩
    have : ((s + (n - k)) % n + k) % n = s := by
      rw [Nat.mod_add_mod, show s + (n - k) + k = s + n by omega, Nat.add_mod_right, Nat.mod_eq_of_lt hs]
    rw [this, e2, g, (prT_mem p hp).2]
end Go.Proofs.YtnplgklnkcjmnaaDoor.DcT
namespace Go.Proofs.YtnplgklnkcjmnaaDoor.DcT
open Go.RowKit Go.Proofs.YtnplgklnkcjmnaaDoor.Am Go.Proofs.YtnplgklnkcjmnaaDoor Go.Proofs.YtnplgklnkcjmnaaDoor.PrT
set_option linter.unusedVariables false
set_option linter.unusedSimpArgs false


theorem ctxOn12_eqOk : ∀ t, hasN [38] t = true → Tryd.prog.stoodInHeld t = false := HeldOk.mem ⟨by kernel_rfl, trivial⟩
noncomputable def ctxOn12 (P : Program) (heq : ∀ t, hasN [38] t = true → P.stoodInHeld t = false) : Ctx := ctx P glM [eAwk12, ePair12, ePick12, eZero12, eApply, eUpdate, Go.Proofs.YtnplgklnkcjmnaaDoor.eWords] [38] heq [] (fun _ h => by cases h)
theorem ctxOn12_good : (ctxOn12 Tryd.prog ctxOn12_eqOk).good := ctx_good (by kernel_rfl) (AllOk.mem ⟨eAwk12_ok, entry_lift ePair12_ok, entry_lift ePick12_ok, entry_lift eZero12_ok, eApply_ok, eUpdate_ok, entry_lift Go.Proofs.YtnplgklnkcjmnaaDoor.eWords_ok, trivial⟩) glM_two
attribute [local irreducible] updE updL apL apR apV opE opK opV encT prD tabD keyD hereK atK insK prT recs upS rsK
set_option maxHeartbeats 4000000 in
set_option maxRecDepth 100000 in
theorem one_pure (c1 c2 : Nat) (raw other : List Int) (turn : Int) (hraw : AllI raw) (hturn : I64 turn) (hoth : AllI other) : Pure Tryd.prog glM 3 [.fl [.i64, .i64] c1 raw, .v (.int .i64 turn), .fl [.i64, .i64] c2 other] (.v (.bool true)) := by
  refine pure_wf fun hww => ?_
  obtain ⟨⟨w1, w2⟩, -, ⟨w3, w4⟩, -⟩ := hww
  simp only [List.length_cons, List.length_nil, Nat.zero_add, Nat.mul_one] at w1 w3
  have hf : fitsB 3 1 ((13 : Nat) : Int) = true := by decide
  have hz0 : encT 2 13 [] [] = List.replicate (1 + 4 * 13) 0 := enc_nil 2 13 (.inr rfl)
  have hzu : AllU (List.replicate (1 + 4 * 13) 0) := by rw [← hz0]; exact (tabV_nil 3 13).enc_u kv2 (by omega)
  have hap := fun (ks' vs' : List Int) (h : TabV 3 13 ks' vs') (code key val : Int) => ap_enc kv2 h hf code key val
  have hop := fun (ks' vs' : List Int) (h : TabV 3 13 ks' vs') => (op_enc kv2 h hf).1
  have hUN := fun (l : List R) (h : ∀ r ∈ l, r.1 ≤ 4611686018427387904) => up_enc (tabV_nil 3 13) hf l h
  rw [hz0] at hUN
  refine pure_of (C := ctxOn12 Tryd.prog ctxOn12_eqOk) ctxOn12_good Tryd.func3 (c := bodyOf Tryd.f3) (by rfl) (Nat.le_of_ble_eq_true (by rfl)) 4 0 [0, 1, 2, 6, 7, 8, 9, 10, 11, 12, 13, 14, 15, 16, 17, 18, 19, 20, 21, 22, 23, 24, 25, 26, 27, 28, 30, 40, 74, 89, 157, 172] ?_
  conv => whnf
  repeat (refine And.intro (by decide) ?_; conv => whnf)
  refine TW.nilOwn 9 5000 2 (.fl [.u64, .u64] []) rfl rfl (.inr ⟨_, _, rfl⟩) (by decide) ?_
  refine TW.loopD ctxOn12_good 0 (base := 0) (lv := [0, 1, 2, 6, 7, 8, 9, 10, 11, 12, 13, 14, 15, 16, 17, 18, 19, 20, 21, 22, 23, 24, 25, 26, 27, 28, 30, 40, 74, 89, 157, 172]) [9, 10] [5000] [(5000, 5000)] (fun j : Nat => [.ow 5000 2 j, .v (.int .i64 j)]) (fun j => [.fl [.u64, .u64] (flat 2 (prT raw j))]) (fun j => j ≤ c1 ∧ j ≤ 12) (fun j => c1 - j) ?_
  conv => whnf
  refine ⟨⟨0, ⟨rfl, rfl, by unfold prT; rfl⟩, by omega, by omega⟩, fun j ⟨hj, hj2⟩ => ?_⟩
  replace hj : j ≤ c1 := hj
  replace hj2 : j ≤ 12 := hj2
  conv => whnf
  by_cases hgo : j < c1 ∧ j < 12
  · have i1 : I64 (raw.getD (j * 2) 0) := hraw _ (by rw [List.getD_eq_getElem?_getD, List.getElem?_eq_getElem (by omega)]; exact List.getElem_mem (by omega))
    have i2 : I64 (raw.getD (j * 2 + 1) 0) := hraw _ (by rw [List.getD_eq_getElem?_getD, List.getElem?_eq_getElem (by omega)]; exact List.getElem_mem (by omega))
    have E0 : raw.getD (0 + (j : Int).toNat * (1 + 1) + 0) 0 = raw.getD (j * 2) 0 := by rw [show 0 + (j : Int).toNat * (1 + 1) + 0 = j * 2 by omega]
    have E1 : raw.getD (0 + (j : Int).toNat * (1 + 1) + (0 + 1)) 0 = raw.getD (j * 2 + 1) 0 := by rw [show 0 + (j : Int).toNat * (1 + 1) + (0 + 1) = j * 2 + 1 by omega]
    have kb := keyD_f (raw.getD (j * 2) 0)
    have hPs := prT_succ raw j
    refine ifB_t (show decide ((j : Int) < c1) = true from decide_eq_true (by omega)) ?_
    conv => whnf
    refine ifB_t (show (bif true then decide ((j : Int) < 12) else false) = true from decide_eq_true (by omega)) ?_
    conv => whnf
    repeat (refine And.intro (by omega) ?_; conv => whnf)
    rw [E0, E1]
    refine And.intro ⟨i1, i2⟩ ?_
    conv => whnf
    generalize keyD (raw.getD (j * 2) 0) = ky at *
    generalize ipick (raw.getD (j * 2 + 1) 0) 1000 = vl at *
    repeat (refine And.intro (by omega) ?_; conv => whnf)
    rw [wsucc (j := j) (n := 12) (by omega) (by omega)]
    refine ⟨j + 1, [(220, 5000)], ⟨rfl, rfl, ?_⟩, ⟨(by omega : j + 1 ≤ c1), (by omega : j + 1 ≤ 12)⟩, by dsimp only; omega⟩
    show _ = (5000, Blk.fl [.u64, .u64] (flat 2 (prT raw (j + 1)))) :: _
    rw [hPs, flat_append]
    have h3 : IntKind.u64.wrap (3 * ky) = 3 * ky := wrapU (by omega) (by omega)
    show (5000, Blk.fl [.u64, .u64] (flat 2 (prT raw j) ++ [ky, IntKind.u64.wrap (3 * ky)])) :: _ = _
    rw [h3]; rfl
  · have hLm := prT_mem (raw := raw) (c := j)
    have hLf : AllU (flat 2 (prT raw j)) := allU_fl2 fun r hr => by
      obtain ⟨⟨g1, -⟩, g2⟩ := hLm r hr
      unfold U64; omega
    have hLr : recs j 2 (flat 2 (prT raw j)) = prT raw j := recs_flat (.inr rfl) (prT_len raw j) (fun q => by cases q)
    have hLl := prT_len raw j
    obtain ⟨ksA, vsA, hSA, hTA, -, hMA⟩ := upT (m := 13) (by omega) (prT raw j) (by omega) (fun r hr => ⟨(hLm r hr).1.1, (hLm r hr).2⟩)
    obtain ⟨m1, m2⟩ := (hUN (prT raw j) (fun r hr => (hLm r hr).1.1.2)).2 (ksA, vsA) hSA
    have kb := ipick_bounds turn (n := ((j + 1 : Nat) : Int)) (by omega)
    by_cases hc : j < c1
    · refine ifB_t (show decide ((j : Int) < c1) = true from decide_eq_true (by omega)) ?_
      conv => whnf
      refine ifB_f (show (bif true then decide ((j : Int) < 12) else false) = false from decide_eq_false (by omega)) ?_
      conv => whnf
      repeat (refine And.intro (by first | omega | decide) ?_; conv => whnf)
      refine And.intro ⟨hzu, hLf, by decide, by omega⟩ ?_
      conv => whnf
      rw [show (13 : Int) = ((13 : Nat) : Int) from rfl, Int.toNat_natCast, hLr, m1, m2]
      conv => whnf
      repeat (refine And.intro (by first | omega | decide) ?_; conv => whnf)
      rw [wsucc (j := j) (n := 13) (by omega) (by omega)]
      refine And.intro ⟨hturn, by omega, by omega⟩ ?_
      conv => whnf
      obtain ⟨k, hk⟩ := Int.eq_ofNat_of_zero_le kb.1
      rw [hk] at kb ⊢
      clear hk
      refine TW.weak ctxOn12_good.glq ⟨⟨[0, 1, 2, 7, 8, 9, 12, 13, 14, 15, 16], [(32, 32), (244, 244), (5000, 5000)], [260]⟩, rfl, rfl, rfl⟩ ?_
      refine TW.loopF ctxOn12_good 0 (base := 0) (lv := [0, 1, 2, 6, 7, 8, 9, 10, 11, 12, 13, 14, 15, 16, 17, 18, 19, 20, 21, 22, 23, 24, 25, 26, 27, 28, 30, 40, 74, 89, 157, 172]) [14, 16] [] [] (fun x : Nat × List Int => [.fl [.u64] (1 + 2 * 13 * 2) x.2, .v (.int .i64 x.1)]) (fun x => [])
        (fun x => x.1 ≤ j ∧ ∃ ks vs, TabV 3 13 ks vs ∧ x.2 = encT 2 13 ks vs ∧ ks.length ≤ x.1 ∧ TurnM (prT raw j) j k x.1 ks vs) (fun x => j - x.1) ?_
      conv => whnf
      refine ⟨⟨(0, encT 2 13 [] []), ⟨rfl, by rw [hz0]; rfl, rfl⟩, Nat.zero_le _, [], [], tabV_nil 3 13, rfl, Nat.le_refl _, turn_zero _ _ _⟩, fun ⟨i, X⟩ ⟨hi, ks, vs, hT, hX, hkl, hM⟩ => ?_⟩
      replace hi : i ≤ j := hi
      replace hX : X = encT 2 13 ks vs := hX
      replace hkl : ks.length ≤ i := hkl
      replace hM : TurnM (prT raw j) j k i ks vs := hM
      subst hX
      have hwu := hT.enc_u kv2 (by omega)
      have hwl := hT.enc_len kv2
      conv => whnf
      refine ifB_dec (fun g => ?_) (fun g => ?_)
      · replace g : (i : Int) < j := g
        have hlt : (i + k) % j < j := Nat.mod_lt _ (by omega)
        have hix : Int.tmod (IntKind.i64.wrap ((i : Int) + (k : Int))) (j : Int) = (((i + k) % j : Nat) : Int) := by
          rw [wrap64 (a := (i : Int) + k) (by omega) (by omega), Int.tmod_eq_emod_of_nonneg (by omega), ← Int.natCast_add, ← Int.natCast_emod]
        have hmem := prT_get (raw := raw) hlt
        obtain ⟨⟨kb, kn⟩, -⟩ := hLm _ hmem
        have F0 : (flat 2 (prT raw j)).getD (0 + addN 0 (((i + k) % j : Nat) : Int).toNat * (1 + 1) + 0) 0 = (gR (prT raw j) ((i + k) % j)).1 := by
          rw [addN_eq, Int.toNat_natCast, show 0 + (0 + (i + k) % j) * (1 + 1) + 0 = (i + k) % j * 2 by omega, flat_key (.inr rfl) _ (by omega)]; rfl
        have F1 : (flat 2 (prT raw j)).getD (0 + addN 0 (((i + k) % j : Nat) : Int).toNat * (1 + 1) + (0 + 1)) 0 = 3 * (gR (prT raw j) ((i + k) % j)).1 := by
          rw [addN_eq, Int.toNat_natCast, show 0 + (0 + (i + k) % j) * (1 + 1) + (0 + 1) = (i + k) % j * 2 + 1 by omega, flat_val _ (by omega)]; exact (hLm _ hmem).2
        have hno : ∀ q : Int, 12 ≤ q → q < 4611686018427387900 → ∀ y, ¬ (q + 1, y) ∈ rsK 2 ks vs := fun q q1 q2 y hy => by
          obtain ⟨t, ht, e⟩ := (hM _).1 hy
          have h1 := congrArg Prod.fst e
          dsimp only at h1
          have h2 := (hLm _ (prT_get (raw := raw) (c := j) (i := (t + k) % j) (Nat.mod_lt _ (by omega)))).1.2
          omega
        conv => whnf
        refine And.intro (by omega) ?_
        conv => whnf
        rw [show ((i, encT 2 13 ks vs) : Nat × List Int).1 = i from rfl, hix]
        repeat (refine And.intro (by omega) ?_; conv => whnf)
        generalize hKY : (gR (prT raw j) ((i + k) % j)).1 = ky at *
        have G0 : ∀ a b : Int, (([0, 0].set (0 + 0 * (1 + 1) + 0) a).set (0 + 0 * (1 + 1) + (0 + 1)) b).getD (0 + 0 * (1 + 1)) 0 = a := fun _ _ => rfl
        have G1 : ∀ a b : Int, (([0, 0].set (0 + 0 * (1 + 1) + 0) a).set (0 + 0 * (1 + 1) + (0 + 1)) b).getD (0 + 1 + 0 * (1 + 1)) 0 = b := fun _ _ => rfl
        have uk : U64 ky := by unfold U64; omega
        have u3 : U64 (3 * ky) := by unfold U64; omega
        refine ifB_dec (fun g2 => ?_) (fun g2 => ?_)
        · replace g2 : (i : Int) < c2 := g2
          have i1 : I64 (other.getD (i * 2) 0) := hoth _ (by rw [List.getD_eq_getElem?_getD, List.getElem?_eq_getElem (by omega)]; exact List.getElem_mem (by omega))
          have i2 : I64 (other.getD (i * 2 + 1) 0) := hoth _ (by rw [List.getD_eq_getElem?_getD, List.getElem?_eq_getElem (by omega)]; exact List.getElem_mem (by omega))
          conv => whnf
          repeat (refine And.intro (by first | omega | (dsimp only; omega)) ?_; conv => whnf)
          have E0 : other.getD (0 + (i : Int).toNat * (1 + 1)) 0 = other.getD (i * 2) 0 := by rw [show 0 + (i : Int).toNat * (1 + 1) = i * 2 by omega]
          have E1 : other.getD (0 + 1 + (i : Int).toNat * (1 + 1)) 0 = other.getD (i * 2 + 1) 0 := by rw [show 0 + 1 + (i : Int).toNat * (1 + 1) = i * 2 + 1 by omega]
          have qb := ipick_bounds (other.getD (i * 2) 0) (n := 50) (by omega)
          have vb := ipick_bounds (other.getD (i * 2 + 1) 0) (n := 9) (by omega)
          rw [E0]
          refine And.intro ⟨i1, by decide, by decide⟩ ?_
          conv => whnf
          have hq : IntKind.u64.wrap (100 + IntKind.u64.wrap (ipick (other.getD (i * 2) 0) 50)) = 100 + ipick (other.getD (i * 2) 0) 50 := by
            rw [wrapU (a := ipick (other.getD (i * 2) 0) 50) (by omega) (by omega)]; exact wrapU (by omega) (by omega)
          have hv9 : IntKind.u64.wrap (ipick (other.getD (i * 2 + 1) 0) 9) = ipick (other.getD (i * 2 + 1) 0) 9 := wrapU (by omega) (by omega)
          rw [hq]
          have qb2 : 100 ≤ 100 + ipick (other.getD (i * 2) 0) 50 ∧ 100 + ipick (other.getD (i * 2) 0) 50 < 150 := by omega
          generalize 100 + ipick (other.getD (i * 2) 0) 50 = q at *
          generalize hV9 : ipick (other.getD (i * 2 + 1) 0) 9 = v9 at *
          have uq : U64 q := by unfold U64; omega
          have uv9 : U64 v9 := by unfold U64; omega
          have u0 : U64 0 := ⟨by decide, by decide⟩
          have u7 : U64 7 := ⟨by decide, by decide⟩
          obtain ⟨k1, v1, ⟨d1, T1⟩, k2, v2, o2, ⟨d2, T2⟩, k3, v3, ⟨d3, T3⟩, k4, v4, o4, ⟨d4, T4⟩, hl4, M4⟩ := oneStep (m := 13) (i := i) (by omega) hT hkl (by omega) (x := ky) (q := q) (v := v9) kb (by omega) uv9 (by omega) (hno q (by omega) (by omega))
          obtain ⟨x1, x2, x3⟩ := hap ks vs hT 11 q 7
          obtain ⟨y1, y2, y3⟩ := hap k1 v1 T1 11 ky v9
          obtain ⟨z1, z2, z3⟩ := hap k2 v2 T2 7 q 0
          obtain ⟨a1, a2, a3⟩ := hap k3 v3 T3 11 ky (3 * ky)
          rw [d1] at x1 x2 x3
          rw [d2] at y1 y2 y3
          rw [d3] at z1 z2 z3
          rw [d4] at a1 a2 a3
          dsimp only at x1 x2 x3 y1 y2 y3 z1 z2 z3 a1 a2 a3
          refine And.intro ⟨hwu, by omega, uq, u7⟩ ?_
          conv => whnf
          rw [show ((i, encT 2 13 ks vs) : Nat × List Int).2 = encT 2 13 ks vs from rfl, hop ks vs hT, x1, x2, x3, T1.enc_len kv2]
          repeat (refine And.intro (by first | omega | (dsimp only; omega)) ?_; conv => whnf)
          rw [E1]
          refine And.intro ⟨i2, by decide, by decide⟩ ?_
          conv => whnf
          rw [hV9, hv9]
          repeat (refine And.intro (by first | omega | (dsimp only; omega)) ?_; conv => whnf)
          rw [F0, F1, G0]
          refine And.intro ⟨T1.enc_u kv2 (by omega), by omega, uk, uv9⟩ ?_
          conv => whnf
          rw [hop k1 v1 T1, y1, y2, y3, T2.enc_len kv2]
          conv => whnf
          repeat (refine And.intro (by first | omega | (dsimp only; omega)) ?_; conv => whnf)
          refine And.intro ⟨T2.enc_u kv2 (by omega), by omega, uq, u0⟩ ?_
          conv => whnf
          rw [hop k2 v2 T2, z1, z2, z3, T3.enc_len kv2]
          conv => whnf
          repeat (refine And.intro (by first | omega | (dsimp only; omega)) ?_; conv => whnf)
          rw [G0, G1]
          refine And.intro ⟨T3.enc_u kv2 (by omega), by omega, uk, u3⟩ ?_
          conv => whnf
          rw [hop k3 v3 T3, a1, a2, a3, T4.enc_len kv2]
          conv => whnf
          rw [wsucc (j := i) (n := 12) (by omega) (by omega)]
          exact ⟨(i + 1, encT 2 13 k4 v4), [], [668], ⟨rfl, rfl, rfl⟩, ⟨(by omega : i + 1 ≤ j), k4, v4, T4, rfl, hl4, turn_succ hM hKY.symm M4⟩, by dsimp only; omega⟩
        · obtain ⟨k4, v4, o4, d4, T4, ⟨-, hl4, -⟩, M4, -⟩ := putF hT (by omega) (by omega) kb (val := 3 * ky) u3 (by omega)
          obtain ⟨a1, a2, a3⟩ := hap ks vs hT 11 ky (3 * ky)
          rw [d4] at a1 a2 a3
          dsimp only at a1 a2 a3
          conv => whnf
          repeat (refine And.intro (by first | omega | (dsimp only; omega)) ?_; conv => whnf)
          rw [F0, F1, G0, G1]
          refine And.intro ⟨hwu, by omega, uk, u3⟩ ?_
          conv => whnf
          rw [show ((i, encT 2 13 ks vs) : Nat × List Int).2 = encT 2 13 ks vs from rfl, hop ks vs hT, a1, a2, a3, T4.enc_len kv2]
          conv => whnf
          rw [wsucc (j := i) (n := 12) (by omega) (by omega)]
          exact ⟨(i + 1, encT 2 13 k4 v4), [], [668], ⟨rfl, rfl, rfl⟩, ⟨(by omega : i + 1 ≤ j), k4, v4, T4, rfl, (by omega : k4.length ≤ i + 1), turn_succ hM hKY.symm M4⟩, by dsimp only; omega⟩
      · replace g : ¬ (i : Int) < j := g
        have hij : i = j := by omega
        rw [hij] at hM
        have hEE : encT 2 13 ksA vsA = encT 2 13 ks vs := enc_ext hTA hT fun r => (hMA r).trans (turn_all (by omega) hM r).symm
        have hAu := hTA.enc_u kv2 (by omega)
        conv => whnf
        exact congrArg (fun b => Am.T.v (Value.bool b)) (decide_eq_true hEE)
    · refine ifB_f (show decide ((j : Int) < c1) = false from decide_eq_false (by omega)) ?_
      conv => whnf
      repeat (refine And.intro (by first | omega | decide) ?_; conv => whnf)
      refine And.intro ⟨hzu, hLf, by decide, by omega⟩ ?_
      conv => whnf
      rw [show (13 : Int) = ((13 : Nat) : Int) from rfl, Int.toNat_natCast, hLr, m1, m2]
      conv => whnf
      repeat (refine And.intro (by first | omega | decide) ?_; conv => whnf)
      rw [wsucc (j := j) (n := 13) (by omega) (by omega)]
      refine And.intro ⟨hturn, by omega, by omega⟩ ?_
      conv => whnf
      obtain ⟨k, hk⟩ := Int.eq_ofNat_of_zero_le kb.1
      rw [hk] at kb ⊢
      clear hk
      refine TW.weak ctxOn12_good.glq ⟨⟨[0, 1, 2, 7, 8, 9, 12, 13, 14, 15, 16], [(32, 32), (244, 244), (5000, 5000)], [260]⟩, rfl, rfl, rfl⟩ ?_
      refine TW.loopF ctxOn12_good 0 (base := 0) (lv := [0, 1, 2, 6, 7, 8, 9, 10, 11, 12, 13, 14, 15, 16, 17, 18, 19, 20, 21, 22, 23, 24, 25, 26, 27, 28, 30, 40, 74, 89, 157, 172]) [14, 16] [] [] (fun x : Nat × List Int => [.fl [.u64] (1 + 2 * 13 * 2) x.2, .v (.int .i64 x.1)]) (fun x => [])
        (fun x => x.1 ≤ j ∧ ∃ ks vs, TabV 3 13 ks vs ∧ x.2 = encT 2 13 ks vs ∧ ks.length ≤ x.1 ∧ TurnM (prT raw j) j k x.1 ks vs) (fun x => j - x.1) ?_
      conv => whnf
      refine ⟨⟨(0, encT 2 13 [] []), ⟨rfl, by rw [hz0]; rfl, rfl⟩, Nat.zero_le _, [], [], tabV_nil 3 13, rfl, Nat.le_refl _, turn_zero _ _ _⟩, fun ⟨i, X⟩ ⟨hi, ks, vs, hT, hX, hkl, hM⟩ => ?_⟩
      replace hi : i ≤ j := hi
      replace hX : X = encT 2 13 ks vs := hX
      replace hkl : ks.length ≤ i := hkl
      replace hM : TurnM (prT raw j) j k i ks vs := hM
      subst hX
      have hwu := hT.enc_u kv2 (by omega)
      have hwl := hT.enc_len kv2
      conv => whnf
      refine ifB_dec (fun g => ?_) (fun g => ?_)
      · replace g : (i : Int) < j := g
        have hlt : (i + k) % j < j := Nat.mod_lt _ (by omega)
        have hix : Int.tmod (IntKind.i64.wrap ((i : Int) + (k : Int))) (j : Int) = (((i + k) % j : Nat) : Int) := by
          rw [wrap64 (a := (i : Int) + k) (by omega) (by omega), Int.tmod_eq_emod_of_nonneg (by omega), ← Int.natCast_add, ← Int.natCast_emod]
        have hmem := prT_get (raw := raw) hlt
        obtain ⟨⟨kb, kn⟩, -⟩ := hLm _ hmem
        have F0 : (flat 2 (prT raw j)).getD (0 + addN 0 (((i + k) % j : Nat) : Int).toNat * (1 + 1) + 0) 0 = (gR (prT raw j) ((i + k) % j)).1 := by
          rw [addN_eq, Int.toNat_natCast, show 0 + (0 + (i + k) % j) * (1 + 1) + 0 = (i + k) % j * 2 by omega, flat_key (.inr rfl) _ (by omega)]; rfl
        have F1 : (flat 2 (prT raw j)).getD (0 + addN 0 (((i + k) % j : Nat) : Int).toNat * (1 + 1) + (0 + 1)) 0 = 3 * (gR (prT raw j) ((i + k) % j)).1 := by
          rw [addN_eq, Int.toNat_natCast, show 0 + (0 + (i + k) % j) * (1 + 1) + (0 + 1) = (i + k) % j * 2 + 1 by omega, flat_val _ (by omega)]; exact (hLm _ hmem).2
        have hno : ∀ q : Int, 12 ≤ q → q < 4611686018427387900 → ∀ y, ¬ (q + 1, y) ∈ rsK 2 ks vs := fun q q1 q2 y hy => by
          obtain ⟨t, ht, e⟩ := (hM _).1 hy
          have h1 := congrArg Prod.fst e
          dsimp only at h1
          have h2 := (hLm _ (prT_get (raw := raw) (c := j) (i := (t + k) % j) (Nat.mod_lt _ (by omega)))).1.2
          omega
        conv => whnf
        refine And.intro (by omega) ?_
        conv => whnf
        rw [show ((i, encT 2 13 ks vs) : Nat × List Int).1 = i from rfl, hix]
        repeat (refine And.intro (by omega) ?_; conv => whnf)
        generalize hKY : (gR (prT raw j) ((i + k) % j)).1 = ky at *
        have G0 : ∀ a b : Int, (([0, 0].set (0 + 0 * (1 + 1) + 0) a).set (0 + 0 * (1 + 1) + (0 + 1)) b).getD (0 + 0 * (1 + 1)) 0 = a := fun _ _ => rfl
        have G1 : ∀ a b : Int, (([0, 0].set (0 + 0 * (1 + 1) + 0) a).set (0 + 0 * (1 + 1) + (0 + 1)) b).getD (0 + 1 + 0 * (1 + 1)) 0 = b := fun _ _ => rfl
        have uk : U64 ky := by unfold U64; omega
        have u3 : U64 (3 * ky) := by unfold U64; omega
        refine ifB_dec (fun g2 => ?_) (fun g2 => ?_)
        · replace g2 : (i : Int) < c2 := g2
          have i1 : I64 (other.getD (i * 2) 0) := hoth _ (by rw [List.getD_eq_getElem?_getD, List.getElem?_eq_getElem (by omega)]; exact List.getElem_mem (by omega))
          have i2 : I64 (other.getD (i * 2 + 1) 0) := hoth _ (by rw [List.getD_eq_getElem?_getD, List.getElem?_eq_getElem (by omega)]; exact List.getElem_mem (by omega))
          conv => whnf
          repeat (refine And.intro (by first | omega | (dsimp only; omega)) ?_; conv => whnf)
          have E0 : other.getD (0 + (i : Int).toNat * (1 + 1)) 0 = other.getD (i * 2) 0 := by rw [show 0 + (i : Int).toNat * (1 + 1) = i * 2 by omega]
          have E1 : other.getD (0 + 1 + (i : Int).toNat * (1 + 1)) 0 = other.getD (i * 2 + 1) 0 := by rw [show 0 + 1 + (i : Int).toNat * (1 + 1) = i * 2 + 1 by omega]
          have qb := ipick_bounds (other.getD (i * 2) 0) (n := 50) (by omega)
          have vb := ipick_bounds (other.getD (i * 2 + 1) 0) (n := 9) (by omega)
          rw [E0]
          refine And.intro ⟨i1, by decide, by decide⟩ ?_
          conv => whnf
          have hq : IntKind.u64.wrap (100 + IntKind.u64.wrap (ipick (other.getD (i * 2) 0) 50)) = 100 + ipick (other.getD (i * 2) 0) 50 := by
            rw [wrapU (a := ipick (other.getD (i * 2) 0) 50) (by omega) (by omega)]; exact wrapU (by omega) (by omega)
          have hv9 : IntKind.u64.wrap (ipick (other.getD (i * 2 + 1) 0) 9) = ipick (other.getD (i * 2 + 1) 0) 9 := wrapU (by omega) (by omega)
          rw [hq]
          have qb2 : 100 ≤ 100 + ipick (other.getD (i * 2) 0) 50 ∧ 100 + ipick (other.getD (i * 2) 0) 50 < 150 := by omega
          generalize 100 + ipick (other.getD (i * 2) 0) 50 = q at *
          generalize hV9 : ipick (other.getD (i * 2 + 1) 0) 9 = v9 at *
          have uq : U64 q := by unfold U64; omega
          have uv9 : U64 v9 := by unfold U64; omega
          have u0 : U64 0 := ⟨by decide, by decide⟩
          have u7 : U64 7 := ⟨by decide, by decide⟩
          obtain ⟨k1, v1, ⟨d1, T1⟩, k2, v2, o2, ⟨d2, T2⟩, k3, v3, ⟨d3, T3⟩, k4, v4, o4, ⟨d4, T4⟩, hl4, M4⟩ := oneStep (m := 13) (i := i) (by omega) hT hkl (by omega) (x := ky) (q := q) (v := v9) kb (by omega) uv9 (by omega) (hno q (by omega) (by omega))
          obtain ⟨x1, x2, x3⟩ := hap ks vs hT 11 q 7
          obtain ⟨y1, y2, y3⟩ := hap k1 v1 T1 11 ky v9
          obtain ⟨z1, z2, z3⟩ := hap k2 v2 T2 7 q 0
          obtain ⟨a1, a2, a3⟩ := hap k3 v3 T3 11 ky (3 * ky)
          rw [d1] at x1 x2 x3
          rw [d2] at y1 y2 y3
          rw [d3] at z1 z2 z3
          rw [d4] at a1 a2 a3
          dsimp only at x1 x2 x3 y1 y2 y3 z1 z2 z3 a1 a2 a3
          refine And.intro ⟨hwu, by omega, uq, u7⟩ ?_
          conv => whnf
          rw [show ((i, encT 2 13 ks vs) : Nat × List Int).2 = encT 2 13 ks vs from rfl, hop ks vs hT, x1, x2, x3, T1.enc_len kv2]
          repeat (refine And.intro (by first | omega | (dsimp only; omega)) ?_; conv => whnf)
          rw [E1]
          refine And.intro ⟨i2, by decide, by decide⟩ ?_
          conv => whnf
          rw [hV9, hv9]
          repeat (refine And.intro (by first | omega | (dsimp only; omega)) ?_; conv => whnf)
          rw [F0, F1, G0]
          refine And.intro ⟨T1.enc_u kv2 (by omega), by omega, uk, uv9⟩ ?_
          conv => whnf
          rw [hop k1 v1 T1, y1, y2, y3, T2.enc_len kv2]
          conv => whnf
          repeat (refine And.intro (by first | omega | (dsimp only; omega)) ?_; conv => whnf)
          refine And.intro ⟨T2.enc_u kv2 (by omega), by omega, uq, u0⟩ ?_
          conv => whnf
          rw [hop k2 v2 T2, z1, z2, z3, T3.enc_len kv2]
          conv => whnf
          repeat (refine And.intro (by first | omega | (dsimp only; omega)) ?_; conv => whnf)
          rw [G0, G1]
          refine And.intro ⟨T3.enc_u kv2 (by omega), by omega, uk, u3⟩ ?_
          conv => whnf
          rw [hop k3 v3 T3, a1, a2, a3, T4.enc_len kv2]
          conv => whnf
          rw [wsucc (j := i) (n := 12) (by omega) (by omega)]
          exact ⟨(i + 1, encT 2 13 k4 v4), [], [668], ⟨rfl, rfl, rfl⟩, ⟨(by omega : i + 1 ≤ j), k4, v4, T4, rfl, hl4, turn_succ hM hKY.symm M4⟩, by dsimp only; omega⟩
        · obtain ⟨k4, v4, o4, d4, T4, ⟨-, hl4, -⟩, M4, -⟩ := putF hT (by omega) (by omega) kb (val := 3 * ky) u3 (by omega)
          obtain ⟨a1, a2, a3⟩ := hap ks vs hT 11 ky (3 * ky)
          rw [d4] at a1 a2 a3
          dsimp only at a1 a2 a3
          conv => whnf
          repeat (refine And.intro (by first | omega | (dsimp only; omega)) ?_; conv => whnf)
          rw [F0, F1, G0, G1]
          refine And.intro ⟨hwu, by omega, uk, u3⟩ ?_
          conv => whnf
          rw [show ((i, encT 2 13 ks vs) : Nat × List Int).2 = encT 2 13 ks vs from rfl, hop ks vs hT, a1, a2, a3, T4.enc_len kv2]
          conv => whnf
          rw [wsucc (j := i) (n := 12) (by omega) (by omega)]
          exact ⟨(i + 1, encT 2 13 k4 v4), [], [668], ⟨rfl, rfl, rfl⟩, ⟨(by omega : i + 1 ≤ j), k4, v4, T4, rfl, (by omega : k4.length ≤ i + 1), turn_succ hM hKY.symm M4⟩, by dsimp only; omega⟩
      · replace g : ¬ (i : Int) < j := g
        have hij : i = j := by omega
        rw [hij] at hM
        have hEE : encT 2 13 ksA vsA = encT 2 13 ks vs := enc_ext hTA hT fun r => (hMA r).trans (turn_all (by omega) hM r).symm
        have hAu := hTA.enc_u kv2 (by omega)
        conv => whnf
        exact congrArg (fun b => Am.T.v (Value.bool b)) (decide_eq_true hEE)
end Go.Proofs.YtnplgklnkcjmnaaDoor.DcT
