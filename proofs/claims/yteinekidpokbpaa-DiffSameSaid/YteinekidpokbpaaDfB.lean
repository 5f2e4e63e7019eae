/- diff: what is picked, words and writes of raw numbers, words held against each other. -/
import Derived.Test.YteinekidpokbpaaDfA
import Derived.Test.YteinekidpokbpaaGl
namespace Go.Proofs.Yteinekidpokbpaa.DfT
open Go.RowKit Go.Proofs.Yteinekidpokbpaa.Am Go.Proofs.Yteinekidpokbpaa Go.Proofs.Yteinekidpokbpaa.PrT
set_option linter.unusedVariables false
set_option linter.unusedSimpArgs false

def ipick (c n : Int) : Int := (if c < 0 then -(c + 1) else c) % n
theorem ipick_bounds (c : Int) {n : Int} (hn : 0 < n) : 0 ≤ ipick c n ∧ ipick c n < n := ⟨Int.emod_nonneg _ (by omega), Int.emod_lt_of_pos _ hn⟩
theorem ipick_val (c n : Int) (hc : I64 c) : (if c < 0 then IntKind.i64.wrap (0 - IntKind.i64.wrap (c + 1)) else c).tmod n = ipick c n := by
  obtain ⟨c1, c2⟩ := hc
  have e : (if c < 0 then IntKind.i64.wrap (0 - IntKind.i64.wrap (c + 1)) else c) = if c < 0 then -(c + 1) else c := by
    split
    · rw [wrap64 (a := c + 1) (by omega) (by omega), wrap64 (by omega) (by omega)]; omega
    · rfl
  rw [e]; unfold ipick
  exact Int.tmod_eq_emod_of_nonneg (by split <;> omega)
set_option maxRecDepth 100000 in
theorem pick05_pure (c n : Int) (hc : I64 c) (hn : 0 < n) (hn2 : n ≤ 4096) : Pure Try.prog glR 8 [.v (.int .i64 c), .v (.int .i64 n)] (.v (.int .i64 (ipick c n))) := by
  have hv := ipick_val c n hc
  refine pure_of (C := ctx0 Try.prog) ctx0_good Try.func8 (c := bodyOf Try.f8) (by rfl) (Nat.le_of_ble_eq_true (by rfl)) 4 0 [0, 1, 4, 6] ?_
  conv => whnf
  repeat' (first | (refine ifB_t (by assumption) ?_; conv => whnf) | (refine ifB_f (by assumption) ?_; conv => whnf) | (refine ifB_dec (fun h => ?_) (fun h => ?_) <;> (first | (exfalso; omega) | (conv => whnf))) | (refine ifB_eq (fun h => ?_) (fun h => ?_) <;> (first | (exfalso; omega) | (conv => whnf))) | (refine ifB_ne (fun h => ?_) (fun h => ?_) <;> (first | (exfalso; omega) | (conv => whnf))) | (refine ifB_not ?_; conv => whnf) | (refine ifB_and ?_; conv => whnf) | (refine ifB_or ?_; conv => whnf) | (refine And.intro ?_ ?_; (first | omega | assumption | (exact allU_getD (by assumption) _) | (simp only [cutL]; omega) | (refine And.intro ?_ ?_ <;> first | assumption | exact allU_getD (by assumption) _) | (simp only [cutL, IntKind.wrap_u64, IntKind.wrap_i64] at *; omega) | decide); conv => whnf))
  · rw [if_pos h] at hv; exact congrArg (fun b => T.v (Value.int .i64 b)) hv
  · rw [if_neg h] at hv; exact congrArg (fun b => T.v (Value.int .i64 b)) hv
def ePick05 : Entry := ⟨8, 3, fun l => match l with | [.v (.int .i64 c), .v (.int .i64 n)] => some (some (I64 c ∧ 0 < n ∧ n ≤ 4096), .v (.int .i64 (ipick c n)), []) | _ => none⟩
theorem ePick05_ok : ePick05.ok Try.prog glR := ⟨Am.enters_of Try.func8 (by kernel_rfl) (by kernel_rfl), by
  intro args c t bs h hc
  simp only [ePick05] at h
  split at h <;> cases h
  replace hc := hc _ rfl
  exact pick05_pure _ _ hc.1 hc.2.1 hc.2.2⟩
set_option maxRecDepth 100000 in
theorem clone_pure (n : Nat) (xs : List Int) (hn : n ≤ 1000000) : Pure Try.prog glR 27 [.fl [.u64] n xs] (.ow 0 1 n) [(0, .fl [.u64] xs)] := by
  refine pure_wf fun hw => ?_
  obtain ⟨⟨w1, w2⟩, -⟩ := hw
  refine pure_of (C := ctx0 Try.prog) ctx0_good Try.func27 (c := bodyOf Try.f27) (by rfl) (Nat.le_of_ble_eq_true (by rfl)) 4 0 [0, 2, 4] ?_
  conv => whnf
  intro b hb
  cases b
  · conv => whnf
    repeat' (first | (refine ifB_t (by assumption) ?_; conv => whnf) | (refine ifB_f (by assumption) ?_; conv => whnf) | (refine ifB_dec (fun h => ?_) (fun h => ?_) <;> (first | (exfalso; omega) | (conv => whnf))) | (refine ifB_eq (fun h => ?_) (fun h => ?_) <;> (first | (exfalso; omega) | (conv => whnf))) | (refine ifB_ne (fun h => ?_) (fun h => ?_) <;> (first | (exfalso; omega) | (conv => whnf))) | (refine ifB_not ?_; conv => whnf) | (refine ifB_and ?_; conv => whnf) | (refine ifB_or ?_; conv => whnf) | (refine And.intro ?_ ?_; (first | omega | assumption | (exact allU_getD (by assumption) _) | (simp only [cutL]; omega) | (refine And.intro ?_ ?_ <;> first | assumption | exact allU_getD (by assumption) _) | (simp only [cutL, IntKind.wrap_u64, IntKind.wrap_i64] at *; omega) | decide); conv => whnf))
    repeat' (first | exact trivial | exact rfl | (refine And.intro ?_ ?_) | ((conv => whnf); done) | ((conv => whnf); (first | rfl | (refine congrArg (fun b => T.v (Value.bool b)) ?_; first | rfl | exact (decide_eq_true (by omega)).symm | exact (decide_eq_false (by omega)).symm | exact decide_eq_decide.2 (by omega)) | (refine congrArg (fun b => T.v (Value.int _ b)) ?_; first | rfl | omega) | omega)) | (first | rfl | (refine congrArg (fun b => T.v (Value.bool b)) ?_; first | rfl | exact (decide_eq_true (by omega)).symm | exact (decide_eq_false (by omega)).symm | exact decide_eq_decide.2 (by omega)) | (refine congrArg (fun b => T.v (Value.int _ b)) ?_; first | rfl | omega) | omega))
  · have := hb rfl
    subst this
    obtain rfl : xs = [] := List.eq_nil_of_length_eq_zero (by simpa using w1)
    conv => whnf
    repeat' (first | exact trivial | exact rfl | (refine And.intro ?_ ?_) | ((conv => whnf); done) | ((conv => whnf); (first | rfl | (refine congrArg (fun b => T.v (Value.bool b)) ?_; first | rfl | exact (decide_eq_true (by omega)).symm | exact (decide_eq_false (by omega)).symm | exact decide_eq_decide.2 (by omega)) | (refine congrArg (fun b => T.v (Value.int _ b)) ?_; first | rfl | omega) | omega)) | (first | rfl | (refine congrArg (fun b => T.v (Value.bool b)) ?_; first | rfl | exact (decide_eq_true (by omega)).symm | exact (decide_eq_false (by omega)).symm | exact decide_eq_decide.2 (by omega)) | (refine congrArg (fun b => T.v (Value.int _ b)) ?_; first | rfl | omega) | omega))
set_option maxRecDepth 100000 in
theorem equal_pure (n m : Nat) (xs ys : List Int) : Pure Try.prog glR 24 [.fl [.u64] n xs, .fl [.u64] m ys] (.v (.bool (decide (xs = ys)))) := by
  refine pure_wf fun hw => ?_
  obtain ⟨⟨w1, w2⟩, ⟨w3, w4⟩, -⟩ := hw
  simp only [List.length_cons, List.length_nil, Nat.zero_add, Nat.mul_one] at w1 w3
  refine pure_of (C := ctx0 Try.prog) ctx0_good Try.func24 (c := bodyOf Try.f24) (by rfl) (Nat.le_of_ble_eq_true (by rfl)) 4 0 [0, 1, 4, 5, 10, 12, 13, 14, 24] ?_
  conv => whnf
  repeat' (first | (refine ifB_t (by assumption) ?_; conv => whnf) | (refine ifB_f (by assumption) ?_; conv => whnf) | (refine ifB_dec (fun h => ?_) (fun h => ?_) <;> (first | (exfalso; omega) | (conv => whnf))) | (refine ifB_eq (fun h => ?_) (fun h => ?_) <;> (first | (exfalso; omega) | (conv => whnf))) | (refine ifB_ne (fun h => ?_) (fun h => ?_) <;> (first | (exfalso; omega) | (conv => whnf))) | (refine ifB_not ?_; conv => whnf) | (refine ifB_and ?_; conv => whnf) | (refine ifB_or ?_; conv => whnf) | (refine And.intro ?_ ?_; (first | omega | assumption | (exact allU_getD (by assumption) _) | (simp only [cutL]; omega) | (refine And.intro ?_ ?_ <;> first | assumption | exact allU_getD (by assumption) _) | (simp only [cutL, IntKind.wrap_u64, IntKind.wrap_i64] at *; omega) | decide); conv => whnf))
  · exact congrArg (fun b => T.v (Value.bool b)) (decide_eq_false (fun e => by subst e; omega)).symm
  · refine TW.loopD ctx0_good 0 (base := 0) (lv := [0, 1, 4, 5, 10, 12, 13, 14, 24]) [13] [] [] (fun j : Nat => [.v (.int .i64 j)]) (fun _ => []) (fun j => j ≤ n ∧ xs.take j = ys.take j) (fun j => n - j) ?_
    conv => whnf
    refine ⟨⟨0, ⟨rfl, rfl, rfl⟩, by omega, rfl⟩, fun j ⟨hj, ht⟩ => ?_⟩
    conv => whnf
    repeat' (first | (refine ifB_t (by assumption) ?_; conv => whnf) | (refine ifB_f (by assumption) ?_; conv => whnf) | (refine ifB_dec (fun h => ?_) (fun h => ?_) <;> (first | (exfalso; omega) | (conv => whnf))) | (refine ifB_eq (fun h => ?_) (fun h => ?_) <;> (first | (exfalso; omega) | (conv => whnf))) | (refine ifB_ne (fun h => ?_) (fun h => ?_) <;> (first | (exfalso; omega) | (conv => whnf))) | (refine ifB_not ?_; conv => whnf) | (refine ifB_and ?_; conv => whnf) | (refine ifB_or ?_; conv => whnf) | (refine And.intro ?_ ?_; (first | omega | assumption | (exact allU_getD (by assumption) _) | (simp only [cutL]; omega) | (refine And.intro ?_ ?_ <;> first | assumption | exact allU_getD (by assumption) _) | (simp only [cutL, IntKind.wrap_u64, IntKind.wrap_i64] at *; omega) | decide); conv => whnf))
    · simp only [Nat.zero_add, Nat.mul_one, Int.toNat_natCast] at h
      exact congrArg (fun b => T.v (Value.bool b)) (decide_eq_false (fun e => by subst e; exact h rfl)).symm
    · simp only [Nat.zero_add, Nat.mul_one, Int.toNat_natCast] at h
      rw [wsucc (n := n) (by omega) w2]
      exact ⟨j + 1, [], ⟨rfl, rfl, rfl⟩, ⟨by omega, take_same (by omega) (by omega) ht h⟩, by (try dsimp only); omega⟩
    · have e : j = n := by omega
      rw [e, List.take_of_length_le (by omega), List.take_of_length_le (by omega)] at ht
      exact congrArg (fun b => T.v (Value.bool b)) (decide_eq_true ht).symm
def eClone : Entry := ⟨27, 3, fun l => match l with | [.fl [.u64] n xs] => some (some (n ≤ 1000000), .ow 0 1 n, [(0, .fl [.u64] xs)]) | _ => none⟩
theorem eClone_ok : eClone.ok Try.prog glR := ⟨Am.enters_of Try.func27 (by kernel_rfl) (by kernel_rfl), by
  intro args c t bs h hc
  simp only [eClone] at h
  split at h <;> cases h
  replace hc := hc _ rfl
  exact clone_pure _ _ hc⟩
def eEqual : Entry := ⟨24, 3, fun l => match l with | [.fl [.u64] n xs, .fl [.u64] m ys] => some (none, .v (.bool (decide (xs = ys))), []) | _ => none⟩
theorem eEqual_ok : eEqual.ok Try.prog glR := ⟨Am.enters_of Try.func24 (by kernel_rfl) (by kernel_rfl), by
  intro args c t bs h hc
  simp only [eEqual] at h
  split at h <;> cases h
  exact equal_pure _ _ _ _⟩
noncomputable def ctxDSame (P : Program) : Ctx := ctx P glR [eEqual] [] (noEq P) [] (fun _ h => by cases h)
theorem ctxDSame_good : (ctxDSame Try.prog).good := ctx_good (by kernel_rfl) (AllOk.mem ⟨eEqual_ok, trivial⟩) glR_two
set_option maxRecDepth 100000 in
theorem dsame_pure (n m : Nat) (xs ys : List Int) : Pure Try.prog glR 14 [.fl [.u64] n xs, .fl [.u64] m ys] (.v (.bool (decide (xs = ys)))) := by
  refine pure_of (C := ctxDSame Try.prog) ctxDSame_good Try.func14 (c := bodyOf Try.f14) (by rfl) (Nat.le_of_ble_eq_true (by rfl)) 4 0 [0, 1, 4] ?_
  conv => whnf
  repeat' (first | exact trivial | exact rfl | (refine And.intro ?_ ?_) | ((conv => whnf); done) | ((conv => whnf); (first | rfl | (refine congrArg (fun b => T.v (Value.bool b)) ?_; first | rfl | exact (decide_eq_true (by omega)).symm | exact (decide_eq_false (by omega)).symm | exact decide_eq_decide.2 (by omega)) | (refine congrArg (fun b => T.v (Value.int _ b)) ?_; first | rfl | omega) | omega)) | (first | rfl | (refine congrArg (fun b => T.v (Value.bool b)) ?_; first | rfl | exact (decide_eq_true (by omega)).symm | exact (decide_eq_false (by omega)).symm | exact decide_eq_decide.2 (by omega)) | (refine congrArg (fun b => T.v (Value.int _ b)) ?_; first | rfl | omega) | omega))
def eDSame : Entry := ⟨14, 4, fun l => match l with | [.fl [.u64] n xs, .fl [.u64] m ys] => some (none, .v (.bool (decide (xs = ys))), []) | _ => none⟩
theorem eDSame_ok : eDSame.ok Try.prog glR := ⟨Am.enters_of Try.func14 (by kernel_rfl) (by kernel_rfl), by
  intro args c t bs h hc
  simp only [eDSame] at h
  split at h <;> cases h
  exact dsame_pure _ _ _ _⟩
set_option maxRecDepth 100000 in
theorem same_pure (n m : Nat) (xs ys : List Int) : Pure Try.prog glR 15 [.fl [.u64] n xs, .fl [.u64] m ys] (.v (.bool (decide (xs = ys)))) := by
  refine pure_wf fun hw => ?_
  obtain ⟨⟨w1, w2⟩, ⟨w3, w4⟩, -⟩ := hw
  simp only [List.length_cons, List.length_nil, Nat.zero_add, Nat.mul_one] at w1 w3
  refine pure_of (C := ctx0 Try.prog) ctx0_good Try.func15 (c := bodyOf Try.f15) (by rfl) (Nat.le_of_ble_eq_true (by rfl)) 4 0 [0, 1, 4, 5, 10, 14, 25] ?_
  conv => whnf
  repeat' (first | (refine ifB_t (by assumption) ?_; conv => whnf) | (refine ifB_f (by assumption) ?_; conv => whnf) | (refine ifB_dec (fun h => ?_) (fun h => ?_) <;> (first | (exfalso; omega) | (conv => whnf))) | (refine ifB_eq (fun h => ?_) (fun h => ?_) <;> (first | (exfalso; omega) | (conv => whnf))) | (refine ifB_ne (fun h => ?_) (fun h => ?_) <;> (first | (exfalso; omega) | (conv => whnf))) | (refine ifB_not ?_; conv => whnf) | (refine ifB_and ?_; conv => whnf) | (refine ifB_or ?_; conv => whnf) | (refine And.intro ?_ ?_; (first | omega | assumption | (exact allU_getD (by assumption) _) | (simp only [cutL]; omega) | (refine And.intro ?_ ?_ <;> first | assumption | exact allU_getD (by assumption) _) | (simp only [cutL, IntKind.wrap_u64, IntKind.wrap_i64] at *; omega) | decide); conv => whnf))
  · exact congrArg (fun b => T.v (Value.bool b)) (decide_eq_false (fun e => by subst e; omega)).symm
  · refine TW.loopD ctx0_good 0 (base := 0) (lv := [0, 1, 4, 5, 10, 14, 25]) [5] [] [] (fun j : Nat => [.v (.int .i64 j)]) (fun _ => []) (fun j => j ≤ n ∧ xs.take j = ys.take j) (fun j => n - j) ?_
    conv => whnf
    refine ⟨⟨0, ⟨rfl, rfl, rfl⟩, by omega, rfl⟩, fun j ⟨hj, ht⟩ => ?_⟩
    conv => whnf
    repeat' (first | (refine ifB_t (by assumption) ?_; conv => whnf) | (refine ifB_f (by assumption) ?_; conv => whnf) | (refine ifB_dec (fun h => ?_) (fun h => ?_) <;> (first | (exfalso; omega) | (conv => whnf))) | (refine ifB_eq (fun h => ?_) (fun h => ?_) <;> (first | (exfalso; omega) | (conv => whnf))) | (refine ifB_ne (fun h => ?_) (fun h => ?_) <;> (first | (exfalso; omega) | (conv => whnf))) | (refine ifB_not ?_; conv => whnf) | (refine ifB_and ?_; conv => whnf) | (refine ifB_or ?_; conv => whnf) | (refine And.intro ?_ ?_; (first | omega | assumption | (exact allU_getD (by assumption) _) | (simp only [cutL]; omega) | (refine And.intro ?_ ?_ <;> first | assumption | exact allU_getD (by assumption) _) | (simp only [cutL, IntKind.wrap_u64, IntKind.wrap_i64] at *; omega) | decide); conv => whnf))
    · simp only [Nat.zero_add, Nat.mul_one, Int.toNat_natCast] at h
      exact congrArg (fun b => T.v (Value.bool b)) (decide_eq_false (fun e => by subst e; exact h rfl)).symm
    · simp only [Nat.zero_add, Nat.mul_one, Int.toNat_natCast] at h
      rw [wsucc (n := n) (by omega) w2]
      exact ⟨j + 1, [], ⟨rfl, rfl, rfl⟩, ⟨by omega, take_same (by omega) (by omega) ht h⟩, by (try dsimp only); omega⟩
    · have e : j = n := by omega
      rw [e, List.take_of_length_le (by omega), List.take_of_length_le (by omega)] at ht
      exact congrArg (fun b => T.v (Value.bool b)) (decide_eq_true ht).symm
def eSame : Entry := ⟨15, 3, fun l => match l with | [.fl [.u64] n xs, .fl [.u64] m ys] => some (none, .v (.bool (decide (xs = ys))), []) | _ => none⟩
theorem eSame_ok : eSame.ok Try.prog glR := ⟨Am.enters_of Try.func15 (by kernel_rfl) (by kernel_rfl), by
  intro args c t bs h hc
  simp only [eSame] at h
  split at h <;> cases h
  exact same_pure _ _ _ _⟩
theorem take_two {xs ys : List Int} {j : Nat} (h1 : j + 1 < xs.length) (h2 : j + 1 < ys.length) (ht : xs.take j = ys.take j) (ha : xs.getD j 0 = ys.getD j 0) (hb : xs.getD (j + 1) 0 = ys.getD (j + 1) 0) : xs.take (j + 2) = ys.take (j + 2) :=
  take_same (by omega) (by omega) (take_same (by omega) (by omega) ht ha) hb
theorem ne2 {a b c d : Int} (h1 : a = c) (h2 : b = d) : (!(a == c && (b == d && true))) = false := by subst h1; subst h2; simp
theorem ne2t {a b c d : Int} (h : ¬ (a = c ∧ b = d)) : (!(a == c && (b == d && true))) = true := by
  by_cases h1 : a = c
  · have h2 : ¬ b = d := fun h2 => h ⟨h1, h2⟩
    simp [h2]
  · simp [h1]
/-! ### writes held against each other -/
theorem wrEq : ∀ t, hasN [48] t = true → Try.prog.stoodInHeld t = false := HeldOk.mem ⟨by kernel_rfl, trivial⟩
noncomputable def ctxWr (P : Program) (heq : ∀ t, hasN [48] t = true → P.stoodInHeld t = false) : Ctx := ctx P glR [] [48] heq [] (fun _ h => by cases h)
theorem ctxWr_good : (ctxWr Try.prog wrEq).good := ctx_good (by kernel_rfl) (fun _ h => by cases h) glR_two
set_option maxRecDepth 100000 in
theorem wr_pure (n m : Nat) (xs ys : List Int) : Pure Try.prog glR 13 [.fl [.i64, .u64] n xs, .fl [.i64, .u64] m ys] (.v (.bool (decide (xs = ys)))) := by
  refine pure_wf fun hw => ?_
  obtain ⟨⟨w1, w2⟩, ⟨w3, w4⟩, -⟩ := hw
  simp only [List.length_cons, List.length_nil, Nat.zero_add, Nat.mul_one] at w1 w3
  refine pure_of (C := ctxWr Try.prog wrEq) ctxWr_good Try.func13 (c := bodyOf Try.f13) (by rfl) (Nat.le_of_ble_eq_true (by rfl)) 4 0 [0, 1, 4, 5, 10, 14, 25] ?_
  conv => whnf
  repeat' (first | (refine ifB_t (by assumption) ?_; conv => whnf) | (refine ifB_f (by assumption) ?_; conv => whnf) | (refine ifB_dec (fun h => ?_) (fun h => ?_) <;> (first | (exfalso; omega) | (conv => whnf))) | (refine ifB_eq (fun h => ?_) (fun h => ?_) <;> (first | (exfalso; omega) | (conv => whnf))) | (refine ifB_ne (fun h => ?_) (fun h => ?_) <;> (first | (exfalso; omega) | (conv => whnf))) | (refine ifB_not ?_; conv => whnf) | (refine ifB_and ?_; conv => whnf) | (refine ifB_or ?_; conv => whnf) | (refine And.intro ?_ ?_; (first | omega | assumption | (exact allU_getD (by assumption) _) | (simp only [cutL]; omega) | (refine And.intro ?_ ?_ <;> first | assumption | exact allU_getD (by assumption) _) | (simp only [cutL, IntKind.wrap_u64, IntKind.wrap_i64] at *; omega) | decide); conv => whnf))
  · exact congrArg (fun b => T.v (Value.bool b)) (decide_eq_false (fun e => by subst e; omega)).symm
  · refine TW.loopD ctxWr_good 0 (base := 0) (lv := [0, 1, 4, 5, 10, 14, 25]) [5] [] [] (fun j : Nat => [.v (.int .i64 j)]) (fun _ => []) (fun j => j ≤ n ∧ xs.take (j * 2) = ys.take (j * 2)) (fun j => n - j) ?_
    conv => whnf
    refine ⟨⟨0, ⟨rfl, rfl, rfl⟩, by omega, rfl⟩, fun j ⟨hj, ht⟩ => ?_⟩
    conv => whnf
    refine ifB_dec (fun h => ?_) (fun h => ?_)
    · conv => whnf
      repeat (refine And.intro (by omega) ?_; conv => whnf)
      have E1 : 0 + (j : Int).toNat * (1 + 1) + 0 = j * 2 := by omega
      have E2 : 0 + (j : Int).toNat * (1 + 1) + (0 + 1) = j * 2 + 1 := by omega
      rw [E1, E2]
      by_cases h1 : xs.getD (j * 2) 0 = ys.getD (j * 2) 0
      · by_cases h2 : xs.getD (j * 2 + 1) 0 = ys.getD (j * 2 + 1) 0
        · refine ifB_f (ne2 h1 h2) ?_
          conv => whnf
          rw [wsucc (n := n) (by omega) w2]
          exact ⟨j + 1, [], ⟨rfl, rfl, rfl⟩, ⟨by omega, by rw [show (j + 1) * 2 = j * 2 + 2 by omega]; exact take_two (by omega) (by omega) ht h1 h2⟩, by (try dsimp only); omega⟩
        · refine ifB_t (ne2t fun h => h2 h.2) ?_
          conv => whnf
          exact congrArg (fun b => T.v (Value.bool b)) (decide_eq_false (fun e => by subst e; exact h2 rfl)).symm
      · refine ifB_t (ne2t fun h => h1 h.1) ?_
        conv => whnf
        exact congrArg (fun b => T.v (Value.bool b)) (decide_eq_false (fun e => by subst e; exact h1 rfl)).symm
    · conv => whnf
      have e : j = n := by omega
      rw [e, List.take_of_length_le (by omega), List.take_of_length_le (by omega)] at ht
      exact congrArg (fun b => T.v (Value.bool b)) (decide_eq_true ht).symm
def eWr : Entry := ⟨13, 3, fun l => match l with | [.fl [.i64, .u64] n xs, .fl [.i64, .u64] m ys] => some (none, .v (.bool (decide (xs = ys))), []) | _ => none⟩
theorem eWr_ok : eWr.ok Try.prog glR := ⟨Am.enters_of Try.func13 (by kernel_rfl) (by kernel_rfl), by
  intro args c t bs h hc
  simp only [eWr] at h
  split at h <;> cases h
  exact wr_pure _ _ _ _⟩
/-! ### are words 0? -/
def zB (xs : List Int) : Bool := xs.all fun x => x == 0
theorem zB_false {xs : List Int} {j : Nat} (hj : j < xs.length) (h : xs.getD j 0 ≠ 0) : zB xs = false := by
  unfold zB; rw [List.all_eq_false]
  exact ⟨xs[j], List.getElem_mem hj, by rw [List.getD_eq_getElem?_getD, List.getElem?_eq_getElem hj] at h; simpa using h⟩
theorem zB_true {xs : List Int} (h : ∀ i, i < xs.length → xs.getD i 0 = 0) : zB xs = true := by
  unfold zB; rw [List.all_eq_true]
  intro x hx
  obtain ⟨j, hj, rfl⟩ := List.getElem_of_mem hx
  have := h j hj
  rw [List.getD_eq_getElem?_getD, List.getElem?_eq_getElem hj] at this
  simpa using this
set_option maxRecDepth 100000 in
theorem rzero_pure (n : Nat) (xs : List Int) : Pure Try.prog glR 17 [.fl [.u64] n xs] (.v (.bool (zB xs))) := by
  refine pure_wf fun hw => ?_
  obtain ⟨⟨w1, w2⟩, -⟩ := hw
  simp only [List.length_cons, List.length_nil, Nat.zero_add, Nat.mul_one] at w1
  refine pure_of (C := ctx0 Try.prog) ctx0_good Try.func17 (c := bodyOf Try.f17) (by rfl) (Nat.le_of_ble_eq_true (by rfl)) 4 0 [0, 2, 3, 7, 14] ?_
  conv => whnf
  refine TW.loopD ctx0_good 0 (base := 0) (lv := [0, 2, 3, 7, 14]) [3] [] [] (fun j : Nat => [.v (.int .i64 j)]) (fun _ => []) (fun j => j ≤ n ∧ ∀ i, i < j → xs.getD i 0 = 0) (fun j => n - j) ?_
  conv => whnf
  refine ⟨⟨0, ⟨rfl, rfl, rfl⟩, by omega, fun i hi => by omega⟩, fun j ⟨hj, hz⟩ => ?_⟩
  conv => whnf
  refine ifB_dec (fun h => ?_) (fun h => ?_)
  · conv => whnf
    repeat (refine And.intro (by omega) ?_; conv => whnf)
    have E1 : 0 + (j : Int).toNat * (0 + 1) = j := by omega
    rw [E1]
    refine ifB_ne (x := xs.getD j 0) (y := 0) (fun h1 => ?_) (fun h1 => ?_)
    · conv => whnf
      rw [zB_false (by omega) h1]
      repeat' (first | exact trivial | exact rfl | (refine And.intro ?_ ?_) | ((conv => whnf); done) | ((conv => whnf); (first | rfl | (refine congrArg (fun b => T.v (Value.bool b)) ?_; first | rfl | exact (decide_eq_true (by omega)).symm | exact (decide_eq_false (by omega)).symm | exact decide_eq_decide.2 (by omega)) | (refine congrArg (fun b => T.v (Value.int _ b)) ?_; first | rfl | omega) | omega)) | (first | rfl | (refine congrArg (fun b => T.v (Value.bool b)) ?_; first | rfl | exact (decide_eq_true (by omega)).symm | exact (decide_eq_false (by omega)).symm | exact decide_eq_decide.2 (by omega)) | (refine congrArg (fun b => T.v (Value.int _ b)) ?_; first | rfl | omega) | omega))
    · conv => whnf
      rw [wsucc (n := n) (by omega) w2]
      refine ⟨j + 1, [], ⟨rfl, rfl, rfl⟩, ⟨by omega, fun i hi => ?_⟩, by (try dsimp only); omega⟩
      by_cases e : i = j
      · rw [e]; exact h1
      · exact hz i (by omega)
  · conv => whnf
    rw [zB_true fun i hi => hz i (by omega)]
    repeat' (first | exact trivial | exact rfl | (refine And.intro ?_ ?_) | ((conv => whnf); done) | ((conv => whnf); (first | rfl | (refine congrArg (fun b => T.v (Value.bool b)) ?_; first | rfl | exact (decide_eq_true (by omega)).symm | exact (decide_eq_false (by omega)).symm | exact decide_eq_decide.2 (by omega)) | (refine congrArg (fun b => T.v (Value.int _ b)) ?_; first | rfl | omega) | omega)) | (first | rfl | (refine congrArg (fun b => T.v (Value.bool b)) ?_; first | rfl | exact (decide_eq_true (by omega)).symm | exact (decide_eq_false (by omega)).symm | exact decide_eq_decide.2 (by omega)) | (refine congrArg (fun b => T.v (Value.int _ b)) ?_; first | rfl | omega) | omega))
def eRZero : Entry := ⟨17, 3, fun l => match l with | [.fl [.u64] n xs] => some (none, .v (.bool (zB xs)), []) | _ => none⟩
theorem eRZero_ok : eRZero.ok Try.prog glR := ⟨Am.enters_of Try.func17 (by kernel_rfl) (by kernel_rfl), by
  intro args c t bs h hc
  simp only [eRZero] at h
  split at h <;> cases h
  exact rzero_pure _ _⟩
end Go.Proofs.Yteinekidpokbpaa.DfT
