/- Small functions: floats by their contracts, numbers picked, what fits, slices copied and held against each other. -/
import Derived.Test.YtlcpcgdecodjfaaDoorMixW
import Derived.Test.YtlcpcgdecodjfaaDoorRefW3
import Derived.Test.YtlcpcgdecodjfaaDoorFltW2
namespace Go.Proofs.YtlcpcgdecodjfaaDoor
open Go.RowKit Go.Proofs.YtlcpcgdecodjfaaDoor.Am
set_option linter.unusedVariables false
set_option linter.unusedSimpArgs false

def ipick (c n : Int) : Int := (if c < 0 then -(c + 1) else c) % n
theorem ipick_bounds (c : Int) {n : Int} (hn : 0 < n) : 0 ≤ ipick c n ∧ ipick c n < n := ⟨Int.emod_nonneg _ (by omega), Int.emod_lt_of_pos _ hn⟩
theorem ipick_val (c n : Int) (hc : I64 c) : (if c < 0 then IntKind.i64.wrap (0 - IntKind.i64.wrap (c + 1)) else c).tmod n = ipick c n := by
  obtain ⟨c1, c2⟩ := hc
  have e : (if c < 0 then IntKind.i64.wrap (0 - IntKind.i64.wrap (c + 1)) else c) = if c < 0 then -(c + 1) else c := by
    split
    · rw [wrap64 (a := c + 1) (by omega) (by omega), wrap64 (by omega) (by omega)]; omega
    · rfl
  rw [e]; unfold ipick
  exact Int.tmod_eq_emod_of_nonneg (by split <;> omega)
set_option maxRecDepth 100000 in
theorem pick09_pure (c n : Int) (hc : I64 c) (hn : 0 < n) (hn2 : n ≤ 4096) : Pure Tryd.prog glR 57 [.v (.int .i64 c), .v (.int .i64 n)] (.v (.int .i64 (ipick c n))) := by
  have hv := ipick_val c n hc
  refine pure_of (C := ctx0 Tryd.prog) ctx0_good Tryd.func57 (c := bodyOf Tryd.f57) (by rfl) (Nat.le_of_ble_eq_true (by rfl)) 4 0 [0, 1, 2, 4, 6] ?_
  conv => whnf
  repeat' (first | (refine ifB_t (by assumption) ?_; conv => whnf) | (refine ifB_f (by assumption) ?_; conv => whnf) | (refine ifB_dec (fun h => ?_) (fun h => ?_) <;> (first | (exfalso; omega) | (conv => whnf))) | (refine ifB_eq (fun h => ?_) (fun h => ?_) <;> (first | (exfalso; omega) | (conv => whnf))) | (refine ifB_ne (fun h => ?_) (fun h => ?_) <;> (first | (exfalso; omega) | (conv => whnf))) | (refine ifB_not ?_; conv => whnf) | (refine ifB_and ?_; conv => whnf) | (refine ifB_or ?_; conv => whnf) | (refine And.intro ?_ ?_; (first | omega | assumption | (exact allU_getD (by assumption) _) | (simp only [cutL]; omega) | (refine And.intro ?_ ?_ <;> first | assumption | exact allU_getD (by assumption) _) | (simp only [cutL, IntKind.wrap_u64, IntKind.wrap_i64] at *; omega) | decide); conv => whnf))
  · rw [if_pos h] at hv; exact congrArg (fun b => T.v (Value.int .i64 b)) hv
  · rw [if_neg h] at hv; exact congrArg (fun b => T.v (Value.int .i64 b)) hv
def ePick09 : Entry := ⟨57, 3, fun l => match l with | [.v (.int .i64 c), .v (.int .i64 n)] => some (some (I64 c ∧ 0 < n ∧ n ≤ 4096), .v (.int .i64 (ipick c n)), []) | _ => none⟩
theorem ePick09_ok : ePick09.ok Tryd.prog glR := ⟨enters_of Tryd.func57 (by kernel_rfl) (by kernel_rfl), by
  intro args c t bs h hc
  simp only [ePick09] at h
  split at h <;> cases h
  replace hc := hc _ rfl
  exact pick09_pure _ _ hc.1 hc.2.1 hc.2.2⟩
set_option maxRecDepth 100000 in
theorem pick13_pure (c n : Int) (hc : I64 c) (hn : 0 < n) (hn2 : n ≤ 4096) : Pure Tryd.prog glR 31 [.v (.int .i64 c), .v (.int .i64 n)] (.v (.int .i64 (ipick c n))) := by
  have hv := ipick_val c n hc
  refine pure_of (C := ctx0 Tryd.prog) ctx0_good Tryd.func31 (c := bodyOf Tryd.f31) (by rfl) (Nat.le_of_ble_eq_true (by rfl)) 4 0 [0, 1, 2, 4, 6] ?_
  conv => whnf
  repeat' (first | (refine ifB_t (by assumption) ?_; conv => whnf) | (refine ifB_f (by assumption) ?_; conv => whnf) | (refine ifB_dec (fun h => ?_) (fun h => ?_) <;> (first | (exfalso; omega) | (conv => whnf))) | (refine ifB_eq (fun h => ?_) (fun h => ?_) <;> (first | (exfalso; omega) | (conv => whnf))) | (refine ifB_ne (fun h => ?_) (fun h => ?_) <;> (first | (exfalso; omega) | (conv => whnf))) | (refine ifB_not ?_; conv => whnf) | (refine ifB_and ?_; conv => whnf) | (refine ifB_or ?_; conv => whnf) | (refine And.intro ?_ ?_; (first | omega | assumption | (exact allU_getD (by assumption) _) | (simp only [cutL]; omega) | (refine And.intro ?_ ?_ <;> first | assumption | exact allU_getD (by assumption) _) | (simp only [cutL, IntKind.wrap_u64, IntKind.wrap_i64] at *; omega) | decide); conv => whnf))
  · rw [if_pos h] at hv; exact congrArg (fun b => T.v (Value.int .i64 b)) hv
  · rw [if_neg h] at hv; exact congrArg (fun b => T.v (Value.int .i64 b)) hv
def ePick13 : Entry := ⟨31, 3, fun l => match l with | [.v (.int .i64 c), .v (.int .i64 n)] => some (some (I64 c ∧ 0 < n ∧ n ≤ 4096), .v (.int .i64 (ipick c n)), []) | _ => none⟩
theorem ePick13_ok : ePick13.ok Tryd.prog glR := ⟨enters_of Tryd.func31 (by kernel_rfl) (by kernel_rfl), by
  intro args c t bs h hc
  simp only [ePick13] at h
  split at h <;> cases h
  replace hc := hc _ rfl
  exact pick13_pure _ _ hc.1 hc.2.1 hc.2.2⟩
set_option maxRecDepth 100000 in
theorem pick14_pure (c n : Int) (hc : I64 c) (hn : 0 < n) (hn2 : n ≤ 4096) : Pure Tryd.prog glR 11 [.v (.int .i64 c), .v (.int .i64 n)] (.v (.int .i64 (ipick c n))) := by
  have hv := ipick_val c n hc
  refine pure_of (C := ctx0 Tryd.prog) ctx0_good Tryd.func11 (c := bodyOf Tryd.f11) (by rfl) (Nat.le_of_ble_eq_true (by rfl)) 4 0 [0, 1, 2, 4, 6] ?_
  conv => whnf
  repeat' (first | (refine ifB_t (by assumption) ?_; conv => whnf) | (refine ifB_f (by assumption) ?_; conv => whnf) | (refine ifB_dec (fun h => ?_) (fun h => ?_) <;> (first | (exfalso; omega) | (conv => whnf))) | (refine ifB_eq (fun h => ?_) (fun h => ?_) <;> (first | (exfalso; omega) | (conv => whnf))) | (refine ifB_ne (fun h => ?_) (fun h => ?_) <;> (first | (exfalso; omega) | (conv => whnf))) | (refine ifB_not ?_; conv => whnf) | (refine ifB_and ?_; conv => whnf) | (refine ifB_or ?_; conv => whnf) | (refine And.intro ?_ ?_; (first | omega | assumption | (exact allU_getD (by assumption) _) | (simp only [cutL]; omega) | (refine And.intro ?_ ?_ <;> first | assumption | exact allU_getD (by assumption) _) | (simp only [cutL, IntKind.wrap_u64, IntKind.wrap_i64] at *; omega) | decide); conv => whnf))
  · rw [if_pos h] at hv; exact congrArg (fun b => T.v (Value.int .i64 b)) hv
  · rw [if_neg h] at hv; exact congrArg (fun b => T.v (Value.int .i64 b)) hv
def ePick14 : Entry := ⟨11, 3, fun l => match l with | [.v (.int .i64 c), .v (.int .i64 n)] => some (some (I64 c ∧ 0 < n ∧ n ≤ 4096), .v (.int .i64 (ipick c n)), []) | _ => none⟩
theorem ePick14_ok : ePick14.ok Tryd.prog glR := ⟨enters_of Tryd.func11 (by kernel_rfl) (by kernel_rfl), by
  intro args c t bs h hc
  simp only [ePick14] at h
  split at h <;> cases h
  replace hc := hc _ rfl
  exact pick14_pure _ _ hc.1 hc.2.1 hc.2.2⟩

/-! ### floats -/
theorem canon_pure (a : Int) (ha : U64 a) : Pure Tryd.prog glR 38 [.v (.int .u64 a)] (.v (.int .u64 (iCanon a))) := pure_v1 rfl rfl fun w _ => (canon_any a ha w).mono (by rintro e w' ⟨rfl, rfl⟩; exact ⟨rfl, Below.refl _ _⟩)
def eCanon : Entry := ⟨38, 3, fun l => match l with | [.v (.int .u64 a)] => some (some (U64 a), .v (.int .u64 (iCanon a)), []) | _ => none⟩
theorem eCanon_ok : eCanon.ok Tryd.prog glR := ⟨enters_of Tryd.func38 (by kernel_rfl) (by kernel_rfl), by
  intro args c t bs h hc
  simp only [eCanon] at h
  split at h <;> cases h
  replace hc := hc _ rfl
  exact canon_pure _ hc⟩
theorem rank_pure (a : Int) (ha : U64 a) : Pure Tryd.prog glR 36 [.v (.int .u64 a)] (.v (.int .u64 (iRank a))) := pure_v1 rfl rfl fun w _ => (rank_any a ha w).mono (by rintro e w' ⟨rfl, rfl⟩; exact ⟨rfl, Below.refl _ _⟩)
def eRank : Entry := ⟨36, 3, fun l => match l with | [.v (.int .u64 a)] => some (some (U64 a), .v (.int .u64 (iRank a)), []) | _ => none⟩
theorem eRank_ok : eRank.ok Tryd.prog glR := ⟨enters_of Tryd.func36 (by kernel_rfl) (by kernel_rfl), by
  intro args c t bs h hc
  simp only [eRank] at h
  split at h <;> cases h
  replace hc := hc _ rfl
  exact rank_pure _ hc⟩
theorem less_pure (a b : Int) (ha : U64 a) (hb : U64 b) : Pure Tryd.prog glR 39 [.v (.int .u64 a), .v (.int .u64 b)] (.v (.bool (bLess a b))) := pure_v1 rfl rfl fun w _ => (less_any a b ha hb w).mono (by rintro e w' ⟨rfl, rfl⟩; exact ⟨rfl, Below.refl _ _⟩)
def eLess : Entry := ⟨39, 3, fun l => match l with | [.v (.int .u64 a), .v (.int .u64 b)] => some (some (U64 a ∧ U64 b), .v (.bool (bLess a b)), []) | _ => none⟩
theorem eLess_ok : eLess.ok Tryd.prog glR := ⟨enters_of Tryd.func39 (by kernel_rfl) (by kernel_rfl), by
  intro args c t bs h hc
  simp only [eLess] at h
  split at h <;> cases h
  replace hc := hc _ rfl
  exact less_pure _ _ hc.1 hc.2⟩
theorem word_pure (a : Int) (ha : U64 a) : Pure Tryd.prog glR 100 [.v (.int .u64 a)] (.tup [.v (.int .u64 (iWord a)), .v (.bool (bWordOk a))]) := pure_v2 rfl rfl rfl fun w _ => (word_any a ha w).mono (by rintro e w' ⟨rfl, rfl⟩; exact ⟨rfl, Below.refl _ _⟩)
def eWord : Entry := ⟨100, 3, fun l => match l with | [.v (.int .u64 a)] => some (some (U64 a), .tup [.v (.int .u64 (iWord a)), .v (.bool (bWordOk a))], []) | _ => none⟩
theorem eWord_ok : eWord.ok Tryd.prog glR := ⟨enters_of Tryd.func100 (by kernel_rfl) (by kernel_rfl), by
  intro args c t bs h hc
  simp only [eWord] at h
  split at h <;> cases h
  replace hc := hc _ rfl
  exact word_pure _ hc⟩
theorem max_pure (a b : Int) (ha : U64 a) (hb : U64 b) : Pure Tryd.prog glR 79 [.v (.int .u64 a), .v (.int .u64 b)] (.v (.int .u64 (iTop a b))) := pure_v1 rfl rfl fun w _ => (max_any a b ha hb w).mono (by rintro e w' ⟨rfl, rfl⟩; exact ⟨rfl, Below.refl _ _⟩)
def eMax : Entry := ⟨79, 3, fun l => match l with | [.v (.int .u64 a), .v (.int .u64 b)] => some (some (U64 a ∧ U64 b), .v (.int .u64 (iTop a b)), []) | _ => none⟩
theorem eMax_ok : eMax.ok Tryd.prog glR := ⟨enters_of Tryd.func79 (by kernel_rfl) (by kernel_rfl), by
  intro args c t bs h hc
  simp only [eMax] at h
  split at h <;> cases h
  replace hc := hc _ rfl
  exact max_pure _ _ hc.1 hc.2⟩
theorem sum_pure (a b : Int) (ha : U64 a) (hb : U64 b) : Pure Tryd.prog glR 80 [.v (.int .u64 a), .v (.int .u64 b)] (.v (.int .u64 (iSum a b))) := pure_v1 rfl rfl fun w _ => (sum_any a b ha hb w).mono (by rintro e w' ⟨rfl, n, rfl⟩; exact ⟨rfl, below_drewN (Below.refl _ _) n⟩)
def eSum : Entry := ⟨80, 3, fun l => match l with | [.v (.int .u64 a), .v (.int .u64 b)] => some (some (U64 a ∧ U64 b), .v (.int .u64 (iSum a b)), []) | _ => none⟩
theorem eSum_ok : eSum.ok Tryd.prog glR := ⟨enters_of Tryd.func80 (by kernel_rfl) (by kernel_rfl), by
  intro args c t bs h hc
  simp only [eSum] at h
  split at h <;> cases h
  replace hc := hc _ rfl
  exact sum_pure _ _ hc.1 hc.2⟩
theorem rcanon_pure (a : Int) (ha : U64 a) : Pure Tryd.prog glR 28 [.v (.int .u64 a)] (.v (.int .u64 (iCanon a))) := pure_v1 rfl rfl fun w _ => (rcanon_any a ha w).mono (by rintro e w' ⟨rfl, rfl⟩; exact ⟨rfl, Below.refl _ _⟩)
def eRCanon : Entry := ⟨28, 3, fun l => match l with | [.v (.int .u64 a)] => some (some (U64 a), .v (.int .u64 (iCanon a)), []) | _ => none⟩
theorem eRCanon_ok : eRCanon.ok Tryd.prog glR := ⟨enters_of Tryd.func28 (by kernel_rfl) (by kernel_rfl), by
  intro args c t bs h hc
  simp only [eRCanon] at h
  split at h <;> cases h
  replace hc := hc _ rfl
  exact rcanon_pure _ hc⟩
theorem rrank_pure (a : Int) (ha : U64 a) : Pure Tryd.prog glR 91 [.v (.int .u64 a)] (.v (.int .u64 (iRank a))) := pure_v1 rfl rfl fun w _ => (rrank_any a ha w).mono (by rintro e w' ⟨rfl, rfl⟩; exact ⟨rfl, Below.refl _ _⟩)
def eRRank : Entry := ⟨91, 3, fun l => match l with | [.v (.int .u64 a)] => some (some (U64 a), .v (.int .u64 (iRank a)), []) | _ => none⟩
theorem eRRank_ok : eRRank.ok Tryd.prog glR := ⟨enters_of Tryd.func91 (by kernel_rfl) (by kernel_rfl), by
  intro args c t bs h hc
  simp only [eRRank] at h
  split at h <;> cases h
  replace hc := hc _ rfl
  exact rrank_pure _ hc⟩
theorem rless_pure (a b : Int) (ha : U64 a) (hb : U64 b) : Pure Tryd.prog glR 123 [.v (.int .u64 a), .v (.int .u64 b)] (.v (.bool (bLess a b))) := pure_v1 rfl rfl fun w _ => (rless_any a b ha hb w).mono (by rintro e w' ⟨rfl, rfl⟩; exact ⟨rfl, Below.refl _ _⟩)
def eRLess : Entry := ⟨123, 3, fun l => match l with | [.v (.int .u64 a), .v (.int .u64 b)] => some (some (U64 a ∧ U64 b), .v (.bool (bLess a b)), []) | _ => none⟩
theorem eRLess_ok : eRLess.ok Tryd.prog glR := ⟨enters_of Tryd.func123 (by kernel_rfl) (by kernel_rfl), by
  intro args c t bs h hc
  simp only [eRLess] at h
  split at h <;> cases h
  replace hc := hc _ rfl
  exact rless_pure _ _ hc.1 hc.2⟩
theorem rword_pure (a : Int) (ha : U64 a) : Pure Tryd.prog glR 118 [.v (.int .u64 a)] (.tup [.v (.int .u64 (iWord a)), .v (.bool (bWordOk a))]) := pure_v2 rfl rfl rfl fun w _ => (rword_any a ha w).mono (by rintro e w' ⟨rfl, rfl⟩; exact ⟨rfl, Below.refl _ _⟩)
def eRWord : Entry := ⟨118, 3, fun l => match l with | [.v (.int .u64 a)] => some (some (U64 a), .tup [.v (.int .u64 (iWord a)), .v (.bool (bWordOk a))], []) | _ => none⟩
theorem eRWord_ok : eRWord.ok Tryd.prog glR := ⟨enters_of Tryd.func118 (by kernel_rfl) (by kernel_rfl), by
  intro args c t bs h hc
  simp only [eRWord] at h
  split at h <;> cases h
  replace hc := hc _ rfl
  exact rword_pure _ hc⟩
theorem rmax_pure (a b : Int) (ha : U64 a) (hb : U64 b) : Pure Tryd.prog glR 106 [.v (.int .u64 a), .v (.int .u64 b)] (.v (.int .u64 (iTop a b))) := pure_v1 rfl rfl fun w _ => (rmax_any a b ha hb w).mono (by rintro e w' ⟨rfl, rfl⟩; exact ⟨rfl, Below.refl _ _⟩)
def eRMax : Entry := ⟨106, 3, fun l => match l with | [.v (.int .u64 a), .v (.int .u64 b)] => some (some (U64 a ∧ U64 b), .v (.int .u64 (iTop a b)), []) | _ => none⟩
theorem eRMax_ok : eRMax.ok Tryd.prog glR := ⟨enters_of Tryd.func106 (by kernel_rfl) (by kernel_rfl), by
  intro args c t bs h hc
  simp only [eRMax] at h
  split at h <;> cases h
  replace hc := hc _ rfl
  exact rmax_pure _ _ hc.1 hc.2⟩
theorem rsum_pure (a b : Int) (ha : U64 a) (hb : U64 b) : Pure Tryd.prog glR 107 [.v (.int .u64 a), .v (.int .u64 b)] (.v (.int .u64 (iSum a b))) := pure_v1 rfl rfl fun w _ => (rsum_any a b ha hb w).mono (by rintro e w' ⟨rfl, rfl⟩; exact ⟨rfl, Below.refl _ _⟩)
def eRSum : Entry := ⟨107, 3, fun l => match l with | [.v (.int .u64 a), .v (.int .u64 b)] => some (some (U64 a ∧ U64 b), .v (.int .u64 (iSum a b)), []) | _ => none⟩
theorem eRSum_ok : eRSum.ok Tryd.prog glR := ⟨enters_of Tryd.func107 (by kernel_rfl) (by kernel_rfl), by
  intro args c t bs h hc
  simp only [eRSum] at h
  split at h <;> cases h
  replace hc := hc _ rfl
  exact rsum_pure _ _ hc.1 hc.2⟩

/-! ### slices -/
set_option maxRecDepth 100000 in
theorem clone_pure (n : Nat) (xs : List Int) (hn : n ≤ 1000000) : Pure Tryd.prog glR 58 [.fl [.u64] n xs] (.ow 0 1 n) [(0, .fl [.u64] xs)] := by
  refine pure_wf fun hw => ?_
  obtain ⟨⟨w1, w2⟩, -⟩ := hw
  refine pure_of (C := ctx0 Tryd.prog) ctx0_good Tryd.func58 (c := bodyOf Tryd.f58) (by rfl) (Nat.le_of_ble_eq_true (by rfl)) 4 0 [0, 2, 4] ?_
  conv => whnf
  intro b hb
  cases b
  · conv => whnf
    repeat' (first | (refine ifB_t (by assumption) ?_; conv => whnf) | (refine ifB_f (by assumption) ?_; conv => whnf) | (refine ifB_dec (fun h => ?_) (fun h => ?_) <;> (first | (exfalso; omega) | (conv => whnf))) | (refine ifB_eq (fun h => ?_) (fun h => ?_) <;> (first | (exfalso; omega) | (conv => whnf))) | (refine ifB_ne (fun h => ?_) (fun h => ?_) <;> (first | (exfalso; omega) | (conv => whnf))) | (refine ifB_not ?_; conv => whnf) | (refine ifB_and ?_; conv => whnf) | (refine ifB_or ?_; conv => whnf) | (refine And.intro ?_ ?_; (first | omega | assumption | (exact allU_getD (by assumption) _) | (simp only [cutL]; omega) | (refine And.intro ?_ ?_ <;> first | assumption | exact allU_getD (by assumption) _) | (simp only [cutL, IntKind.wrap_u64, IntKind.wrap_i64] at *; omega) | decide); conv => whnf))
    repeat' (first | exact trivial | exact rfl | (refine And.intro ?_ ?_) | ((conv => whnf); done) | ((conv => whnf); (first | rfl | (refine congrArg (fun b => T.v (Value.bool b)) ?_; first | rfl | exact (decide_eq_true (by omega)).symm | exact (decide_eq_false (by omega)).symm | exact decide_eq_decide.2 (by omega)) | (refine congrArg (fun b => T.v (Value.int _ b)) ?_; first | rfl | omega) | omega)) | (first | rfl | (refine congrArg (fun b => T.v (Value.bool b)) ?_; first | rfl | exact (decide_eq_true (by omega)).symm | exact (decide_eq_false (by omega)).symm | exact decide_eq_decide.2 (by omega)) | (refine congrArg (fun b => T.v (Value.int _ b)) ?_; first | rfl | omega) | omega))
  · have := hb rfl
    subst this
    obtain rfl : xs = [] := List.eq_nil_of_length_eq_zero (by simpa using w1)
    conv => whnf
    repeat' (first | exact trivial | exact rfl | (refine And.intro ?_ ?_) | ((conv => whnf); done) | ((conv => whnf); (first | rfl | (refine congrArg (fun b => T.v (Value.bool b)) ?_; first | rfl | exact (decide_eq_true (by omega)).symm | exact (decide_eq_false (by omega)).symm | exact decide_eq_decide.2 (by omega)) | (refine congrArg (fun b => T.v (Value.int _ b)) ?_; first | rfl | omega) | omega)) | (first | rfl | (refine congrArg (fun b => T.v (Value.bool b)) ?_; first | rfl | exact (decide_eq_true (by omega)).symm | exact (decide_eq_false (by omega)).symm | exact decide_eq_decide.2 (by omega)) | (refine congrArg (fun b => T.v (Value.int _ b)) ?_; first | rfl | omega) | omega))
set_option maxRecDepth 100000 in
theorem equal_pure (n m : Nat) (xs ys : List Int) : Pure Tryd.prog glR 93 [.fl [.u64] n xs, .fl [.u64] m ys] (.v (.bool (decide (xs = ys)))) := by
  refine pure_wf fun hw => ?_
  obtain ⟨⟨w1, w2⟩, ⟨w3, w4⟩, -⟩ := hw
  simp only [List.length_cons, List.length_nil, Nat.zero_add, Nat.mul_one] at w1 w3
  refine pure_of (C := ctx0 Tryd.prog) ctx0_good Tryd.func93 (c := bodyOf Tryd.f93) (by rfl) (Nat.le_of_ble_eq_true (by rfl)) 4 0 [0, 1, 4, 5, 10, 12, 13, 14, 24] ?_
  conv => whnf
  repeat' (first | (refine ifB_t (by assumption) ?_; conv => whnf) | (refine ifB_f (by assumption) ?_; conv => whnf) | (refine ifB_dec (fun h => ?_) (fun h => ?_) <;> (first | (exfalso; omega) | (conv => whnf))) | (refine ifB_eq (fun h => ?_) (fun h => ?_) <;> (first | (exfalso; omega) | (conv => whnf))) | (refine ifB_ne (fun h => ?_) (fun h => ?_) <;> (first | (exfalso; omega) | (conv => whnf))) | (refine ifB_not ?_; conv => whnf) | (refine ifB_and ?_; conv => whnf) | (refine ifB_or ?_; conv => whnf) | (refine And.intro ?_ ?_; (first | omega | assumption | (exact allU_getD (by assumption) _) | (simp only [cutL]; omega) | (refine And.intro ?_ ?_ <;> first | assumption | exact allU_getD (by assumption) _) | (simp only [cutL, IntKind.wrap_u64, IntKind.wrap_i64] at *; omega) | decide); conv => whnf))
  · exact congrArg (fun b => T.v (Value.bool b)) (decide_eq_false (fun e => by subst e; omega)).symm
  · refine TW.loopD ctx0_good 0 (base := 0) (lv := [0, 1, 4, 5, 10, 12, 13, 14, 24]) [13] [] [] (fun j : Nat => [.v (.int .i64 j)]) (fun _ => []) (fun j => j ≤ n ∧ xs.take j = ys.take j) (fun j => n - j) ?_
    conv => whnf
    refine ⟨⟨0, ⟨rfl, rfl, rfl⟩, by omega, rfl⟩, fun j ⟨hj, ht⟩ => ?_⟩
    conv => whnf
    repeat' (first | (refine ifB_t (by assumption) ?_; conv => whnf) | (refine ifB_f (by assumption) ?_; conv => whnf) | (refine ifB_dec (fun h => ?_) (fun h => ?_) <;> (first | (exfalso; omega) | (conv => whnf))) | (refine ifB_eq (fun h => ?_) (fun h => ?_) <;> (first | (exfalso; omega) | (conv => whnf))) | (refine ifB_ne (fun h => ?_) (fun h => ?_) <;> (first | (exfalso; omega) | (conv => whnf))) | (refine ifB_not ?_; conv => whnf) | (refine ifB_and ?_; conv => whnf) | (refine ifB_or ?_; conv => whnf) | (refine And.intro ?_ ?_; (first | omega | assumption | (exact allU_getD (by assumption) _) | (simp only [cutL]; omega) | (refine And.intro ?_ ?_ <;> first | assumption | exact allU_getD (by assumption) _) | (simp only [cutL, IntKind.wrap_u64, IntKind.wrap_i64] at *; omega) | decide); conv => whnf))
    · simp only [Nat.zero_add, Nat.mul_one, Int.toNat_natCast] at h
      exact congrArg (fun b => T.v (Value.bool b)) (decide_eq_false (fun e => by subst e; exact h rfl)).symm
    · simp only [Nat.zero_add, Nat.mul_one, Int.toNat_natCast] at h
      rw [wsucc (n := n) (by omega) w2]
      exact ⟨j + 1, [], ⟨rfl, rfl, rfl⟩, ⟨by omega, take_same (by omega) (by omega) ht h⟩, by (try dsimp only); omega⟩
    · have e : j = n := by omega
      rw [e, List.take_of_length_le (by omega), List.take_of_length_le (by omega)] at ht
      exact congrArg (fun b => T.v (Value.bool b)) (decide_eq_true ht).symm
def eClone : Entry := ⟨58, 3, fun l => match l with | [.fl [.u64] n xs] => some (some (n ≤ 1000000), .ow 0 1 n, [(0, .fl [.u64] xs)]) | _ => none⟩
theorem eClone_ok : eClone.ok Tryd.prog glR := ⟨enters_of Tryd.func58 (by kernel_rfl) (by kernel_rfl), by
  intro args c t bs h hc
  simp only [eClone] at h
  split at h <;> cases h
  replace hc := hc _ rfl
  exact clone_pure _ _ hc⟩
def eEqual : Entry := ⟨93, 3, fun l => match l with | [.fl [.u64] n xs, .fl [.u64] m ys] => some (none, .v (.bool (decide (xs = ys))), []) | _ => none⟩
theorem eEqual_ok : eEqual.ok Tryd.prog glR := ⟨enters_of Tryd.func93 (by kernel_rfl) (by kernel_rfl), by
  intro args c t bs h hc
  simp only [eEqual] at h
  split at h <;> cases h
  exact equal_pure _ _ _ _⟩
set_option maxRecDepth 100000 in
theorem words_pure (n m : Nat) (xs ys : List Int) : Pure Tryd.prog glR 20 [.fl [.u64] n xs, .fl [.u64] m ys] (.v (.bool (decide (xs = ys)))) := by
  refine pure_wf fun hw => ?_
  obtain ⟨⟨w1, w2⟩, ⟨w3, w4⟩, -⟩ := hw
  simp only [List.length_cons, List.length_nil, Nat.zero_add, Nat.mul_one] at w1 w3
  refine pure_of (C := ctx0 Tryd.prog) ctx0_good Tryd.func20 (c := bodyOf Tryd.f20) (by rfl) (Nat.le_of_ble_eq_true (by rfl)) 4 0 [0, 1, 4, 5, 10, 14, 25] ?_
  conv => whnf
  repeat' (first | (refine ifB_t (by assumption) ?_; conv => whnf) | (refine ifB_f (by assumption) ?_; conv => whnf) | (refine ifB_dec (fun h => ?_) (fun h => ?_) <;> (first | (exfalso; omega) | (conv => whnf))) | (refine ifB_eq (fun h => ?_) (fun h => ?_) <;> (first | (exfalso; omega) | (conv => whnf))) | (refine ifB_ne (fun h => ?_) (fun h => ?_) <;> (first | (exfalso; omega) | (conv => whnf))) | (refine ifB_not ?_; conv => whnf) | (refine ifB_and ?_; conv => whnf) | (refine ifB_or ?_; conv => whnf) | (refine And.intro ?_ ?_; (first | omega | assumption | (exact allU_getD (by assumption) _) | (simp only [cutL]; omega) | (refine And.intro ?_ ?_ <;> first | assumption | exact allU_getD (by assumption) _) | (simp only [cutL, IntKind.wrap_u64, IntKind.wrap_i64] at *; omega) | decide); conv => whnf))
  · exact congrArg (fun b => T.v (Value.bool b)) (decide_eq_false (fun e => by subst e; omega)).symm
  · refine TW.loopD ctx0_good 0 (base := 0) (lv := [0, 1, 4, 5, 10, 14, 25]) [5] [] [] (fun j : Nat => [.v (.int .i64 j)]) (fun _ => []) (fun j => j ≤ n ∧ xs.take j = ys.take j) (fun j => n - j) ?_
    conv => whnf
    refine ⟨⟨0, ⟨rfl, rfl, rfl⟩, by omega, rfl⟩, fun j ⟨hj, ht⟩ => ?_⟩
    conv => whnf
    repeat' (first | (refine ifB_t (by assumption) ?_; conv => whnf) | (refine ifB_f (by assumption) ?_; conv => whnf) | (refine ifB_dec (fun h => ?_) (fun h => ?_) <;> (first | (exfalso; omega) | (conv => whnf))) | (refine ifB_eq (fun h => ?_) (fun h => ?_) <;> (first | (exfalso; omega) | (conv => whnf))) | (refine ifB_ne (fun h => ?_) (fun h => ?_) <;> (first | (exfalso; omega) | (conv => whnf))) | (refine ifB_not ?_; conv => whnf) | (refine ifB_and ?_; conv => whnf) | (refine ifB_or ?_; conv => whnf) | (refine And.intro ?_ ?_; (first | omega | assumption | (exact allU_getD (by assumption) _) | (simp only [cutL]; omega) | (refine And.intro ?_ ?_ <;> first | assumption | exact allU_getD (by assumption) _) | (simp only [cutL, IntKind.wrap_u64, IntKind.wrap_i64] at *; omega) | decide); conv => whnf))
    · simp only [Nat.zero_add, Nat.mul_one, Int.toNat_natCast] at h
      exact congrArg (fun b => T.v (Value.bool b)) (decide_eq_false (fun e => by subst e; exact h rfl)).symm
    · simp only [Nat.zero_add, Nat.mul_one, Int.toNat_natCast] at h
      rw [wsucc (n := n) (by omega) w2]
      exact ⟨j + 1, [], ⟨rfl, rfl, rfl⟩, ⟨by omega, take_same (by omega) (by omega) ht h⟩, by (try dsimp only); omega⟩
    · have e : j = n := by omega
      rw [e, List.take_of_length_le (by omega), List.take_of_length_le (by omega)] at ht
      exact congrArg (fun b => T.v (Value.bool b)) (decide_eq_true ht).symm
def eWords : Entry := ⟨20, 3, fun l => match l with | [.fl [.u64] n xs, .fl [.u64] m ys] => some (none, .v (.bool (decide (xs = ys))), []) | _ => none⟩
theorem eWords_ok : eWords.ok Tryd.prog glR := ⟨enters_of Tryd.func20 (by kernel_rfl) (by kernel_rfl), by
  intro args c t bs h hc
  simp only [eWords] at h
  split at h <;> cases h
  exact words_pure _ _ _ _⟩
set_option maxRecDepth 100000 in
theorem ints_pure (n m : Nat) (xs ys : List Int) : Pure Tryd.prog glR 61 [.fl [.i64] n xs, .fl [.i64] m ys] (.v (.bool (decide (xs = ys)))) := by
  refine pure_wf fun hw => ?_
  obtain ⟨⟨w1, w2⟩, ⟨w3, w4⟩, -⟩ := hw
  simp only [List.length_cons, List.length_nil, Nat.zero_add, Nat.mul_one] at w1 w3
  refine pure_of (C := ctx0 Tryd.prog) ctx0_good Tryd.func61 (c := bodyOf Tryd.f61) (by rfl) (Nat.le_of_ble_eq_true (by rfl)) 4 0 [0, 1, 4, 5, 10, 14, 25] ?_
  conv => whnf
  repeat' (first | (refine ifB_t (by assumption) ?_; conv => whnf) | (refine ifB_f (by assumption) ?_; conv => whnf) | (refine ifB_dec (fun h => ?_) (fun h => ?_) <;> (first | (exfalso; omega) | (conv => whnf))) | (refine ifB_eq (fun h => ?_) (fun h => ?_) <;> (first | (exfalso; omega) | (conv => whnf))) | (refine ifB_ne (fun h => ?_) (fun h => ?_) <;> (first | (exfalso; omega) | (conv => whnf))) | (refine ifB_not ?_; conv => whnf) | (refine ifB_and ?_; conv => whnf) | (refine ifB_or ?_; conv => whnf) | (refine And.intro ?_ ?_; (first | omega | assumption | (exact allU_getD (by assumption) _) | (simp only [cutL]; omega) | (refine And.intro ?_ ?_ <;> first | assumption | exact allU_getD (by assumption) _) | (simp only [cutL, IntKind.wrap_u64, IntKind.wrap_i64] at *; omega) | decide); conv => whnf))
  · exact congrArg (fun b => T.v (Value.bool b)) (decide_eq_false (fun e => by subst e; omega)).symm
  · refine TW.loopD ctx0_good 0 (base := 0) (lv := [0, 1, 4, 5, 10, 14, 25]) [5] [] [] (fun j : Nat => [.v (.int .i64 j)]) (fun _ => []) (fun j => j ≤ n ∧ xs.take j = ys.take j) (fun j => n - j) ?_
    conv => whnf
    refine ⟨⟨0, ⟨rfl, rfl, rfl⟩, by omega, rfl⟩, fun j ⟨hj, ht⟩ => ?_⟩
    conv => whnf
    repeat' (first | (refine ifB_t (by assumption) ?_; conv => whnf) | (refine ifB_f (by assumption) ?_; conv => whnf) | (refine ifB_dec (fun h => ?_) (fun h => ?_) <;> (first | (exfalso; omega) | (conv => whnf))) | (refine ifB_eq (fun h => ?_) (fun h => ?_) <;> (first | (exfalso; omega) | (conv => whnf))) | (refine ifB_ne (fun h => ?_) (fun h => ?_) <;> (first | (exfalso; omega) | (conv => whnf))) | (refine ifB_not ?_; conv => whnf) | (refine ifB_and ?_; conv => whnf) | (refine ifB_or ?_; conv => whnf) | (refine And.intro ?_ ?_; (first | omega | assumption | (exact allU_getD (by assumption) _) | (simp only [cutL]; omega) | (refine And.intro ?_ ?_ <;> first | assumption | exact allU_getD (by assumption) _) | (simp only [cutL, IntKind.wrap_u64, IntKind.wrap_i64] at *; omega) | decide); conv => whnf))
    · simp only [Nat.zero_add, Nat.mul_one, Int.toNat_natCast] at h
      exact congrArg (fun b => T.v (Value.bool b)) (decide_eq_false (fun e => by subst e; exact h rfl)).symm
    · simp only [Nat.zero_add, Nat.mul_one, Int.toNat_natCast] at h
      rw [wsucc (n := n) (by omega) w2]
      exact ⟨j + 1, [], ⟨rfl, rfl, rfl⟩, ⟨by omega, take_same (by omega) (by omega) ht h⟩, by (try dsimp only); omega⟩
    · have e : j = n := by omega
      rw [e, List.take_of_length_le (by omega), List.take_of_length_le (by omega)] at ht
      exact congrArg (fun b => T.v (Value.bool b)) (decide_eq_true ht).symm
def eInts : Entry := ⟨61, 3, fun l => match l with | [.fl [.i64] n xs, .fl [.i64] m ys] => some (none, .v (.bool (decide (xs = ys))), []) | _ => none⟩
theorem eInts_ok : eInts.ok Tryd.prog glR := ⟨enters_of Tryd.func61 (by kernel_rfl) (by kernel_rfl), by
  intro args c t bs h hc
  simp only [eInts] at h
  split at h <;> cases h
  exact ints_pure _ _ _ _⟩

/-! ### what fits -/
def fitsB (k p n : Int) : Bool := decide (1 ≤ k ∧ k ≤ 5 ∧ 1 ≤ p ∧ p ≤ 16 ∧ 1 ≤ n ∧ n ≤ 256)
def homeI (k n : Int) : Int := if k = 1 then 1 else if k = 2 then 1 + 2 * n else if k = 3 then 1 + 4 * n else if k = 4 then 2 + 4 * n else 9 + n
set_option maxRecDepth 100000 in
theorem fits_pure (k p n : Int) : Pure Tryd.prog glR 48 [.agg [.v (.int .i64 k), .v (.int .i64 p), .v (.int .i64 n)]] (.v (.bool (fitsB k p n))) := by
  refine pure_of (C := ctx0 Tryd.prog) ctx0_good Tryd.func48 (c := bodyOf Tryd.f48) (by rfl) (Nat.le_of_ble_eq_true (by rfl)) 4 0 [0, 1, 2] ?_
  conv => whnf
  repeat' (first | (refine ifB_t (by assumption) ?_; conv => whnf) | (refine ifB_f (by assumption) ?_; conv => whnf) | (refine ifB_dec (fun h => ?_) (fun h => ?_) <;> (first | (exfalso; omega) | (conv => whnf))) | (refine ifB_eq (fun h => ?_) (fun h => ?_) <;> (first | (exfalso; omega) | (conv => whnf))) | (refine ifB_ne (fun h => ?_) (fun h => ?_) <;> (first | (exfalso; omega) | (conv => whnf))) | (refine ifB_not ?_; conv => whnf) | (refine ifB_and ?_; conv => whnf) | (refine ifB_or ?_; conv => whnf) | (refine And.intro ?_ ?_; (first | omega | assumption | (exact allU_getD (by assumption) _) | (simp only [cutL]; omega) | (refine And.intro ?_ ?_ <;> first | assumption | exact allU_getD (by assumption) _) | (simp only [cutL, IntKind.wrap_u64, IntKind.wrap_i64] at *; omega) | decide); conv => whnf))
  all_goals (first | rfl | (refine congrArg (fun b => T.v (Value.bool b)) ?_; first | rfl | exact (decide_eq_true (by omega)).symm | exact (decide_eq_false (by omega)).symm | exact decide_eq_decide.2 (by omega)) | (refine congrArg (fun b => T.v (Value.int _ b)) ?_; first | rfl | omega) | omega)
def eFits : Entry := ⟨48, 3, fun l => match l with | [.agg [.v (.int .i64 k), .v (.int .i64 p), .v (.int .i64 n)]] => some (none, .v (.bool (fitsB k p n)), []) | _ => none⟩
theorem eFits_ok : eFits.ok Tryd.prog glR := ⟨enters_of Tryd.func48 (by kernel_rfl) (by kernel_rfl), by
  intro args c t bs h hc
  simp only [eFits] at h
  split at h <;> cases h
  exact fits_pure _ _ _⟩
set_option maxRecDepth 100000 in
theorem rin_pure (n a b : Int) : Pure Tryd.prog glR 86 [.v (.int .i64 n), .v (.int .i64 a), .v (.int .i64 b)] (.v (.bool (decide (a ≤ n ∧ n ≤ b)))) := by
  refine pure_of (C := ctx0 Tryd.prog) ctx0_good Tryd.func86 (c := bodyOf Tryd.f86) (by rfl) (Nat.le_of_ble_eq_true (by rfl)) 4 0 [0, 1, 2, 6] ?_
  conv => whnf
  repeat' (first | (refine ifB_t (by assumption) ?_; conv => whnf) | (refine ifB_f (by assumption) ?_; conv => whnf) | (refine ifB_dec (fun h => ?_) (fun h => ?_) <;> (first | (exfalso; omega) | (conv => whnf))) | (refine ifB_eq (fun h => ?_) (fun h => ?_) <;> (first | (exfalso; omega) | (conv => whnf))) | (refine ifB_ne (fun h => ?_) (fun h => ?_) <;> (first | (exfalso; omega) | (conv => whnf))) | (refine ifB_not ?_; conv => whnf) | (refine ifB_and ?_; conv => whnf) | (refine ifB_or ?_; conv => whnf) | (refine And.intro ?_ ?_; (first | omega | assumption | (exact allU_getD (by assumption) _) | (simp only [cutL]; omega) | (refine And.intro ?_ ?_ <;> first | assumption | exact allU_getD (by assumption) _) | (simp only [cutL, IntKind.wrap_u64, IntKind.wrap_i64] at *; omega) | decide); conv => whnf))
  all_goals (first | rfl | (refine congrArg (fun b => T.v (Value.bool b)) ?_; first | rfl | exact (decide_eq_true (by omega)).symm | exact (decide_eq_false (by omega)).symm | exact decide_eq_decide.2 (by omega)) | (refine congrArg (fun b => T.v (Value.int _ b)) ?_; first | rfl | omega) | omega)
def eRIn : Entry := ⟨86, 3, fun l => match l with | [.v (.int .i64 n), .v (.int .i64 a), .v (.int .i64 b)] => some (none, .v (.bool (decide (a ≤ n ∧ n ≤ b))), []) | _ => none⟩
theorem eRIn_ok : eRIn.ok Tryd.prog glR := ⟨enters_of Tryd.func86 (by kernel_rfl) (by kernel_rfl), by
  intro args c t bs h hc
  simp only [eRIn] at h
  split at h <;> cases h
  exact rin_pure _ _ _⟩
def ctxFits (P : Program) : Ctx := ctx P glR [eFits, eRIn] [] (noEq P) [] (fun _ h => by cases h)
theorem ctxFits_good : (ctxFits Tryd.prog).good := ctx_good (by kernel_rfl) (AllOk.mem ⟨eFits_ok, eRIn_ok, trivial⟩) glR_two
set_option maxRecDepth 100000 in
theorem rfits_pure (k p n : Int) : Pure Tryd.prog glR 42 [.agg [.v (.int .i64 k), .v (.int .i64 p), .v (.int .i64 n)]] (.v (.bool (fitsB k p n))) := by
  refine pure_of (C := ctxFits Tryd.prog) ctxFits_good Tryd.func42 (c := bodyOf Tryd.f42) (by rfl) (Nat.le_of_ble_eq_true (by rfl)) 4 0 [0, 1, 2] ?_
  conv => whnf
  repeat' (first | (refine ifB_t (by assumption) ?_; conv => whnf) | (refine ifB_f (by assumption) ?_; conv => whnf) | (refine ifB_dec (fun h => ?_) (fun h => ?_) <;> (first | (exfalso; omega) | (conv => whnf))) | (refine ifB_eq (fun h => ?_) (fun h => ?_) <;> (first | (exfalso; omega) | (conv => whnf))) | (refine ifB_ne (fun h => ?_) (fun h => ?_) <;> (first | (exfalso; omega) | (conv => whnf))) | (refine ifB_not ?_; conv => whnf) | (refine ifB_and ?_; conv => whnf) | (refine ifB_or ?_; conv => whnf) | (refine And.intro ?_ ?_; (first | omega | assumption | (exact allU_getD (by assumption) _) | (simp only [cutL]; omega) | (refine And.intro ?_ ?_ <;> first | assumption | exact allU_getD (by assumption) _) | (simp only [cutL, IntKind.wrap_u64, IntKind.wrap_i64] at *; omega) | decide); conv => whnf))
  all_goals (first | rfl | (refine congrArg (fun b => T.v (Value.bool b)) ?_; first | rfl | exact (decide_eq_true (by omega)).symm | exact (decide_eq_false (by omega)).symm | exact decide_eq_decide.2 (by omega)) | (refine congrArg (fun b => T.v (Value.int _ b)) ?_; first | rfl | omega) | omega)
def eRFits : Entry := ⟨42, 3, fun l => match l with | [.agg [.v (.int .i64 k), .v (.int .i64 p), .v (.int .i64 n)]] => some (none, .v (.bool (fitsB k p n)), []) | _ => none⟩
theorem eRFits_ok : eRFits.ok Tryd.prog glR := ⟨enters_of Tryd.func42 (by kernel_rfl) (by kernel_rfl), by
  intro args c t bs h hc
  simp only [eRFits] at h
  split at h <;> cases h
  exact rfits_pure _ _ _⟩
def ctxHome (P : Program) : Ctx := ctx P glR [eFits, eRFits] [] (noEq P) [] (fun _ h => by cases h)
theorem ctxHome_good : (ctxHome Tryd.prog).good := ctx_good (by kernel_rfl) (AllOk.mem ⟨eFits_ok, eRFits_ok, trivial⟩) glR_two
set_option maxRecDepth 100000 in
theorem home_pure (k p n : Int) (hf : fitsB k p n = true) : Pure Tryd.prog glR 49 [.agg [.v (.int .i64 k), .v (.int .i64 p), .v (.int .i64 n)]] (.v (.int .i64 (homeI k n))) := by
  have hf' := of_decide_eq_true hf
  refine pure_of (C := ctxHome Tryd.prog) ctxHome_good Tryd.func49 (c := bodyOf Tryd.f49) (by rfl) (Nat.le_of_ble_eq_true (by rfl)) 4 0 [0, 1, 2, 3, 6] ?_
  conv => whnf
  refine ifB_not (ifB_mk (fun _ => ?_) (fun h => by rw [hf] at h; cases h))
  conv => whnf
  obtain ⟨h1, h2, h3, h4, h5, h6⟩ := hf'
  have : k = 1 ∨ k = 2 ∨ k = 3 ∨ k = 4 ∨ k = 5 := by omega
  rcases this with rfl | rfl | rfl | rfl | rfl <;> repeat' (first | (refine ifB_t (by assumption) ?_; conv => whnf) | (refine ifB_f (by assumption) ?_; conv => whnf) | (refine ifB_dec (fun h => ?_) (fun h => ?_) <;> (first | (exfalso; omega) | (conv => whnf))) | (refine ifB_eq (fun h => ?_) (fun h => ?_) <;> (first | (exfalso; omega) | (conv => whnf))) | (refine ifB_ne (fun h => ?_) (fun h => ?_) <;> (first | (exfalso; omega) | (conv => whnf))) | (refine ifB_not ?_; conv => whnf) | (refine ifB_and ?_; conv => whnf) | (refine ifB_or ?_; conv => whnf) | (refine And.intro ?_ ?_; (first | omega | assumption | (exact allU_getD (by assumption) _) | (simp only [cutL]; omega) | (refine And.intro ?_ ?_ <;> first | assumption | exact allU_getD (by assumption) _) | (simp only [cutL, IntKind.wrap_u64, IntKind.wrap_i64] at *; omega) | decide); conv => whnf))
  all_goals (refine congrArg (fun b => T.v (Value.int _ b)) ?_; simp [objX, homeI, IntKind.wrap_i64] <;> omega)
def eHome : Entry := ⟨49, 3, fun l => match l with | [.agg [.v (.int .i64 k), .v (.int .i64 p), .v (.int .i64 n)]] => some (some (fitsB k p n = true), .v (.int .i64 (homeI k n)), []) | _ => none⟩
theorem eHome_ok : eHome.ok Tryd.prog glR := ⟨enters_of Tryd.func49 (by kernel_rfl) (by kernel_rfl), by
  intro args c t bs h hc
  simp only [eHome] at h
  split at h <;> cases h
  replace hc := hc _ rfl
  exact home_pure _ _ _ hc⟩
set_option maxHeartbeats 2000000 in
set_option maxRecDepth 100000 in
theorem rhome_pure (k p n : Int) (hf : fitsB k p n = true) : Pure Tryd.prog glR 94 [.agg [.v (.int .i64 k), .v (.int .i64 p), .v (.int .i64 n)]] (.v (.int .i64 (homeI k n))) := by
  have hf' := of_decide_eq_true hf
  refine pure_of (C := ctxHome Tryd.prog) ctxHome_good Tryd.func94 (c := bodyOf Tryd.f94) (by rfl) (Nat.le_of_ble_eq_true (by rfl)) 4 0 [0, 1, 2, 5, 7, 8, 10, 16, 22] ?_
  conv => whnf
  refine ifB_not (ifB_mk (fun _ => ?_) (fun h => by rw [hf] at h; cases h))
  conv => whnf
  obtain ⟨h1, h2, h3, h4, h5, h6⟩ := hf'
  have : k = 1 ∨ k = 2 ∨ k = 3 ∨ k = 4 ∨ k = 5 := by omega
  rcases this with rfl | rfl | rfl | rfl | rfl <;> repeat' (first | (refine ifB_t (by assumption) ?_; conv => whnf) | (refine ifB_f (by assumption) ?_; conv => whnf) | (refine ifB_dec (fun h => ?_) (fun h => ?_) <;> (first | (exfalso; omega) | (conv => whnf))) | (refine ifB_eq (fun h => ?_) (fun h => ?_) <;> (first | (exfalso; omega) | (conv => whnf))) | (refine ifB_ne (fun h => ?_) (fun h => ?_) <;> (first | (exfalso; omega) | (conv => whnf))) | (refine ifB_not ?_; conv => whnf) | (refine ifB_and ?_; conv => whnf) | (refine ifB_or ?_; conv => whnf) | (refine And.intro ?_ ?_; (first | omega | assumption | (exact allU_getD (by assumption) _) | (simp only [cutL]; omega) | (refine And.intro ?_ ?_ <;> first | assumption | exact allU_getD (by assumption) _) | (simp only [cutL, IntKind.wrap_u64, IntKind.wrap_i64] at *; omega) | decide); conv => whnf))
  all_goals (refine congrArg (fun b => T.v (Value.int _ b)) ?_; simp [homeI, IntKind.wrap_i64] <;> omega)
def eRHome : Entry := ⟨94, 3, fun l => match l with | [.agg [.v (.int .i64 k), .v (.int .i64 p), .v (.int .i64 n)]] => some (some (fitsB k p n = true), .v (.int .i64 (homeI k n)), []) | _ => none⟩
theorem eRHome_ok : eRHome.ok Tryd.prog glR := ⟨enters_of Tryd.func94 (by kernel_rfl) (by kernel_rfl), by
  intro args c t bs h hc
  simp only [eRHome] at h
  split at h <;> cases h
  replace hc := hc _ rfl
  exact rhome_pure _ _ _ hc⟩
end Go.Proofs.YtlcpcgdecodjfaaDoor
