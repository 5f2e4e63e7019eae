/- Mixing: the program's, and the document's. -/
import Derived.Test.YtlcpcgdecodjfaaDoorGl

namespace Go.Proofs.YtlcpcgdecodjfaaDoor
open Go.RowKit Go.Proofs.YtlcpcgdecodjfaaDoor.Am
set_option linter.unusedVariables false
set_option linter.unusedSimpArgs false


def mixF (w f : Int) : Int := bits .xor .u64 w (w.fdiv (2 ^ (min f.toNat IntKind.u64.bits)))
def mixR (w f c : Int) : Int := IntKind.u64.wrap (mixF w f * c)
def iMix (w : Int) : Int := mixR (mixR (mixR w 30 13787848793156543929) 27 10723151780598845931) 31 1
def bBefore (a b : Int) : Bool := decide (iMix a > iMix b)
set_option maxRecDepth 100000 in
theorem mix_pure (a : Int) : Pure Tryd.prog glM 76 [.v (.int .u64 a)] (.v (.int .u64 (iMix a))) := by
  refine pure_of (C := ctx0M Tryd.prog) ctx0M_good Tryd.func76 (c := bodyOf Tryd.f76) (by rfl) (Nat.le_of_ble_eq_true (by rfl)) 4 0 [0, 2, 4, 5, 6, 7] ?_
  conv => whnf
  refine TW.roundsV ctx0M_good 0 (base := 0) (lv := [0, 2, 4, 5, 6, 7]) 4 ?_
  conv => whnf
  repeat' (first | (refine ifB_t (by assumption) ?_; conv => whnf) | (refine ifB_f (by assumption) ?_; conv => whnf) | (refine ifB_dec (fun h => ?_) (fun h => ?_) <;> (first | (exfalso; omega) | (conv => whnf))) | (refine ifB_eq (fun h => ?_) (fun h => ?_) <;> (first | (exfalso; omega) | (conv => whnf))) | (refine ifB_ne (fun h => ?_) (fun h => ?_) <;> (first | (exfalso; omega) | (conv => whnf))) | (refine ifB_not ?_; conv => whnf) | (refine ifB_and ?_; conv => whnf) | (refine ifB_or ?_; conv => whnf) | (refine And.intro ?_ ?_; (first | omega | assumption | (exact allU_getD (by assumption) _) | (simp only [cutL]; omega) | (refine And.intro ?_ ?_ <;> first | assumption | exact allU_getD (by assumption) _) | (simp only [cutL, IntKind.wrap_u64, IntKind.wrap_i64] at *; omega) | decide); conv => whnf))
  refine ⟨⟨[0, 2, 5, 6], [], []⟩, rfl, ?_⟩
  conv => whnf
  repeat' (first | (refine ifB_t (by assumption) ?_; conv => whnf) | (refine ifB_f (by assumption) ?_; conv => whnf) | (refine ifB_dec (fun h => ?_) (fun h => ?_) <;> (first | (exfalso; omega) | (conv => whnf))) | (refine ifB_eq (fun h => ?_) (fun h => ?_) <;> (first | (exfalso; omega) | (conv => whnf))) | (refine ifB_ne (fun h => ?_) (fun h => ?_) <;> (first | (exfalso; omega) | (conv => whnf))) | (refine ifB_not ?_; conv => whnf) | (refine ifB_and ?_; conv => whnf) | (refine ifB_or ?_; conv => whnf) | (refine And.intro ?_ ?_; (first | omega | assumption | (exact allU_getD (by assumption) _) | (simp only [cutL]; omega) | (refine And.intro ?_ ?_ <;> first | assumption | exact allU_getD (by assumption) _) | (simp only [cutL, IntKind.wrap_u64, IntKind.wrap_i64] at *; omega) | decide); conv => whnf))
  refine ⟨⟨[0, 2, 5, 6], [], []⟩, rfl, ?_⟩
  conv => whnf
  repeat' (first | (refine ifB_t (by assumption) ?_; conv => whnf) | (refine ifB_f (by assumption) ?_; conv => whnf) | (refine ifB_dec (fun h => ?_) (fun h => ?_) <;> (first | (exfalso; omega) | (conv => whnf))) | (refine ifB_eq (fun h => ?_) (fun h => ?_) <;> (first | (exfalso; omega) | (conv => whnf))) | (refine ifB_ne (fun h => ?_) (fun h => ?_) <;> (first | (exfalso; omega) | (conv => whnf))) | (refine ifB_not ?_; conv => whnf) | (refine ifB_and ?_; conv => whnf) | (refine ifB_or ?_; conv => whnf) | (refine And.intro ?_ ?_; (first | omega | assumption | (exact allU_getD (by assumption) _) | (simp only [cutL]; omega) | (refine And.intro ?_ ?_ <;> first | assumption | exact allU_getD (by assumption) _) | (simp only [cutL, IntKind.wrap_u64, IntKind.wrap_i64] at *; omega) | decide); conv => whnf))
  refine ⟨⟨[0, 2, 5, 6], [], []⟩, rfl, ?_⟩
  conv => whnf
  rfl
def eMix : Entry := ⟨76, 4, fun l => match l with | [.v (.int .u64 a)] => some (none, .v (.int .u64 (iMix a)), []) | _ => none⟩
theorem eMix_ok : eMix.ok Tryd.prog glM := ⟨enters_of Tryd.func76 (by kernel_rfl) (by kernel_rfl), by
  intro args c t bs h hc
  simp only [eMix] at h
  split at h <;> cases h
  exact mix_pure _⟩
def ctxMix (P : Program) : Ctx := ctx P glM [eMix] [] (noEq P) [] (fun _ h => by cases h)
theorem ctxMix_good : (ctxMix Tryd.prog).good := ctx_good (by kernel_rfl) (AllOk.mem ⟨eMix_ok, trivial⟩) glM_two
set_option maxRecDepth 100000 in
theorem before_pure (a b : Int) : Pure Tryd.prog glM 37 [.v (.int .u64 a), .v (.int .u64 b)] (.v (.bool (bBefore a b))) := by
  refine pure_of (C := ctxMix Tryd.prog) ctxMix_good Tryd.func37 (c := bodyOf Tryd.f37) (by rfl) (Nat.le_of_ble_eq_true (by rfl)) 4 0 [] ?_
  conv => whnf
  rfl
def eBefore : Entry := ⟨37, 4, fun l => match l with | [.v (.int .u64 a), .v (.int .u64 b)] => some (none, .v (.bool (bBefore a b)), []) | _ => none⟩
theorem eBefore_ok : eBefore.ok Tryd.prog glM := ⟨enters_of Tryd.func37 (by kernel_rfl) (by kernel_rfl), by
  intro args c t bs h hc
  simp only [eBefore] at h
  split at h <;> cases h
  exact before_pure _ _⟩
set_option maxRecDepth 100000 in
theorem rfolded_pure (a n : Int) (hn : 0 ≤ n) : Pure Tryd.prog glM 140 [.v (.int .u64 a), .v (.int .i64 n)] (.v (.int .u64 (mixF a n))) := by
  refine pure_of (C := ctx0M Tryd.prog) ctx0M_good Tryd.func140 (c := bodyOf Tryd.f140) (by rfl) (Nat.le_of_ble_eq_true (by rfl)) 4 0 [] ?_
  conv => whnf
  repeat' (first | (refine ifB_t (by assumption) ?_; conv => whnf) | (refine ifB_f (by assumption) ?_; conv => whnf) | (refine ifB_dec (fun h => ?_) (fun h => ?_) <;> (first | (exfalso; omega) | (conv => whnf))) | (refine ifB_eq (fun h => ?_) (fun h => ?_) <;> (first | (exfalso; omega) | (conv => whnf))) | (refine ifB_ne (fun h => ?_) (fun h => ?_) <;> (first | (exfalso; omega) | (conv => whnf))) | (refine ifB_not ?_; conv => whnf) | (refine ifB_and ?_; conv => whnf) | (refine ifB_or ?_; conv => whnf) | (refine And.intro ?_ ?_; (first | omega | assumption | (exact allU_getD (by assumption) _) | (simp only [cutL]; omega) | (refine And.intro ?_ ?_ <;> first | assumption | exact allU_getD (by assumption) _) | (simp only [cutL, IntKind.wrap_u64, IntKind.wrap_i64] at *; omega) | decide); conv => whnf))
  rfl
def eRFolded : Entry := ⟨140, 4, fun l => match l with | [.v (.int .u64 a), .v (.int .i64 n)] => some (some (0 ≤ n), .v (.int .u64 (mixF a n)), []) | _ => none⟩
theorem eRFolded_ok : eRFolded.ok Tryd.prog glM := ⟨enters_of Tryd.func140 (by kernel_rfl) (by kernel_rfl), by
  intro args c t bs h hc
  simp only [eRFolded] at h
  split at h <;> cases h
  replace hc := hc _ rfl
  exact rfolded_pure _ _ hc⟩
def ctxRMix0 (P : Program) : Ctx := ctx P glM [eRFolded] [] (noEq P) [] (fun _ h => by cases h)
theorem ctxRMix0_good : (ctxRMix0 Tryd.prog).good := ctx_good (by kernel_rfl) (AllOk.mem ⟨eRFolded_ok, trivial⟩) glM_two
def rMix (w : Int) : Int := mixF (mixR (mixR w 30 13787848793156543929) 27 10723151780598845931) 31
set_option maxRecDepth 100000 in
theorem rmix_pure (a : Int) : Pure Tryd.prog glM 136 [.v (.int .u64 a)] (.v (.int .u64 (rMix a))) := by
  refine pure_of (C := ctxRMix0 Tryd.prog) ctxRMix0_good Tryd.func136 (c := bodyOf Tryd.f136) (by rfl) (Nat.le_of_ble_eq_true (by rfl)) 4 0 [] ?_
  conv => whnf
  repeat' (first | (refine ifB_t (by assumption) ?_; conv => whnf) | (refine ifB_f (by assumption) ?_; conv => whnf) | (refine ifB_dec (fun h => ?_) (fun h => ?_) <;> (first | (exfalso; omega) | (conv => whnf))) | (refine ifB_eq (fun h => ?_) (fun h => ?_) <;> (first | (exfalso; omega) | (conv => whnf))) | (refine ifB_ne (fun h => ?_) (fun h => ?_) <;> (first | (exfalso; omega) | (conv => whnf))) | (refine ifB_not ?_; conv => whnf) | (refine ifB_and ?_; conv => whnf) | (refine ifB_or ?_; conv => whnf) | (refine And.intro ?_ ?_; (first | omega | assumption | (exact allU_getD (by assumption) _) | (simp only [cutL]; omega) | (refine And.intro ?_ ?_ <;> first | assumption | exact allU_getD (by assumption) _) | (simp only [cutL, IntKind.wrap_u64, IntKind.wrap_i64] at *; omega) | decide); conv => whnf))

  rfl
end Go.Proofs.YtlcpcgdecodjfaaDoor
