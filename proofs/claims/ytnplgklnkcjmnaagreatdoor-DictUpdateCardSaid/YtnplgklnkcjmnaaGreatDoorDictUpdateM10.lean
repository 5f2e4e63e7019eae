/- Texts put together: Bits, FltW, FltW2, FltRO, RefW1, RefW2, FltSum, FltP, RefW3, BaseW, StA, KdA, KdB, KdC, KdD, DcA, LwA, LwB, KdE, DcB, DcC, DcD, DcE, DcF, DcG, DcH, DcI. -/
import Derived.Test.YtnplgklnkcjmnaaGreatDoorDictUpdateM9
import Derived.Laws.BitsAllLaws
import Derived.Laws.Bits64
import Derived.WalkKit
import Derived.WalkLawsBesides
import Derived.Deep.Draws
import Derived.KernelRfl
namespace Go.Proofs.YtnplgklnkcjmnaaGreatDoor.Bits
set_option linter.unusedVariables false
set_option linter.unusedSimpArgs false

theorem xor_max (c : Nat) (h : c < 18446744073709551616) : 18446744073709551615 ^^^ c = 18446744073709551615 - c := by
  have e : (BitVec.allOnes 64 ^^^ BitVec.ofNat 64 c).toNat = (~~~ BitVec.ofNat 64 c).toNat := by rw [BitVec.allOnes_xor]
  rw [BitVec.toNat_xor, BitVec.toNat_not, BitVec.toNat_allOnes, BitVec.toNat_ofNat, Nat.mod_eq_of_lt (by omega)] at e
  exact e

/-! The same as the walk spells it. -/
theorem b_xor_max (a : Int) (h0 : 0 ≤ a) (h1 : a < 18446744073709551616) : bits .xor .u64 IntKind.u64.max a = 18446744073709551615 - a := by
  rw [show IntKind.u64.max = 18446744073709551615 from rfl, u64_xor _ a (by decide) (by decide) h0 h1, show (18446744073709551615 : Int).toNat = 18446744073709551615 from rfl, xor_max _ (by omega)]; omega

end Go.Proofs.YtnplgklnkcjmnaaGreatDoor.Bits
namespace Go.Proofs.YtnplgklnkcjmnaaGreatDoor
open Go.RowKit
set_option linter.unusedVariables false
set_option linter.unusedSimpArgs false

def iCanon (a : Int) : Int := (Flt.canon a.toNat : Nat)
def iKind (a : Int) : Int := (Flt.kind a.toNat : Nat)
def iRank (a : Int) : Int := (Flt.rank a.toNat : Nat)
def bLess (a b : Int) : Bool := decide (iRank a < iRank b)
theorem u64_nat {a : Int} (h : U64 a) : a.toNat < Flt.maxW := by
  have : Flt.maxW = 18446744073709551616 := rfl
  unfold U64 at h; omega
theorem canon_lt (w : Nat) (h : w < Flt.maxW) : Flt.canon w < Flt.maxW := by
  unfold Flt.canon
  split
  · decide
  · split
    · decide
    · exact h
theorem u64_canon {a : Int} (h : U64 a) : U64 (iCanon a) := by
  have h1 := canon_lt _ (u64_nat h)
  have : Flt.maxW = 18446744073709551616 := rfl
  unfold U64 iCanon; omega
end Go.Proofs.YtnplgklnkcjmnaaGreatDoor
namespace Go.Proofs.YtnplgklnkcjmnaaGreatDoor
open Go.RowKit
set_option linter.unusedVariables false
set_option linter.unusedSimpArgs false

/-! Ranks and back. -/
theorem canon_canon (w : Nat) : Flt.canon (Flt.canon w) = Flt.canon w := by
  by_cases h : Flt.infR < Flt.mag w
  · have : Flt.canon w = Flt.nanW := by unfold Flt.canon; rw [if_pos h]
    rw [this]; decide
  · by_cases h2 : Flt.mag w = 0
    · have : Flt.canon w = 0 := by unfold Flt.canon; rw [if_neg h, if_pos h2]
      rw [this]; decide
    · have : Flt.canon w = w := by unfold Flt.canon; rw [if_neg h, if_neg h2]
      rw [this, this]
theorem rank_canon (w : Nat) : Flt.rank (Flt.canon w) = Flt.rank w := by
  unfold Flt.rank; rw [canon_canon]
theorem back_rank (w : Nat) (h : w < Flt.maxW) : Flt.back (Flt.rank w) = Flt.canon w := by
  have := canon_lt w h
  have : Flt.maxW = 18446744073709551616 := rfl
  have : Flt.sgnW = 9223372036854775808 := rfl
  unfold Flt.rank
  split
  · unfold Flt.back; rw [if_neg (by omega)]; omega
  · unfold Flt.back; rw [if_pos (by omega)]; omega
/-! Sums. -/
end Go.Proofs.YtnplgklnkcjmnaaGreatDoor
namespace Go.Proofs.YtnplgklnkcjmnaaGreatDoor.Flt
set_option linter.unusedVariables false
set_option linter.unusedSimpArgs false

/-- n / 2^d, its last bit set if anything is lost. -/
def RO (n d : Nat) : Nat := if n % 2 ^ d = 0 then n / 2 ^ d else n / 2 ^ d / 2 * 2 + 1

/-! ### What the document's 'made' makes -/
def norm1 (e m : Nat) : Nat × Nat := if 72057594037927936 ≤ m then (e + 1, RO m 1) else (e, m)
def norm2 : Nat → Nat → Nat × Nat
  | 0, m => (0, m)
  | 1, m => (1, m)
  | e + 2, m => if m < 36028797018963968 then norm2 (e + 1) (m * 2) else (e + 2, m)
def fin (e m : Nat) : Nat := min ((e - 1) * B + cut m 3) infR
def made (s e m : Nat) : Nat := if m = 0 then 0 else s * sgnW + fin (norm2 (norm1 e m).1 (norm1 e m).2).1 (norm2 (norm1 e m).1 (norm1 e m).2).2

/-! ### The document's sum is the sum -/
end Go.Proofs.YtnplgklnkcjmnaaGreatDoor.Flt
namespace Go.Proofs.YtnplgklnkcjmnaaGreatDoor
open Go.RowKit
set_option linter.unusedVariables false
set_option linter.unusedSimpArgs false

theorem rparts_any (a : Int) (ha : U64 a) (w : World) : Calls Tryz.prog 133 #[.int .u64 a] w fun e w' => e = .returned (.tuple #[.int .i64 (a / 4503599627370496 % 2048), .int .u64 (a % 4503599627370496)]) ∧ w = w' := by
  obtain ⟨h0, h1⟩ := ha
  go_enter Tryz.func133, Tryz.ntmps133
  go_wp2
  go_ret2
  exact ⟨rfl, rfl⟩

theorem kind_of {a : Int} (ha : U64 a) : iKind a =
    if a / 4503599627370496 % 2048 = 2047 then (if a % 4503599627370496 = 0 then 2 else 3) else if a / 4503599627370496 % 2048 = 0 ∧ a % 4503599627370496 = 0 then 0 else 1 := by
  unfold U64 at ha
  have e1 : Flt.infR = 9218868437227405312 := rfl
  have e2 : Flt.sgnW = 9223372036854775808 := rfl
  unfold iKind Flt.kind Flt.mag
  rw [e1, e2]
  by_cases g1 : a / 4503599627370496 % 2048 = 2047
  · rw [if_pos g1]
    by_cases g2 : a % 4503599627370496 = 0
    · rw [if_pos g2, if_neg (by omega), if_pos (by omega)]; rfl
    · rw [if_neg g2, if_pos (by omega)]; rfl
  · rw [if_neg g1, if_neg (by omega), if_neg (by omega)]
    by_cases g3 : a / 4503599627370496 % 2048 = 0 ∧ a % 4503599627370496 = 0
    · rw [if_pos g3, if_pos (by omega)]; rfl
    · rw [if_neg g3, if_neg (by omega)]; rfl


theorem rkind_any (a : Int) (ha : U64 a) (w : World) : Calls Tryz.prog 107 #[.int .u64 a] w fun e w' => e = .returned (.int .i64 (iKind a)) ∧ w = w' := by
  have hk := kind_of ha
  have H := (show Hid _ from hk)
  clear hk
  go_enter Tryz.func107, Tryz.ntmps107
  go_wp2_with fail
  refine (rparts_any a ha _).mono ?_
  rintro e w' ⟨rfl, rfl⟩
  go_wp2_with fail
  · go_ret; exact ⟨ret_int (by rw [H.out, if_pos ‹_›, if_neg (bne_iff_ne.1 ‹_›)]), rfl⟩
  · go_ret; exact ⟨ret_int (by rw [H.out, if_pos ‹_›, if_pos (bne_false ‹_›)]), rfl⟩
  · go_ret; exact ⟨ret_int (by rw [H.out, if_neg ‹_›, if_pos ⟨‹_›, beq_iff_eq.1 ‹_›⟩]), rfl⟩
  · go_ret; exact ⟨ret_int (by rw [H.out, if_neg ‹_›, if_neg (fun g => beq_eq_false_iff_ne.1 ‹(a % 4503599627370496 == 0) = false› g.2)]), rfl⟩
  · go_ret; exact ⟨ret_int (by rw [H.out, if_neg ‹_›, if_neg (fun g => ‹¬a / 4503599627370496 % 2048 = 0› g.1)]), rfl⟩

end Go.Proofs.YtnplgklnkcjmnaaGreatDoor
namespace Go.Proofs.YtnplgklnkcjmnaaGreatDoor
open Go.RowKit
set_option linter.unusedVariables false
set_option linter.unusedSimpArgs false

theorem kind_canon {a : Int} : iCanon a = if iKind a = 3 then 9221120237041090561 else if iKind a = 0 then 0 else (a.toNat : Int) := by
  have e1 : Flt.nanW = 9221120237041090561 := rfl
  have hp : 0 < Flt.infR := by decide
  unfold iCanon iKind Flt.canon Flt.kind
  rw [e1]
  by_cases g1 : Flt.infR < Flt.mag a.toNat
  · simp [g1]
  · by_cases g2 : Flt.mag a.toNat = 0
    · have g3 : ¬ Flt.mag a.toNat = Flt.infR := by rw [g2]; omega
      rw [if_neg g1, if_pos g2, if_neg g1, if_neg g3, if_pos g2]; rfl
    · rw [if_neg g1, if_neg g2, if_neg g1, if_neg g2]
      by_cases g3 : Flt.mag a.toNat = Flt.infR <;> simp [g3]

theorem rcanon_any (a : Int) (ha : U64 a) (w : World) : Calls Tryz.prog 71 #[.int .u64 a] w fun e w' => e = .returned (.int .u64 (iCanon a)) ∧ w = w' := by
  have ht : (a.toNat : Int) = a := by unfold U64 at ha; omega
  have H := (show Hid _ from @kind_canon a)
  have HT : Hid ((a.toNat : Int) = a) := ht
  clear ht
  go_enter Tryz.func71, Tryz.ntmps71
  go_wp2_with fail
  refine (rkind_any a ha _).mono ?_
  rintro e w' ⟨rfl, rfl⟩
  go_wp2_with fail
  · go_ret; exact ⟨ret_int (by rw [H.out, if_pos (beq_iff_eq.1 ‹_›)]), rfl⟩
  · go_ret; exact ⟨ret_int (by rw [H.out, if_neg (beq_eq_false_iff_ne.1 ‹(iKind a == 3) = false›), if_pos (beq_iff_eq.1 ‹(iKind a == 0) = true›)]), rfl⟩
  · go_ret; exact ⟨ret_int (by rw [H.out, if_neg (beq_eq_false_iff_ne.1 ‹(iKind a == 3) = false›), if_neg (beq_eq_false_iff_ne.1 ‹(iKind a == 0) = false›), HT.out]), rfl⟩

theorem rank_eq {a : Int} (ha : U64 a) : iRank a = if iCanon a < 9223372036854775808 then iCanon a + 9223372036854775808 else 18446744073709551615 - iCanon a := by
  have hc := u64_canon ha
  have e2 : Flt.sgnW = 9223372036854775808 := rfl
  have e3 : Flt.maxW = 18446744073709551616 := rfl
  unfold U64 iCanon at hc
  unfold iRank Flt.rank iCanon
  rw [e2, e3]
  split <;> split <;> omega

theorem rrank_any (a : Int) (ha : U64 a) (w : World) : Calls Tryz.prog 76 #[.int .u64 a] w fun e w' => e = .returned (.int .u64 (iRank a)) ∧ w = w' := by
  have H := (show Hid _ from rank_eq ha)
  obtain ⟨c0, c1⟩ := u64_canon ha
  go_enter Tryz.func76, Tryz.ntmps76
  go_wp2_with fail
  refine (rcanon_any a ha _).mono ?_
  rintro e w' ⟨rfl, rfl⟩
  generalize iCanon a = c at *
  by_cases hl : c < 9223372036854775808
  · go_wp2_with fail
    go_ret; exact ⟨ret_int (by rw [H.out, if_pos hl]), rfl⟩
  · go_wp2_with fail
    go_ret; exact ⟨ret_int (by rw [H.out, if_neg (by omega), Bits.b_xor_max _ c0 c1]), rfl⟩

theorem rless_any (a b : Int) (ha : U64 a) (hb : U64 b) (w : World) : Calls Tryz.prog 134 #[.int .u64 a, .int .u64 b] w fun e w' => e = .returned (.bool (bLess a b)) ∧ w = w' := by
  go_enter Tryz.func134, Tryz.ntmps134
  go_wp2_with fail
  refine (rrank_any a ha _).mono ?_
  rintro e w' ⟨rfl, rfl⟩
  go_wp2_with fail
  refine (rrank_any b hb _).mono ?_
  rintro e w' ⟨rfl, rfl⟩
  go_wp2_with fail
  go_ret; exact ⟨rfl, rfl⟩

/-! ### The sum -/
end Go.Proofs.YtnplgklnkcjmnaaGreatDoor
namespace Go.Proofs.YtnplgklnkcjmnaaGreatDoor
set_option linter.unusedVariables false
set_option linter.unusedSimpArgs false
namespace Flt
end Flt
end Go.Proofs.YtnplgklnkcjmnaaGreatDoor
namespace Go.Proofs.YtnplgklnkcjmnaaGreatDoor
open Go.RowKit
set_option linter.unusedVariables false
set_option linter.unusedSimpArgs false
namespace Flt
theorem rank_inj (x y : Nat) (hx : x < maxW) (hy : y < maxW) : rank x = rank y ↔ canon x = canon y := by
  constructor
  · intro h; rw [← back_rank x hx, ← back_rank y hy, h]
  · intro h; rw [← rank_canon x, ← rank_canon y, h]

/-! ### A sum with the opposite -/
end Flt

/-! ### As the walks spell them -/
theorem p_canon2 (a : Int) : iCanon (iCanon a) = iCanon a := by
  unfold iCanon; rw [Int.toNat_natCast, canon_canon]
theorem p_rank_inj {a b : Int} (ha : U64 a) (hb : U64 b) : iRank a = iRank b ↔ iCanon a = iCanon b := by
  have := Flt.rank_inj a.toNat b.toNat (u64_nat ha) (u64_nat hb)
  unfold iRank iCanon; omega
end Go.Proofs.YtnplgklnkcjmnaaGreatDoor
namespace Go.Proofs.YtnplgklnkcjmnaaGreatDoor
open Go.RowKit
set_option linter.unusedVariables false
set_option linter.unusedSimpArgs false


end Go.Proofs.YtnplgklnkcjmnaaGreatDoor
namespace Go.Proofs.YtnplgklnkcjmnaaGreatDoor
open Go.RowKit Go.Proofs.YtnplgklnkcjmnaaGreatDoor.Am
set_option linter.unusedVariables false
set_option linter.unusedSimpArgs false

def ipick (c n : Int) : Int := (if c < 0 then -(c + 1) else c) % n
theorem ipick_bounds (c : Int) {n : Int} (hn : 0 < n) : 0 ≤ ipick c n ∧ ipick c n < n := ⟨Int.emod_nonneg _ (by omega), Int.emod_lt_of_pos _ hn⟩
theorem ipick_val (c n : Int) (hc : I64 c) : (if c < 0 then IntKind.i64.wrap (0 - IntKind.i64.wrap (c + 1)) else c).tmod n = ipick c n := by
  obtain ⟨c1, c2⟩ := hc
  have e : (if c < 0 then IntKind.i64.wrap (0 - IntKind.i64.wrap (c + 1)) else c) = if c < 0 then -(c + 1) else c := by
    split
    · rw [wrap64 (a := c + 1) (by omega) (by omega), wrap64 (by omega) (by omega)]; omega
    · rfl
  rw [e]; unfold ipick
  exact Int.tmod_eq_emod_of_nonneg (by split <;> omega)
set_option maxRecDepth 100000 in
theorem pick09_pure (c n : Int) (hc : I64 c) (hn : 0 < n) (hn2 : n ≤ 4096) : Pure Tryz.prog glR 56 [.v (.int .i64 c), .v (.int .i64 n)] (.v (.int .i64 (ipick c n))) := by
  have hv := ipick_val c n hc
  refine pure_of (C := ctx0 Tryz.prog) ctx0_good Tryz.func56 (c := bodyOf Tryz.f56) (by rfl) (Nat.le_of_ble_eq_true (by rfl)) 4 0 [0, 1, 2, 4, 6] ?_
  conv => whnf
  repeat' (first | (refine ifB_t (by assumption) ?_; conv => whnf) | (refine ifB_f (by assumption) ?_; conv => whnf) | (refine ifB_dec (fun h => ?_) (fun h => ?_) <;> (first | (exfalso; omega) | (conv => whnf))) | (refine ifB_eq (fun h => ?_) (fun h => ?_) <;> (first | (exfalso; omega) | (conv => whnf))) | (refine ifB_ne (fun h => ?_) (fun h => ?_) <;> (first | (exfalso; omega) | (conv => whnf))) | (refine ifB_not ?_; conv => whnf) | (refine ifB_and ?_; conv => whnf) | (refine ifB_or ?_; conv => whnf) | (refine And.intro ?_ ?_; (first | omega | assumption | (exact allU_getD (by assumption) _) | (simp only [cutL]; omega) | (refine And.intro ?_ ?_ <;> first | assumption | exact allU_getD (by assumption) _) | (simp only [cutL, IntKind.wrap_u64, IntKind.wrap_i64] at *; omega) | decide); conv => whnf))
  · rw [if_pos h] at hv; exact congrArg (fun b => T.v (Value.int .i64 b)) hv
  · rw [if_neg h] at hv; exact congrArg (fun b => T.v (Value.int .i64 b)) hv
def ePick09 : Entry := ⟨56, 3, fun l => match l with | [.v (.int .i64 c), .v (.int .i64 n)] => some (some (I64 c ∧ 0 < n ∧ n ≤ 4096), .v (.int .i64 (ipick c n)), []) | _ => none⟩
theorem ePick09_ok : ePick09.ok Tryz.prog glR := ⟨Am.enters_of Tryz.func56 (by kernel_rfl) (by kernel_rfl), by
  intro args c t bs h hc
  simp only [ePick09] at h
  split at h <;> cases h
  replace hc := hc _ rfl
  exact pick09_pure _ _ hc.1 hc.2.1 hc.2.2⟩
/-! ### floats -/
theorem rcanon_pure (a : Int) (ha : U64 a) : Pure Tryz.prog glR 71 [.v (.int .u64 a)] (.v (.int .u64 (iCanon a))) := pure_v1 rfl rfl fun w _ => (rcanon_any a ha w).mono (by rintro e w' ⟨rfl, rfl⟩; exact ⟨rfl, Below.refl _ _⟩)
def eRCanon : Entry := ⟨71, 3, fun l => match l with | [.v (.int .u64 a)] => some (some (U64 a), .v (.int .u64 (iCanon a)), []) | _ => none⟩
theorem eRCanon_ok : eRCanon.ok Tryz.prog glR := ⟨Am.enters_of Tryz.func71 (by kernel_rfl) (by kernel_rfl), by
  intro args c t bs h hc
  simp only [eRCanon] at h
  split at h <;> cases h
  replace hc := hc _ rfl
  exact rcanon_pure _ hc⟩
theorem rless_pure (a b : Int) (ha : U64 a) (hb : U64 b) : Pure Tryz.prog glR 134 [.v (.int .u64 a), .v (.int .u64 b)] (.v (.bool (bLess a b))) := pure_v1 rfl rfl fun w _ => (rless_any a b ha hb w).mono (by rintro e w' ⟨rfl, rfl⟩; exact ⟨rfl, Below.refl _ _⟩)
def eRLess : Entry := ⟨134, 3, fun l => match l with | [.v (.int .u64 a), .v (.int .u64 b)] => some (some (U64 a ∧ U64 b), .v (.bool (bLess a b)), []) | _ => none⟩
theorem eRLess_ok : eRLess.ok Tryz.prog glR := ⟨Am.enters_of Tryz.func134 (by kernel_rfl) (by kernel_rfl), by
  intro args c t bs h hc
  simp only [eRLess] at h
  split at h <;> cases h
  replace hc := hc _ rfl
  exact rless_pure _ _ hc.1 hc.2⟩
/-! ### slices -/
set_option maxRecDepth 100000 in
theorem clone_pure (n : Nat) (xs : List Int) (hn : n ≤ 1000000) : Pure Tryz.prog glR 84 [.fl [.u64] n xs] (.ow 0 1 n) [(0, .fl [.u64] xs)] := by
  refine pure_wf fun hw => ?_
  obtain ⟨⟨w1, w2⟩, -⟩ := hw
  refine pure_of (C := ctx0 Tryz.prog) ctx0_good Tryz.func84 (c := bodyOf Tryz.f84) (by rfl) (Nat.le_of_ble_eq_true (by rfl)) 4 0 [0, 2, 4] ?_
  conv => whnf
  intro b hb
  cases b
  · conv => whnf
    repeat' (first | (refine ifB_t (by assumption) ?_; conv => whnf) | (refine ifB_f (by assumption) ?_; conv => whnf) | (refine ifB_dec (fun h => ?_) (fun h => ?_) <;> (first | (exfalso; omega) | (conv => whnf))) | (refine ifB_eq (fun h => ?_) (fun h => ?_) <;> (first | (exfalso; omega) | (conv => whnf))) | (refine ifB_ne (fun h => ?_) (fun h => ?_) <;> (first | (exfalso; omega) | (conv => whnf))) | (refine ifB_not ?_; conv => whnf) | (refine ifB_and ?_; conv => whnf) | (refine ifB_or ?_; conv => whnf) | (refine And.intro ?_ ?_; (first | omega | assumption | (exact allU_getD (by assumption) _) | (simp only [cutL]; omega) | (refine And.intro ?_ ?_ <;> first | assumption | exact allU_getD (by assumption) _) | (simp only [cutL, IntKind.wrap_u64, IntKind.wrap_i64] at *; omega) | decide); conv => whnf))
    repeat' (first | exact trivial | exact rfl | (refine And.intro ?_ ?_) | ((conv => whnf); done) | ((conv => whnf); (first | rfl | (refine congrArg (fun b => T.v (Value.bool b)) ?_; first | rfl | exact (decide_eq_true (by omega)).symm | exact (decide_eq_false (by omega)).symm | exact decide_eq_decide.2 (by omega)) | (refine congrArg (fun b => T.v (Value.int _ b)) ?_; first | rfl | omega) | omega)) | (first | rfl | (refine congrArg (fun b => T.v (Value.bool b)) ?_; first | rfl | exact (decide_eq_true (by omega)).symm | exact (decide_eq_false (by omega)).symm | exact decide_eq_decide.2 (by omega)) | (refine congrArg (fun b => T.v (Value.int _ b)) ?_; first | rfl | omega) | omega))
  · have := hb rfl
    subst this
    obtain rfl : xs = [] := List.eq_nil_of_length_eq_zero (by simpa using w1)
    conv => whnf
    repeat' (first | exact trivial | exact rfl | (refine And.intro ?_ ?_) | ((conv => whnf); done) | ((conv => whnf); (first | rfl | (refine congrArg (fun b => T.v (Value.bool b)) ?_; first | rfl | exact (decide_eq_true (by omega)).symm | exact (decide_eq_false (by omega)).symm | exact decide_eq_decide.2 (by omega)) | (refine congrArg (fun b => T.v (Value.int _ b)) ?_; first | rfl | omega) | omega)) | (first | rfl | (refine congrArg (fun b => T.v (Value.bool b)) ?_; first | rfl | exact (decide_eq_true (by omega)).symm | exact (decide_eq_false (by omega)).symm | exact decide_eq_decide.2 (by omega)) | (refine congrArg (fun b => T.v (Value.int _ b)) ?_; first | rfl | omega) | omega))
set_option maxRecDepth 100000 in
theorem equal_pure (n m : Nat) (xs ys : List Int) : Pure Tryz.prog glR 146 [.fl [.u64] n xs, .fl [.u64] m ys] (.v (.bool (decide (xs = ys)))) := by
  refine pure_wf fun hw => ?_
  obtain ⟨⟨w1, w2⟩, ⟨w3, w4⟩, -⟩ := hw
  simp only [List.length_cons, List.length_nil, Nat.zero_add, Nat.mul_one] at w1 w3
  refine pure_of (C := ctx0 Tryz.prog) ctx0_good Tryz.func146 (c := bodyOf Tryz.f146) (by rfl) (Nat.le_of_ble_eq_true (by rfl)) 4 0 [0, 1, 4, 5, 10, 12, 13, 14, 24] ?_
  conv => whnf
  repeat' (first | (refine ifB_t (by assumption) ?_; conv => whnf) | (refine ifB_f (by assumption) ?_; conv => whnf) | (refine ifB_dec (fun h => ?_) (fun h => ?_) <;> (first | (exfalso; omega) | (conv => whnf))) | (refine ifB_eq (fun h => ?_) (fun h => ?_) <;> (first | (exfalso; omega) | (conv => whnf))) | (refine ifB_ne (fun h => ?_) (fun h => ?_) <;> (first | (exfalso; omega) | (conv => whnf))) | (refine ifB_not ?_; conv => whnf) | (refine ifB_and ?_; conv => whnf) | (refine ifB_or ?_; conv => whnf) | (refine And.intro ?_ ?_; (first | omega | assumption | (exact allU_getD (by assumption) _) | (simp only [cutL]; omega) | (refine And.intro ?_ ?_ <;> first | assumption | exact allU_getD (by assumption) _) | (simp only [cutL, IntKind.wrap_u64, IntKind.wrap_i64] at *; omega) | decide); conv => whnf))
  · exact congrArg (fun b => T.v (Value.bool b)) (decide_eq_false (fun e => by subst e; omega)).symm
  · refine TW.loopD ctx0_good 0 (base := 0) (lv := [0, 1, 4, 5, 10, 12, 13, 14, 24]) [13] [] [] (fun j : Nat => [.v (.int .i64 j)]) (fun _ => []) (fun j => j ≤ n ∧ xs.take j = ys.take j) (fun j => n - j) ?_
    conv => whnf
    refine ⟨⟨0, ⟨rfl, rfl, rfl⟩, by omega, rfl⟩, fun j ⟨hj, ht⟩ => ?_⟩
    conv => whnf
    repeat' (first | (refine ifB_t (by assumption) ?_; conv => whnf) | (refine ifB_f (by assumption) ?_; conv => whnf) | (refine ifB_dec (fun h => ?_) (fun h => ?_) <;> (first | (exfalso; omega) | (conv => whnf))) | (refine ifB_eq (fun h => ?_) (fun h => ?_) <;> (first | (exfalso; omega) | (conv => whnf))) | (refine ifB_ne (fun h => ?_) (fun h => ?_) <;> (first | (exfalso; omega) | (conv => whnf))) | (refine ifB_not ?_; conv => whnf) | (refine ifB_and ?_; conv => whnf) | (refine ifB_or ?_; conv => whnf) | (refine And.intro ?_ ?_; (first | omega | assumption | (exact allU_getD (by assumption) _) | (simp only [cutL]; omega) | (refine And.intro ?_ ?_ <;> first | assumption | exact allU_getD (by assumption) _) | (simp only [cutL, IntKind.wrap_u64, IntKind.wrap_i64] at *; omega) | decide); conv => whnf))
    · simp only [Nat.zero_add, Nat.mul_one, Int.toNat_natCast] at h
      exact congrArg (fun b => T.v (Value.bool b)) (decide_eq_false (fun e => by subst e; exact h rfl)).symm
    · simp only [Nat.zero_add, Nat.mul_one, Int.toNat_natCast] at h
      rw [wsucc (n := n) (by omega) w2]
      exact ⟨j + 1, [], ⟨rfl, rfl, rfl⟩, ⟨by omega, take_same (by omega) (by omega) ht h⟩, by (try dsimp only); omega⟩
    · have e : j = n := by omega
      rw [e, List.take_of_length_le (by omega), List.take_of_length_le (by omega)] at ht
      exact congrArg (fun b => T.v (Value.bool b)) (decide_eq_true ht).symm
def eClone : Entry := ⟨84, 3, fun l => match l with | [.fl [.u64] n xs] => some (some (n ≤ 1000000), .ow 0 1 n, [(0, .fl [.u64] xs)]) | _ => none⟩
theorem eClone_ok : eClone.ok Tryz.prog glR := ⟨Am.enters_of Tryz.func84 (by kernel_rfl) (by kernel_rfl), by
  intro args c t bs h hc
  simp only [eClone] at h
  split at h <;> cases h
  replace hc := hc _ rfl
  exact clone_pure _ _ hc⟩
def eEqual : Entry := ⟨146, 3, fun l => match l with | [.fl [.u64] n xs, .fl [.u64] m ys] => some (none, .v (.bool (decide (xs = ys))), []) | _ => none⟩
theorem eEqual_ok : eEqual.ok Tryz.prog glR := ⟨Am.enters_of Tryz.func146 (by kernel_rfl) (by kernel_rfl), by
  intro args c t bs h hc
  simp only [eEqual] at h
  split at h <;> cases h
  exact equal_pure _ _ _ _⟩
set_option maxRecDepth 100000 in
theorem words_pure (n m : Nat) (xs ys : List Int) : Pure Tryz.prog glR 21 [.fl [.u64] n xs, .fl [.u64] m ys] (.v (.bool (decide (xs = ys)))) := by
  refine pure_wf fun hw => ?_
  obtain ⟨⟨w1, w2⟩, ⟨w3, w4⟩, -⟩ := hw
  simp only [List.length_cons, List.length_nil, Nat.zero_add, Nat.mul_one] at w1 w3
  refine pure_of (C := ctx0 Tryz.prog) ctx0_good Tryz.func21 (c := bodyOf Tryz.f21) (by rfl) (Nat.le_of_ble_eq_true (by rfl)) 4 0 [0, 1, 4, 5, 10, 14, 25] ?_
  conv => whnf
  repeat' (first | (refine ifB_t (by assumption) ?_; conv => whnf) | (refine ifB_f (by assumption) ?_; conv => whnf) | (refine ifB_dec (fun h => ?_) (fun h => ?_) <;> (first | (exfalso; omega) | (conv => whnf))) | (refine ifB_eq (fun h => ?_) (fun h => ?_) <;> (first | (exfalso; omega) | (conv => whnf))) | (refine ifB_ne (fun h => ?_) (fun h => ?_) <;> (first | (exfalso; omega) | (conv => whnf))) | (refine ifB_not ?_; conv => whnf) | (refine ifB_and ?_; conv => whnf) | (refine ifB_or ?_; conv => whnf) | (refine And.intro ?_ ?_; (first | omega | assumption | (exact allU_getD (by assumption) _) | (simp only [cutL]; omega) | (refine And.intro ?_ ?_ <;> first | assumption | exact allU_getD (by assumption) _) | (simp only [cutL, IntKind.wrap_u64, IntKind.wrap_i64] at *; omega) | decide); conv => whnf))
  · exact congrArg (fun b => T.v (Value.bool b)) (decide_eq_false (fun e => by subst e; omega)).symm
  · refine TW.loopD ctx0_good 0 (base := 0) (lv := [0, 1, 4, 5, 10, 14, 25]) [5] [] [] (fun j : Nat => [.v (.int .i64 j)]) (fun _ => []) (fun j => j ≤ n ∧ xs.take j = ys.take j) (fun j => n - j) ?_
    conv => whnf
    refine ⟨⟨0, ⟨rfl, rfl, rfl⟩, by omega, rfl⟩, fun j ⟨hj, ht⟩ => ?_⟩
    conv => whnf
    repeat' (first | (refine ifB_t (by assumption) ?_; conv => whnf) | (refine ifB_f (by assumption) ?_; conv => whnf) | (refine ifB_dec (fun h => ?_) (fun h => ?_) <;> (first | (exfalso; omega) | (conv => whnf))) | (refine ifB_eq (fun h => ?_) (fun h => ?_) <;> (first | (exfalso; omega) | (conv => whnf))) | (refine ifB_ne (fun h => ?_) (fun h => ?_) <;> (first | (exfalso; omega) | (conv => whnf))) | (refine ifB_not ?_; conv => whnf) | (refine ifB_and ?_; conv => whnf) | (refine ifB_or ?_; conv => whnf) | (refine And.intro ?_ ?_; (first | omega | assumption | (exact allU_getD (by assumption) _) | (simp only [cutL]; omega) | (refine And.intro ?_ ?_ <;> first | assumption | exact allU_getD (by assumption) _) | (simp only [cutL, IntKind.wrap_u64, IntKind.wrap_i64] at *; omega) | decide); conv => whnf))
    · simp only [Nat.zero_add, Nat.mul_one, Int.toNat_natCast] at h
      exact congrArg (fun b => T.v (Value.bool b)) (decide_eq_false (fun e => by subst e; exact h rfl)).symm
    · simp only [Nat.zero_add, Nat.mul_one, Int.toNat_natCast] at h
      rw [wsucc (n := n) (by omega) w2]
      exact ⟨j + 1, [], ⟨rfl, rfl, rfl⟩, ⟨by omega, take_same (by omega) (by omega) ht h⟩, by (try dsimp only); omega⟩
    · have e : j = n := by omega
      rw [e, List.take_of_length_le (by omega), List.take_of_length_le (by omega)] at ht
      exact congrArg (fun b => T.v (Value.bool b)) (decide_eq_true ht).symm
def eWords : Entry := ⟨21, 3, fun l => match l with | [.fl [.u64] n xs, .fl [.u64] m ys] => some (none, .v (.bool (decide (xs = ys))), []) | _ => none⟩
theorem eWords_ok : eWords.ok Tryz.prog glR := ⟨Am.enters_of Tryz.func21 (by kernel_rfl) (by kernel_rfl), by
  intro args c t bs h hc
  simp only [eWords] at h
  split at h <;> cases h
  exact words_pure _ _ _ _⟩
/-! ### what fits -/
def fitsB (k p n : Int) : Bool := decide (1 ≤ k ∧ k ≤ 5 ∧ 1 ≤ p ∧ p ≤ 16 ∧ 1 ≤ n ∧ n ≤ 256)
def homeI (k n : Int) : Int := if k = 1 then 1 else if k = 2 then 1 + 2 * n else if k = 3 then 1 + 4 * n else if k = 4 then 2 + 4 * n else 9 + n
set_option maxRecDepth 100000 in
theorem fits_pure (k p n : Int) : Pure Tryz.prog glR 82 [.agg [.v (.int .i64 k), .v (.int .i64 p), .v (.int .i64 n)]] (.v (.bool (fitsB k p n))) := by
  refine pure_of (C := ctx0 Tryz.prog) ctx0_good Tryz.func82 (c := bodyOf Tryz.f82) (by rfl) (Nat.le_of_ble_eq_true (by rfl)) 4 0 [0, 1, 2] ?_
  conv => whnf
  repeat' (first | (refine ifB_t (by assumption) ?_; conv => whnf) | (refine ifB_f (by assumption) ?_; conv => whnf) | (refine ifB_dec (fun h => ?_) (fun h => ?_) <;> (first | (exfalso; omega) | (conv => whnf))) | (refine ifB_eq (fun h => ?_) (fun h => ?_) <;> (first | (exfalso; omega) | (conv => whnf))) | (refine ifB_ne (fun h => ?_) (fun h => ?_) <;> (first | (exfalso; omega) | (conv => whnf))) | (refine ifB_not ?_; conv => whnf) | (refine ifB_and ?_; conv => whnf) | (refine ifB_or ?_; conv => whnf) | (refine And.intro ?_ ?_; (first | omega | assumption | (exact allU_getD (by assumption) _) | (simp only [cutL]; omega) | (refine And.intro ?_ ?_ <;> first | assumption | exact allU_getD (by assumption) _) | (simp only [cutL, IntKind.wrap_u64, IntKind.wrap_i64] at *; omega) | decide); conv => whnf))
  all_goals (first | rfl | (refine congrArg (fun b => T.v (Value.bool b)) ?_; first | rfl | exact (decide_eq_true (by omega)).symm | exact (decide_eq_false (by omega)).symm | exact decide_eq_decide.2 (by omega)) | (refine congrArg (fun b => T.v (Value.int _ b)) ?_; first | rfl | omega) | omega)
def eFits : Entry := ⟨82, 3, fun l => match l with | [.agg [.v (.int .i64 k), .v (.int .i64 p), .v (.int .i64 n)]] => some (none, .v (.bool (fitsB k p n)), []) | _ => none⟩
theorem eFits_ok : eFits.ok Tryz.prog glR := ⟨Am.enters_of Tryz.func82 (by kernel_rfl) (by kernel_rfl), by
  intro args c t bs h hc
  simp only [eFits] at h
  split at h <;> cases h
  exact fits_pure _ _ _⟩
set_option maxRecDepth 100000 in
theorem rin_pure (n a b : Int) : Pure Tryz.prog glR 69 [.v (.int .i64 n), .v (.int .i64 a), .v (.int .i64 b)] (.v (.bool (decide (a ≤ n ∧ n ≤ b)))) := by
  refine pure_of (C := ctx0 Tryz.prog) ctx0_good Tryz.func69 (c := bodyOf Tryz.f69) (by rfl) (Nat.le_of_ble_eq_true (by rfl)) 4 0 [0, 1, 2, 6] ?_
  conv => whnf
  repeat' (first | (refine ifB_t (by assumption) ?_; conv => whnf) | (refine ifB_f (by assumption) ?_; conv => whnf) | (refine ifB_dec (fun h => ?_) (fun h => ?_) <;> (first | (exfalso; omega) | (conv => whnf))) | (refine ifB_eq (fun h => ?_) (fun h => ?_) <;> (first | (exfalso; omega) | (conv => whnf))) | (refine ifB_ne (fun h => ?_) (fun h => ?_) <;> (first | (exfalso; omega) | (conv => whnf))) | (refine ifB_not ?_; conv => whnf) | (refine ifB_and ?_; conv => whnf) | (refine ifB_or ?_; conv => whnf) | (refine And.intro ?_ ?_; (first | omega | assumption | (exact allU_getD (by assumption) _) | (simp only [cutL]; omega) | (refine And.intro ?_ ?_ <;> first | assumption | exact allU_getD (by assumption) _) | (simp only [cutL, IntKind.wrap_u64, IntKind.wrap_i64] at *; omega) | decide); conv => whnf))
  all_goals (first | rfl | (refine congrArg (fun b => T.v (Value.bool b)) ?_; first | rfl | exact (decide_eq_true (by omega)).symm | exact (decide_eq_false (by omega)).symm | exact decide_eq_decide.2 (by omega)) | (refine congrArg (fun b => T.v (Value.int _ b)) ?_; first | rfl | omega) | omega)
def eRIn : Entry := ⟨69, 3, fun l => match l with | [.v (.int .i64 n), .v (.int .i64 a), .v (.int .i64 b)] => some (none, .v (.bool (decide (a ≤ n ∧ n ≤ b))), []) | _ => none⟩
theorem eRIn_ok : eRIn.ok Tryz.prog glR := ⟨Am.enters_of Tryz.func69 (by kernel_rfl) (by kernel_rfl), by
  intro args c t bs h hc
  simp only [eRIn] at h
  split at h <;> cases h
  exact rin_pure _ _ _⟩
def ctxFits (P : Program) : Ctx := ctx P glR [eFits, eRIn] [] (noEq P) [] (fun _ h => by cases h)
theorem ctxFits_good : (ctxFits Tryz.prog).good := ctx_good (by kernel_rfl) (AllOk.mem ⟨eFits_ok, eRIn_ok, trivial⟩) glR_two
set_option maxRecDepth 100000 in
theorem rfits_pure (k p n : Int) : Pure Tryz.prog glR 39 [.agg [.v (.int .i64 k), .v (.int .i64 p), .v (.int .i64 n)]] (.v (.bool (fitsB k p n))) := by
  refine pure_of (C := ctxFits Tryz.prog) ctxFits_good Tryz.func39 (c := bodyOf Tryz.f39) (by rfl) (Nat.le_of_ble_eq_true (by rfl)) 4 0 [0, 1, 2] ?_
  conv => whnf
  repeat' (first | (refine ifB_t (by assumption) ?_; conv => whnf) | (refine ifB_f (by assumption) ?_; conv => whnf) | (refine ifB_dec (fun h => ?_) (fun h => ?_) <;> (first | (exfalso; omega) | (conv => whnf))) | (refine ifB_eq (fun h => ?_) (fun h => ?_) <;> (first | (exfalso; omega) | (conv => whnf))) | (refine ifB_ne (fun h => ?_) (fun h => ?_) <;> (first | (exfalso; omega) | (conv => whnf))) | (refine ifB_not ?_; conv => whnf) | (refine ifB_and ?_; conv => whnf) | (refine ifB_or ?_; conv => whnf) | (refine And.intro ?_ ?_; (first | omega | assumption | (exact allU_getD (by assumption) _) | (simp only [cutL]; omega) | (refine And.intro ?_ ?_ <;> first | assumption | exact allU_getD (by assumption) _) | (simp only [cutL, IntKind.wrap_u64, IntKind.wrap_i64] at *; omega) | decide); conv => whnf))
  all_goals (first | rfl | (refine congrArg (fun b => T.v (Value.bool b)) ?_; first | rfl | exact (decide_eq_true (by omega)).symm | exact (decide_eq_false (by omega)).symm | exact decide_eq_decide.2 (by omega)) | (refine congrArg (fun b => T.v (Value.int _ b)) ?_; first | rfl | omega) | omega)
def eRFits : Entry := ⟨39, 3, fun l => match l with | [.agg [.v (.int .i64 k), .v (.int .i64 p), .v (.int .i64 n)]] => some (none, .v (.bool (fitsB k p n)), []) | _ => none⟩
theorem eRFits_ok : eRFits.ok Tryz.prog glR := ⟨Am.enters_of Tryz.func39 (by kernel_rfl) (by kernel_rfl), by
  intro args c t bs h hc
  simp only [eRFits] at h
  split at h <;> cases h
  exact rfits_pure _ _ _⟩
def ctxHomeP (P : Program) : Ctx := ctx P glR [eFits] [] (noEq P) [] (fun _ h => by cases h)
theorem ctxHomeP_good : (ctxHomeP Tryz.prog).good := ctx_good (by kernel_rfl) (AllOk.mem ⟨eFits_ok, trivial⟩) glR_two
set_option maxRecDepth 100000 in
theorem home_pure (k p n : Int) (hf : fitsB k p n = true) : Pure Tryz.prog glR 59 [.agg [.v (.int .i64 k), .v (.int .i64 p), .v (.int .i64 n)]] (.v (.int .i64 (homeI k n))) := by
  have hf' := of_decide_eq_true hf
  refine pure_of (C := ctxHomeP Tryz.prog) ctxHomeP_good Tryz.func59 (c := bodyOf Tryz.f59) (by rfl) (Nat.le_of_ble_eq_true (by rfl)) 4 0 [0, 1, 2, 3, 6] ?_
  conv => whnf
  refine ifB_not (ifB_mk (fun _ => ?_) (fun h => by rw [hf] at h; cases h))
  conv => whnf
  obtain ⟨h1, h2, h3, h4, h5, h6⟩ := hf'
  have : k = 1 ∨ k = 2 ∨ k = 3 ∨ k = 4 ∨ k = 5 := by omega
  rcases this with rfl | rfl | rfl | rfl | rfl <;> repeat' (first | (refine ifB_t (by assumption) ?_; conv => whnf) | (refine ifB_f (by assumption) ?_; conv => whnf) | (refine ifB_dec (fun h => ?_) (fun h => ?_) <;> (first | (exfalso; omega) | (conv => whnf))) | (refine ifB_eq (fun h => ?_) (fun h => ?_) <;> (first | (exfalso; omega) | (conv => whnf))) | (refine ifB_ne (fun h => ?_) (fun h => ?_) <;> (first | (exfalso; omega) | (conv => whnf))) | (refine ifB_not ?_; conv => whnf) | (refine ifB_and ?_; conv => whnf) | (refine ifB_or ?_; conv => whnf) | (refine And.intro ?_ ?_; (first | omega | assumption | (exact allU_getD (by assumption) _) | (simp only [cutL]; omega) | (refine And.intro ?_ ?_ <;> first | assumption | exact allU_getD (by assumption) _) | (simp only [cutL, IntKind.wrap_u64, IntKind.wrap_i64] at *; omega) | decide); conv => whnf))
  all_goals (refine congrArg (fun b => T.v (Value.int _ b)) ?_; simp [objX, homeI, idxN, IntKind.wrap_i64] <;> omega)
def eHome : Entry := ⟨59, 3, fun l => match l with | [.agg [.v (.int .i64 k), .v (.int .i64 p), .v (.int .i64 n)]] => some (some (fitsB k p n = true), .v (.int .i64 (homeI k n)), []) | _ => none⟩
theorem eHome_ok : eHome.ok Tryz.prog glR := ⟨Am.enters_of Tryz.func59 (by kernel_rfl) (by kernel_rfl), by
  intro args c t bs h hc
  simp only [eHome] at h
  split at h <;> cases h
  replace hc := hc _ rfl
  exact home_pure _ _ _ hc⟩
end Go.Proofs.YtnplgklnkcjmnaaGreatDoor
namespace Go.Proofs.YtnplgklnkcjmnaaGreatDoor
open Go.RowKit Go.Proofs.YtnplgklnkcjmnaaGreatDoor.Am
set_option linter.unusedVariables false
set_option linter.unusedSimpArgs false

/-- nil, where a list of numbers is looked for. -/
def fx (k : IntKind) (t : T) : T := match t with
  | .v (.slice none 0 0) => .fl [k] 0 []
  | t => t
/-- A state whose lists may be nil. -/
def fixS (t : T) : T := match t with
  | .agg [a, b, c, d, e] => .agg [a, fx .u64 b, fx .u64 c, fx .i64 d, e]
  | t => t
theorem fx_ok {w : World} {I : Nat → Prop} {m : Nat → Option Nat} {L : Nat → Option (Option Nat)} {k : IntKind} {t : T} {v : Value} (h : TV w I m L t v) : TV w I m L (fx k t) v := by
  unfold fx
  split
  · obtain ⟨rfl, -⟩ := h.v_inv; exact .fl0
  · exact h
theorem fixS_ok {w : World} {I : Nat → Prop} {m : Nat → Option Nat} {L : Nat → Option (Option Nat)} {t : T} {v : Value} (h : TV w I m L t v) : TV w I m L (fixS t) v := by
  unfold fixS
  split
  · obtain ⟨⟨vs⟩, rfl, hv⟩ := h.agg_inv
    change TVs _ _ _ _ _ vs at hv
    cases hv with | cons h1 hv => cases hv with | cons h2 hv => cases hv with | cons h3 hv => cases hv with | cons h4 hv =>
      exact .agg (.cons h1 (.cons (fx_ok h2) (.cons (fx_ok h3) (.cons (fx_ok h4) hv))))
  · exact h
theorem fixSs_ok {w : World} {I : Nat → Prop} {m : Nat → Option Nat} {L : Nat → Option (Option Nat)} {ts : List T} {vs : List Value} (h : TVs w I m L ts vs) : TVs w I m L (ts.map fixS) vs := by
  induction ts generalizing vs with
  | nil => exact h
  | cons t ts ih => cases h with | cons a b => exact .cons (fixS_ok a) (ih b)
theorem pure_fixS {P : Program} {gl : Nat → T} {f : FuncId} {args : List T} {t : T} {bs : Hp} (h : Pure P gl f (args.map fixS) t bs) : Pure P gl f args t bs := fun w vs hg ha => h w vs hg (fixSs_ok ha)
/-- A state that came in; one of its own. -/
abbrev ST (r : Int) (n1 : Nat) (ks : List Int) (n2 : Nat) (vs : List Int) (n3 : Nat) (ws : List Int) (c : Bool) : T := .agg [.v (.int .u64 r), .fl [.u64] n1 ks, .fl [.u64] n2 vs, .fl [.i64] n3 ws, .v (.bool c)]
abbrev SO (r : Int) (n1 n2 n3 : Nat) (c : Bool) : T := .agg [.v (.int .u64 r), .ow 0 1 n1, .ow 1 1 n2, .ow 2 1 n3, .v (.bool c)]
abbrev SH (ks vs ws : List Int) : Hp := [(0, .fl [.u64] ks), (1, .fl [.u64] vs), (2, .fl [.i64] ws)]
set_option maxRecDepth 100000 in
theorem own_pure (r : Int) (n1 : Nat) (ks : List Int) (n2 : Nat) (vs : List Int) (n3 : Nat) (ws : List Int) (c : Bool) (h1 : n1 ≤ 1000) (h2 : n2 ≤ 1000) (h3 : n3 ≤ 1000) : Pure Tryz.prog glR 78 [ST r n1 ks n2 vs n3 ws c] (SO r n1 n2 n3 c) (SH ks vs ws) := by
  refine pure_of (C := ctx0 Tryz.prog) ctx0_good Tryz.func78 (c := bodyOf Tryz.f78) (by rfl) (Nat.le_of_ble_eq_true (by rfl)) 4 0 [0, 1, 2, 3] ?_
  conv => whnf
  refine And.intro (show n1 * 8 ≤ 140737488355328 by omega) ?_
  conv => whnf
  repeat' (first | (refine ifB_t (by assumption) ?_; conv => whnf) | (refine ifB_f (by assumption) ?_; conv => whnf) | (refine ifB_dec (fun h => ?_) (fun h => ?_) <;> (first | (exfalso; omega) | (conv => whnf))) | (refine ifB_eq (fun h => ?_) (fun h => ?_) <;> (first | (exfalso; omega) | (conv => whnf))) | (refine ifB_ne (fun h => ?_) (fun h => ?_) <;> (first | (exfalso; omega) | (conv => whnf))) | (refine ifB_not ?_; conv => whnf) | (refine ifB_and ?_; conv => whnf) | (refine ifB_or ?_; conv => whnf) | (refine And.intro ?_ ?_; (first | omega | assumption | (exact allU_getD (by assumption) _) | (simp only [cutL]; omega) | (refine And.intro ?_ ?_ <;> first | assumption | exact allU_getD (by assumption) _) | (simp only [cutL, IntKind.wrap_u64, IntKind.wrap_i64] at *; omega) | decide); conv => whnf) | (refine ifB_mk (fun h => ?_) (fun h => ?_) <;> (conv => whnf)))
  refine And.intro (show n2 * 8 ≤ 140737488355328 by omega) ?_
  conv => whnf
  repeat' (first | (refine ifB_t (by assumption) ?_; conv => whnf) | (refine ifB_f (by assumption) ?_; conv => whnf) | (refine ifB_dec (fun h => ?_) (fun h => ?_) <;> (first | (exfalso; omega) | (conv => whnf))) | (refine ifB_eq (fun h => ?_) (fun h => ?_) <;> (first | (exfalso; omega) | (conv => whnf))) | (refine ifB_ne (fun h => ?_) (fun h => ?_) <;> (first | (exfalso; omega) | (conv => whnf))) | (refine ifB_not ?_; conv => whnf) | (refine ifB_and ?_; conv => whnf) | (refine ifB_or ?_; conv => whnf) | (refine And.intro ?_ ?_; (first | omega | assumption | (exact allU_getD (by assumption) _) | (simp only [cutL]; omega) | (refine And.intro ?_ ?_ <;> first | assumption | exact allU_getD (by assumption) _) | (simp only [cutL, IntKind.wrap_u64, IntKind.wrap_i64] at *; omega) | decide); conv => whnf) | (refine ifB_mk (fun h => ?_) (fun h => ?_) <;> (conv => whnf)))
  refine And.intro (show n3 * 8 ≤ 140737488355328 by omega) ?_
  conv => whnf
  repeat' (first | (refine ifB_t (by assumption) ?_; conv => whnf) | (refine ifB_f (by assumption) ?_; conv => whnf) | (refine ifB_dec (fun h => ?_) (fun h => ?_) <;> (first | (exfalso; omega) | (conv => whnf))) | (refine ifB_eq (fun h => ?_) (fun h => ?_) <;> (first | (exfalso; omega) | (conv => whnf))) | (refine ifB_ne (fun h => ?_) (fun h => ?_) <;> (first | (exfalso; omega) | (conv => whnf))) | (refine ifB_not ?_; conv => whnf) | (refine ifB_and ?_; conv => whnf) | (refine ifB_or ?_; conv => whnf) | (refine And.intro ?_ ?_; (first | omega | assumption | (exact allU_getD (by assumption) _) | (simp only [cutL]; omega) | (refine And.intro ?_ ?_ <;> first | assumption | exact allU_getD (by assumption) _) | (simp only [cutL, IntKind.wrap_u64, IntKind.wrap_i64] at *; omega) | decide); conv => whnf) | (refine ifB_mk (fun h => ?_) (fun h => ?_) <;> (conv => whnf)))
  repeat' (first | exact trivial | exact rfl | (refine And.intro ?_ ?_) | ((conv => whnf); done) | ((conv => whnf); (first | rfl | (refine congrArg (fun b => T.v (Value.bool b)) ?_; first | rfl | exact (decide_eq_true (by omega)).symm | exact (decide_eq_false (by omega)).symm | exact decide_eq_decide.2 (by omega)) | (refine congrArg (fun b => T.v (Value.int _ b)) ?_; first | rfl | omega) | omega)) | (first | rfl | (refine congrArg (fun b => T.v (Value.bool b)) ?_; first | rfl | exact (decide_eq_true (by omega)).symm | exact (decide_eq_false (by omega)).symm | exact decide_eq_decide.2 (by omega)) | (refine congrArg (fun b => T.v (Value.int _ b)) ?_; first | rfl | omega) | omega))

def eOwn : Entry := ⟨78, 3, fun l => match l.map fixS with | [.agg [.v (.int .u64 r), .fl [.u64] n1 ks, .fl [.u64] n2 vs, .fl [.i64] n3 ws, .v (.bool c)]] => some (some (n1 ≤ 1000 ∧ n2 ≤ 1000 ∧ n3 ≤ 1000), SO r n1 n2 n3 c, SH ks vs ws) | _ => none⟩
theorem eOwn_ok : eOwn.ok Tryz.prog glR := ⟨Am.enters_of Tryz.func78 (by kernel_rfl) (by kernel_rfl), by
  intro args c t bs h hc
  simp only [eOwn] at h
  split at h <;> cases h
  rename_i heq
  replace hc := hc _ rfl
  refine pure_fixS ?_
  rw [heq]
  exact own_pure _ _ _ _ _ _ _ _ hc.1 hc.2.1 hc.2.2⟩
def keyedB (k : Int) : Bool := decide (k = 2 ∨ k = 3 ∨ k = 4)
set_option maxRecDepth 100000 in
theorem keyed_pure (k p n : Int) : Pure Tryz.prog glR 70 [.agg [.v (.int .i64 k), .v (.int .i64 p), .v (.int .i64 n)]] (.v (.bool (keyedB k))) := by
  refine pure_of (C := ctx0 Tryz.prog) ctx0_good Tryz.func70 (c := bodyOf Tryz.f70) (by rfl) (Nat.le_of_ble_eq_true (by rfl)) 4 0 [0, 1, 2] ?_
  conv => whnf
  repeat' (first | (refine ifB_t (by assumption) ?_; conv => whnf) | (refine ifB_f (by assumption) ?_; conv => whnf) | (refine ifB_dec (fun h => ?_) (fun h => ?_) <;> (first | (exfalso; omega) | (conv => whnf))) | (refine ifB_eq (fun h => ?_) (fun h => ?_) <;> (first | (exfalso; omega) | (conv => whnf))) | (refine ifB_ne (fun h => ?_) (fun h => ?_) <;> (first | (exfalso; omega) | (conv => whnf))) | (refine ifB_not ?_; conv => whnf) | (refine ifB_and ?_; conv => whnf) | (refine ifB_or ?_; conv => whnf) | (refine And.intro ?_ ?_; (first | omega | assumption | (exact allU_getD (by assumption) _) | (simp only [cutL]; omega) | (refine And.intro ?_ ?_ <;> first | assumption | exact allU_getD (by assumption) _) | (simp only [cutL, IntKind.wrap_u64, IntKind.wrap_i64] at *; omega) | decide); conv => whnf) | (refine ifB_mk (fun h => ?_) (fun h => ?_) <;> (conv => whnf)))
  all_goals (refine congrArg (fun b => T.v (Value.bool b)) ?_; first | (simp [keyedB, *]; done) | (simp [keyedB, *]; exact beq_eq_decide _ _) | (simp [keyedB, *]; by_cases h4 : k = 4 <;> simp [h4]))

def eKeyed : Entry := ⟨70, 3, fun l => match l with | [.agg [.v (.int .i64 k), .v (.int .i64 p), .v (.int .i64 n)]] => some (none, .v (.bool (keyedB k)), []) | _ => none⟩
theorem eKeyed_ok : eKeyed.ok Tryz.prog glR := ⟨Am.enters_of Tryz.func70 (by kernel_rfl) (by kernel_rfl), by
  intro args c t bs h hc
  simp only [eKeyed] at h
  split at h <;> cases h
  exact keyed_pure _ _ _⟩
set_option maxRecDepth 100000 in
theorem tells_pure (v : Int) : Pure Tryz.prog glR 113 [.v (.int .u64 v)] (.agg [.v (.int .i64 0), .v (.int .u64 v)]) := by
  refine pure_of (C := ctx0 Tryz.prog) ctx0_good Tryz.func113 (c := bodyOf Tryz.f113) (by rfl) (Nat.le_of_ble_eq_true (by rfl)) 4 0 [0, 2] ?_
  conv => whnf
  repeat' (first | (refine ifB_t (by assumption) ?_; conv => whnf) | (refine ifB_f (by assumption) ?_; conv => whnf) | (refine ifB_dec (fun h => ?_) (fun h => ?_) <;> (first | (exfalso; omega) | (conv => whnf))) | (refine ifB_eq (fun h => ?_) (fun h => ?_) <;> (first | (exfalso; omega) | (conv => whnf))) | (refine ifB_ne (fun h => ?_) (fun h => ?_) <;> (first | (exfalso; omega) | (conv => whnf))) | (refine ifB_not ?_; conv => whnf) | (refine ifB_and ?_; conv => whnf) | (refine ifB_or ?_; conv => whnf) | (refine And.intro ?_ ?_; (first | omega | assumption | (exact allU_getD (by assumption) _) | (simp only [cutL]; omega) | (refine And.intro ?_ ?_ <;> first | assumption | exact allU_getD (by assumption) _) | (simp only [cutL, IntKind.wrap_u64, IntKind.wrap_i64] at *; omega) | decide); conv => whnf) | (refine ifB_mk (fun h => ?_) (fun h => ?_) <;> (conv => whnf)))
  repeat' (first | exact trivial | exact rfl | (refine And.intro ?_ ?_) | ((conv => whnf); done) | ((conv => whnf); (first | rfl | (refine congrArg (fun b => T.v (Value.bool b)) ?_; first | rfl | exact (decide_eq_true (by omega)).symm | exact (decide_eq_false (by omega)).symm | exact decide_eq_decide.2 (by omega)) | (refine congrArg (fun b => T.v (Value.int _ b)) ?_; first | rfl | omega) | omega)) | (first | rfl | (refine congrArg (fun b => T.v (Value.bool b)) ?_; first | rfl | exact (decide_eq_true (by omega)).symm | exact (decide_eq_false (by omega)).symm | exact decide_eq_decide.2 (by omega)) | (refine congrArg (fun b => T.v (Value.int _ b)) ?_; first | rfl | omega) | omega))
def eTells : Entry := ⟨113, 3, fun l => match l with | [.v (.int .u64 v)] => some (none, .agg [.v (.int .i64 0), .v (.int .u64 v)], []) | _ => none⟩
theorem eTells_ok : eTells.ok Tryz.prog glR := ⟨Am.enters_of Tryz.func113 (by kernel_rfl) (by kernel_rfl), by
  intro args c t bs h hc
  simp only [eTells] at h
  split at h <;> cases h
  exact tells_pure _⟩
set_option maxRecDepth 100000 in
theorem refuses_pure (e : Int) : Pure Tryz.prog glR 116 [.v (.int .i64 e)] (.agg [.v (.int .i64 e), .v (.int .u64 0)]) := by
  refine pure_of (C := ctx0 Tryz.prog) ctx0_good Tryz.func116 (c := bodyOf Tryz.f116) (by rfl) (Nat.le_of_ble_eq_true (by rfl)) 4 0 [0, 2] ?_
  conv => whnf
  repeat' (first | (refine ifB_t (by assumption) ?_; conv => whnf) | (refine ifB_f (by assumption) ?_; conv => whnf) | (refine ifB_dec (fun h => ?_) (fun h => ?_) <;> (first | (exfalso; omega) | (conv => whnf))) | (refine ifB_eq (fun h => ?_) (fun h => ?_) <;> (first | (exfalso; omega) | (conv => whnf))) | (refine ifB_ne (fun h => ?_) (fun h => ?_) <;> (first | (exfalso; omega) | (conv => whnf))) | (refine ifB_not ?_; conv => whnf) | (refine ifB_and ?_; conv => whnf) | (refine ifB_or ?_; conv => whnf) | (refine And.intro ?_ ?_; (first | omega | assumption | (exact allU_getD (by assumption) _) | (simp only [cutL]; omega) | (refine And.intro ?_ ?_ <;> first | assumption | exact allU_getD (by assumption) _) | (simp only [cutL, IntKind.wrap_u64, IntKind.wrap_i64] at *; omega) | decide); conv => whnf) | (refine ifB_mk (fun h => ?_) (fun h => ?_) <;> (conv => whnf)))
  repeat' (first | exact trivial | exact rfl | (refine And.intro ?_ ?_) | ((conv => whnf); done) | ((conv => whnf); (first | rfl | (refine congrArg (fun b => T.v (Value.bool b)) ?_; first | rfl | exact (decide_eq_true (by omega)).symm | exact (decide_eq_false (by omega)).symm | exact decide_eq_decide.2 (by omega)) | (refine congrArg (fun b => T.v (Value.int _ b)) ?_; first | rfl | omega) | omega)) | (first | rfl | (refine congrArg (fun b => T.v (Value.bool b)) ?_; first | rfl | exact (decide_eq_true (by omega)).symm | exact (decide_eq_false (by omega)).symm | exact decide_eq_decide.2 (by omega)) | (refine congrArg (fun b => T.v (Value.int _ b)) ?_; first | rfl | omega) | omega))
def eRefuses : Entry := ⟨116, 3, fun l => match l with | [.v (.int .i64 e)] => some (none, .agg [.v (.int .i64 e), .v (.int .u64 0)], []) | _ => none⟩
theorem eRefuses_ok : eRefuses.ok Tryz.prog glR := ⟨Am.enters_of Tryz.func116 (by kernel_rfl) (by kernel_rfl), by
  intro args c t bs h hc
  simp only [eRefuses] at h
  split at h <;> cases h
  exact refuses_pure _⟩
def bitI (b : Bool) : Int := if b then 1 else 0
set_option maxRecDepth 100000 in
theorem bit_pure (b : Bool) : Pure Tryz.prog glR 119 [.v (.bool b)] (.v (.int .u64 (bitI b))) := by
  refine pure_of (C := ctx0 Tryz.prog) ctx0_good Tryz.func119 (c := bodyOf Tryz.f119) (by rfl) (Nat.le_of_ble_eq_true (by rfl)) 4 0 [0, 2, 3] ?_
  conv => whnf
  cases b <;> (conv => whnf) <;> rfl
def eBit : Entry := ⟨119, 3, fun l => match l with | [.v (.bool b)] => some (none, .v (.int .u64 (bitI b)), []) | _ => none⟩
theorem eBit_ok : eBit.ok Tryz.prog glR := ⟨Am.enters_of Tryz.func119 (by kernel_rfl) (by kernel_rfl), by
  intro args c t bs h hc
  simp only [eBit] at h
  split at h <;> cases h
  exact bit_pure _⟩
end Go.Proofs.YtnplgklnkcjmnaaGreatDoor
namespace Go.Proofs.YtnplgklnkcjmnaaGreatDoor
open Go.RowKit Go.Proofs.YtnplgklnkcjmnaaGreatDoor.Am
set_option linter.unusedVariables false
set_option linter.unusedSimpArgs false

def valB (k : Int) : Bool := decide (k = 3 ∨ k = 4)
def lssK (k a b : Int) : Bool := if k = 4 then bLess a b else decide (a < b)
def mntV (k x : Int) : Int := if k = 4 then iCanon x else x
def mntB (k x : Int) : Bool := if k = 4 then true else decide (x ≤ 4611686018427387904)
set_option maxRecDepth 100000 in
theorem valued_pure (k p n : Int) : Pure Tryz.prog glR 108 [.agg [.v (.int .i64 k), .v (.int .i64 p), .v (.int .i64 n)]] (.v (.bool (valB k))) := by
  refine pure_of (C := ctx0 Tryz.prog) ctx0_good Tryz.func108 (c := bodyOf Tryz.f108) (by rfl) (Nat.le_of_ble_eq_true (by rfl)) 4 0 [0, 1, 2] ?_
  conv => whnf
  repeat' (first | (refine ifB_t (by assumption) ?_; conv => whnf) | (refine ifB_f (by assumption) ?_; conv => whnf) | (refine ifB_dec (fun h => ?_) (fun h => ?_) <;> (first | (exfalso; omega) | (conv => whnf))) | (refine ifB_eq (fun h => ?_) (fun h => ?_) <;> (first | (exfalso; omega) | (conv => whnf))) | (refine ifB_ne (fun h => ?_) (fun h => ?_) <;> (first | (exfalso; omega) | (conv => whnf))) | (refine ifB_not ?_; conv => whnf) | (refine ifB_and ?_; conv => whnf) | (refine ifB_or ?_; conv => whnf) | (refine And.intro ?_ ?_; (first | omega | assumption | (exact allU_getD (by assumption) _) | (simp only [cutL]; omega) | (refine And.intro ?_ ?_ <;> first | assumption | exact allU_getD (by assumption) _) | (simp only [cutL, IntKind.wrap_u64, IntKind.wrap_i64] at *; omega) | decide); conv => whnf) | (refine ifB_mk (fun h => ?_) (fun h => ?_) <;> (conv => whnf)))
  all_goals (refine congrArg (fun b => T.v (Value.bool b)) ?_; first | (simp [valB, *]; done) | (simp [valB, *]; rfl))
def eValued : Entry := ⟨108, 3, fun l => match l with | [.agg [.v (.int .i64 k), .v (.int .i64 p), .v (.int .i64 n)]] => some (none, .v (.bool (valB k)), []) | _ => none⟩
theorem eValued_ok : eValued.ok Tryz.prog glR := ⟨Am.enters_of Tryz.func108 (by kernel_rfl) (by kernel_rfl), by
  intro args c t bs h hc
  simp only [eValued] at h
  split at h <;> cases h
  exact valued_pure _ _ _⟩
noncomputable def ctxKdA (P : Program) : Ctx := ctx P glR [eRLess, eRCanon] [] (noEq P) [] (fun _ h => by cases h)
theorem ctxKdA_good : (ctxKdA Tryz.prog).good := ctx_good (by kernel_rfl) (AllOk.mem ⟨eRLess_ok, eRCanon_ok, trivial⟩) glR_two
set_option maxRecDepth 100000 in
theorem less9_pure (k p n a b : Int) (ha : U64 a) (hb : U64 b) : Pure Tryz.prog glR 110 [.agg [.v (.int .i64 k), .v (.int .i64 p), .v (.int .i64 n)], .v (.int .u64 a), .v (.int .u64 b)] (.v (.bool (lssK k a b))) := by
  refine pure_of (C := ctxKdA Tryz.prog) ctxKdA_good Tryz.func110 (c := bodyOf Tryz.f110) (by rfl) (Nat.le_of_ble_eq_true (by rfl)) 4 0 [0, 1, 2, 3, 6, 9] ?_
  conv => whnf
  refine ifB_eq (fun h => ?_) (fun h => ?_)
  · conv => whnf
    refine And.intro ⟨ha, hb⟩ ?_
    conv => whnf
    rw [show lssK k a b = bLess a b from if_pos h]
  · conv => whnf
    rw [show lssK k a b = decide (a < b) from if_neg h]
def eLess9 : Entry := ⟨110, 3, fun l => match l with | [.agg [.v (.int .i64 k), .v (.int .i64 p), .v (.int .i64 n)], .v (.int .u64 a), .v (.int .u64 b)] => some (some (U64 a ∧ U64 b), .v (.bool (lssK k a b)), []) | _ => none⟩
theorem eLess9_ok : eLess9.ok Tryz.prog glR := ⟨Am.enters_of Tryz.func110 (by kernel_rfl) (by kernel_rfl), by
  intro args c t bs h hc
  simp only [eLess9] at h
  split at h <;> cases h
  replace hc := hc _ rfl
  exact less9_pure _ _ _ _ _ hc.1 hc.2⟩
set_option maxRecDepth 100000 in
theorem meant_pure (k p n a : Int) (ha : U64 a) : Pure Tryz.prog glR 109 [.agg [.v (.int .i64 k), .v (.int .i64 p), .v (.int .i64 n)], .v (.int .u64 a)] (.tup [.v (.int .u64 (mntV k a)), .v (.bool (mntB k a))]) := by
  refine pure_of (C := ctxKdA Tryz.prog) ctxKdA_good Tryz.func109 (c := bodyOf Tryz.f109) (by rfl) (Nat.le_of_ble_eq_true (by rfl)) 4 0 [0, 1, 2, 4, 5, 8] ?_
  conv => whnf
  refine ifB_eq (fun h => ?_) (fun h => ?_)
  · conv => whnf
    refine And.intro ha ?_
    conv => whnf
    rw [show mntV k a = iCanon a from if_pos h, show mntB k a = true from if_pos h]
    repeat' (first | exact trivial | exact rfl | (refine And.intro ?_ ?_) | ((conv => whnf); done) | ((conv => whnf); (first | rfl | (refine congrArg (fun b => T.v (Value.bool b)) ?_; first | rfl | exact (decide_eq_true (by omega)).symm | exact (decide_eq_false (by omega)).symm | exact decide_eq_decide.2 (by omega)) | (refine congrArg (fun b => T.v (Value.int _ b)) ?_; first | rfl | omega) | omega)) | (first | rfl | (refine congrArg (fun b => T.v (Value.bool b)) ?_; first | rfl | exact (decide_eq_true (by omega)).symm | exact (decide_eq_false (by omega)).symm | exact decide_eq_decide.2 (by omega)) | (refine congrArg (fun b => T.v (Value.int _ b)) ?_; first | rfl | omega) | omega))
  · conv => whnf
    rw [show mntV k a = a from if_neg h, show mntB k a = decide (a ≤ 4611686018427387904) from if_neg h]
    repeat' (first | exact trivial | exact rfl | (refine And.intro ?_ ?_) | ((conv => whnf); done) | ((conv => whnf); (first | rfl | (refine congrArg (fun b => T.v (Value.bool b)) ?_; first | rfl | exact (decide_eq_true (by omega)).symm | exact (decide_eq_false (by omega)).symm | exact decide_eq_decide.2 (by omega)) | (refine congrArg (fun b => T.v (Value.int _ b)) ?_; first | rfl | omega) | omega)) | (first | rfl | (refine congrArg (fun b => T.v (Value.bool b)) ?_; first | rfl | exact (decide_eq_true (by omega)).symm | exact (decide_eq_false (by omega)).symm | exact decide_eq_decide.2 (by omega)) | (refine congrArg (fun b => T.v (Value.int _ b)) ?_; first | rfl | omega) | omega))
def eMeant : Entry := ⟨109, 3, fun l => match l with | [.agg [.v (.int .i64 k), .v (.int .i64 p), .v (.int .i64 n)], .v (.int .u64 a)] => some (some (U64 a), .tup [.v (.int .u64 (mntV k a)), .v (.bool (mntB k a))], []) | _ => none⟩
theorem eMeant_ok : eMeant.ok Tryz.prog glR := ⟨Am.enters_of Tryz.func109 (by kernel_rfl) (by kernel_rfl), by
  intro args c t bs h hc
  simp only [eMeant] at h
  split at h <;> cases h
  replace hc := hc _ rfl
  exact meant_pure _ _ _ _ hc⟩
/-- Are so many keys right? -/
def okKs (k : Int) (ks : List Int) : Nat → Bool
  | 0 => true
  | i + 1 => okKs k ks i && (mntB k (ks.getD i 0) && (decide (mntV k (ks.getD i 0) = ks.getD i 0) && (decide (i = 0) || lssK k (ks.getD (i - 1) 0) (ks.getD i 0))))
theorem okKs_mono {k : Int} {ks : List Int} {i n : Nat} (hi : i ≤ n) (h : okKs k ks n = true) : okKs k ks i = true := by
  induction n with
  | zero => obtain rfl : i = 0 := by omega
            exact h
  | succ n ih =>
    by_cases e : i = n + 1
    · subst e; exact h
    · simp only [okKs, Bool.and_eq_true] at h
      exact ih (by omega) h.1
def keysOk (k n : Int) (ks vs : List Int) : Bool := decide ((ks.length : Int) ≤ n) && ((if valB k = true then decide (vs.length = ks.length) else decide (vs.length = 0)) && okKs k ks ks.length)
theorem keysOk_no {k n : Int} {ks vs : List Int} {i : Nat} (hi : i < ks.length) (h : (mntB k (ks.getD i 0) && (decide (mntV k (ks.getD i 0) = ks.getD i 0) && (decide (i = 0) || lssK k (ks.getD (i - 1) 0) (ks.getD i 0)))) = false) : keysOk k n ks vs = false := by
  have : okKs k ks ks.length = false := by
    cases hq : okKs k ks ks.length with
    | false => rfl
    | true =>
      have := okKs_mono (i := i + 1) (by omega) hq
      simp only [okKs] at this
      rw [h, Bool.and_false] at this; cases this
  unfold keysOk; rw [this, Bool.and_false, Bool.and_false]
noncomputable def ctxKdA2 (P : Program) : Ctx := ctx P glR [eValued, eLess9, eMeant] [] (noEq P) [] (fun _ h => by cases h)
theorem ctxKdA2_good : (ctxKdA2 Tryz.prog).good := ctx_good (by kernel_rfl) (AllOk.mem ⟨eValued_ok, eLess9_ok, eMeant_ok, trivial⟩) glR_two
attribute [local irreducible] lssK mntV mntB valB
set_option maxRecDepth 100000 in
theorem keys9_pure (k p n r : Int) (n1 : Nat) (ks : List Int) (n2 : Nat) (vs : List Int) (n3 : Nat) (ws : List Int) (c : Bool) (hu : AllU ks) : Pure Tryz.prog glR 72 [.agg [.v (.int .i64 k), .v (.int .i64 p), .v (.int .i64 n)], ST r n1 ks n2 vs n3 ws c] (.v (.bool (keysOk k n ks vs))) := by
  refine pure_wf fun hw => ?_
  obtain ⟨-, ⟨-, ⟨w1, w2⟩, ⟨w3, w4⟩, -, -, -⟩, -⟩ := hw
  simp only [List.length_cons, List.length_nil, Nat.zero_add, Nat.mul_one] at w1 w3
  refine pure_of (C := ctxKdA2 Tryz.prog) ctxKdA2_good Tryz.func72 (c := bodyOf Tryz.f72) (by rfl) (Nat.le_of_ble_eq_true (by rfl)) 4 0 [0, 1, 2, 3, 4, 5, 6, 7, 37, 42, 81] ?_
  conv => whnf
  refine ifB_dec (fun h => ?_) (fun h => ?_)
  · conv => whnf
    exact congrArg (fun b => T.v (Value.bool b)) (by unfold keysOk; rw [decide_eq_false (by omega), Bool.false_and])
  conv => whnf
  have hgo : (if valB k = true then decide (vs.length = ks.length) else decide (vs.length = 0)) = false → keysOk k n ks vs = false := fun h => by unfold keysOk; rw [h, Bool.false_and, Bool.and_false]
  have hnn : (ks.length : Int) ≤ n := by omega
  have hend : (if valB k = true then decide (vs.length = ks.length) else decide (vs.length = 0)) = true → okKs k ks n1 = true → keysOk k n ks vs = true := fun h1 h2 => by unfold keysOk; rw [h1, show ks.length = n1 by omega, h2, decide_eq_true (by omega)]; rfl
  have ew : ∀ i : Nat, ks.getD (0 + (i : Int).toNat * (0 + 1)) 0 = ks.getD i 0 := fun i => by simp
  cases hv : valB k
  · conv => whnf
    repeat' (first | (refine ifB_t (by assumption) ?_; conv => whnf) | (refine ifB_f (by assumption) ?_; conv => whnf) | (refine ifB_dec (fun h => ?_) (fun h => ?_) <;> (first | (exfalso; omega) | (conv => whnf))) | (refine ifB_eq (fun h => ?_) (fun h => ?_) <;> (first | (exfalso; omega) | (conv => whnf))) | (refine ifB_ne (fun h => ?_) (fun h => ?_) <;> (first | (exfalso; omega) | (conv => whnf))) | (refine ifB_not ?_; conv => whnf) | (refine ifB_and ?_; conv => whnf) | (refine ifB_or ?_; conv => whnf) | (refine And.intro ?_ ?_; (first | omega | assumption | (exact allU_getD (by assumption) _) | (simp only [cutL]; omega) | (refine And.intro ?_ ?_ <;> first | assumption | exact allU_getD (by assumption) _) | (simp only [cutL, IntKind.wrap_u64, IntKind.wrap_i64] at *; omega) | decide); conv => whnf) | (refine ifB_mk (fun h => ?_) (fun h => ?_) <;> (conv => whnf)))
    · rw [hgo (by rw [hv]; exact decide_eq_false (by omega))]
    rw [hv] at hend; replace hend := hend (decide_eq_true (by omega))
    (refine TW.loopD ctxKdA2_good 0 (base := 0) (lv := [0, 1, 2, 3, 4, 5, 6, 7, 37, 42, 81]) [5] [] [] (fun j : Nat => [.v (.int .i64 j)]) (fun _ => []) (fun j => j ≤ n1 ∧ okKs k ks j = true) (fun j => n1 - j) ?_
     conv => whnf
     refine ⟨⟨0, ⟨rfl, rfl, rfl⟩, Nat.zero_le _, rfl⟩, fun j ⟨hj, ho⟩ => ?_⟩
     conv => whnf
     refine ifB_dec (fun h1 => ?_) (fun h1 => ?_)
     · have hx := allU_getD hu j
       have hx1 := allU_getD hu (j - 1)
       conv => whnf
       refine And.intro (by omega) ?_
       conv => whnf
       rw [ew]
       refine And.intro hx ?_
       conv => whnf
       have hno : (mntB k (ks.getD j 0) && (decide (mntV k (ks.getD j 0) = ks.getD j 0) && (decide (j = 0) || lssK k (ks.getD (j - 1) 0) (ks.getD j 0)))) = false → keysOk k n ks vs = false := fun h => keysOk_no (i := j) (by omega) h
       have hyes : (mntB k (ks.getD j 0) && (decide (mntV k (ks.getD j 0) = ks.getD j 0) && (decide (j = 0) || lssK k (ks.getD (j - 1) 0) (ks.getD j 0)))) = true → okKs k ks (j + 1) = true := fun h => by simp only [okKs]; rw [ho, h]; rfl
       cases hb : mntB k (ks.getD j 0)
       · rw [hb, Bool.false_and] at hno
         conv => whnf
         rw [hno rfl]
       rw [hb, Bool.true_and] at hno hyes
       conv => whnf
       refine And.intro (by omega) ?_
       conv => whnf
       rw [ew]
       by_cases hm : mntV k (ks.getD j 0) = ks.getD j 0
       rotate_left
       · refine ifB_t (show (bif false then true else mntV k (ks.getD j 0) != ks.getD j 0) = true from bne_iff_ne.2 hm) ?_
         conv => whnf
         rw [hno (by rw [decide_eq_false hm, Bool.false_and])]
       rw [decide_eq_true hm, Bool.true_and] at hno hyes
       refine ifB_f (show (bif false then true else mntV k (ks.getD j 0) != ks.getD j 0) = false by rw [hm]; exact bne_self_eq_false _) ?_
       conv => whnf
       refine ifB_dec (fun h0 => ?_) (fun h0 => ?_)
       · rw [decide_eq_false (by omega), Bool.false_or] at hno hyes
         have ej : IntKind.i64.wrap ((j : Int) - 1) = ((j - 1 : Nat) : Int) := by rw [wrap64 (by omega) (by omega)]; omega
         conv => whnf
         rw [ej]
         refine And.intro (by omega) ?_
         conv => whnf
         rw [ew]
         rw [hm]
         refine And.intro ⟨hx1, hx⟩ ?_
         conv => whnf
         cases hs : lssK k (ks.getD (j - 1) 0) (ks.getD j 0)
         · conv => whnf
           rw [hno hs]
         · conv => whnf
           repeat (refine And.intro (by omega) ?_; conv => whnf)
           rw [wsucc (n := n1) (by omega) w2]
           exact ⟨j + 1, [], ⟨rfl, rfl, rfl⟩, ⟨(by omega : j + 1 ≤ n1), hyes hs⟩, by (try dsimp only); omega⟩
       · rw [decide_eq_true (show j = 0 by omega), Bool.true_or] at hyes
         conv => whnf
         repeat (refine And.intro (by omega) ?_; conv => whnf)
         rw [wsucc (n := n1) (by omega) w2]
         exact ⟨j + 1, [], ⟨rfl, rfl, rfl⟩, ⟨(by omega : j + 1 ≤ n1), hyes rfl⟩, by (try dsimp only); omega⟩
     · conv => whnf
       obtain rfl : j = n1 := by omega
       rw [hend ho])
  · conv => whnf
    repeat' (first | (refine ifB_t (by assumption) ?_; conv => whnf) | (refine ifB_f (by assumption) ?_; conv => whnf) | (refine ifB_dec (fun h => ?_) (fun h => ?_) <;> (first | (exfalso; omega) | (conv => whnf))) | (refine ifB_eq (fun h => ?_) (fun h => ?_) <;> (first | (exfalso; omega) | (conv => whnf))) | (refine ifB_ne (fun h => ?_) (fun h => ?_) <;> (first | (exfalso; omega) | (conv => whnf))) | (refine ifB_not ?_; conv => whnf) | (refine ifB_and ?_; conv => whnf) | (refine ifB_or ?_; conv => whnf) | (refine And.intro ?_ ?_; (first | omega | assumption | (exact allU_getD (by assumption) _) | (simp only [cutL]; omega) | (refine And.intro ?_ ?_ <;> first | assumption | exact allU_getD (by assumption) _) | (simp only [cutL, IntKind.wrap_u64, IntKind.wrap_i64] at *; omega) | decide); conv => whnf) | (refine ifB_mk (fun h => ?_) (fun h => ?_) <;> (conv => whnf)))
    · rw [hgo (by rw [hv]; exact decide_eq_false (by omega))]
    rw [hv] at hend; replace hend := hend (decide_eq_true (by omega))
    (refine TW.loopD ctxKdA2_good 0 (base := 0) (lv := [0, 1, 2, 3, 4, 5, 6, 7, 37, 42, 81]) [5] [] [] (fun j : Nat => [.v (.int .i64 j)]) (fun _ => []) (fun j => j ≤ n1 ∧ okKs k ks j = true) (fun j => n1 - j) ?_
     conv => whnf
     refine ⟨⟨0, ⟨rfl, rfl, rfl⟩, Nat.zero_le _, rfl⟩, fun j ⟨hj, ho⟩ => ?_⟩
     conv => whnf
     refine ifB_dec (fun h1 => ?_) (fun h1 => ?_)
     · have hx := allU_getD hu j
       have hx1 := allU_getD hu (j - 1)
       conv => whnf
       refine And.intro (by omega) ?_
       conv => whnf
       rw [ew]
       refine And.intro hx ?_
       conv => whnf
       have hno : (mntB k (ks.getD j 0) && (decide (mntV k (ks.getD j 0) = ks.getD j 0) && (decide (j = 0) || lssK k (ks.getD (j - 1) 0) (ks.getD j 0)))) = false → keysOk k n ks vs = false := fun h => keysOk_no (i := j) (by omega) h
       have hyes : (mntB k (ks.getD j 0) && (decide (mntV k (ks.getD j 0) = ks.getD j 0) && (decide (j = 0) || lssK k (ks.getD (j - 1) 0) (ks.getD j 0)))) = true → okKs k ks (j + 1) = true := fun h => by simp only [okKs]; rw [ho, h]; rfl
       cases hb : mntB k (ks.getD j 0)
       · rw [hb, Bool.false_and] at hno
         conv => whnf
         rw [hno rfl]
       rw [hb, Bool.true_and] at hno hyes
       conv => whnf
       refine And.intro (by omega) ?_
       conv => whnf
       rw [ew]
       by_cases hm : mntV k (ks.getD j 0) = ks.getD j 0
       rotate_left
       · refine ifB_t (show (bif false then true else mntV k (ks.getD j 0) != ks.getD j 0) = true from bne_iff_ne.2 hm) ?_
         conv => whnf
         rw [hno (by rw [decide_eq_false hm, Bool.false_and])]
       rw [decide_eq_true hm, Bool.true_and] at hno hyes
       refine ifB_f (show (bif false then true else mntV k (ks.getD j 0) != ks.getD j 0) = false by rw [hm]; exact bne_self_eq_false _) ?_
       conv => whnf
       refine ifB_dec (fun h0 => ?_) (fun h0 => ?_)
       · rw [decide_eq_false (by omega), Bool.false_or] at hno hyes
         have ej : IntKind.i64.wrap ((j : Int) - 1) = ((j - 1 : Nat) : Int) := by rw [wrap64 (by omega) (by omega)]; omega
         conv => whnf
         rw [ej]
         refine And.intro (by omega) ?_
         conv => whnf
         rw [ew]
         rw [hm]
         refine And.intro ⟨hx1, hx⟩ ?_
         conv => whnf
         cases hs : lssK k (ks.getD (j - 1) 0) (ks.getD j 0)
         · conv => whnf
           rw [hno hs]
         · conv => whnf
           repeat (refine And.intro (by omega) ?_; conv => whnf)
           rw [wsucc (n := n1) (by omega) w2]
           exact ⟨j + 1, [], ⟨rfl, rfl, rfl⟩, ⟨(by omega : j + 1 ≤ n1), hyes hs⟩, by (try dsimp only); omega⟩
       · rw [decide_eq_true (show j = 0 by omega), Bool.true_or] at hyes
         conv => whnf
         repeat (refine And.intro (by omega) ?_; conv => whnf)
         rw [wsucc (n := n1) (by omega) w2]
         exact ⟨j + 1, [], ⟨rfl, rfl, rfl⟩, ⟨(by omega : j + 1 ≤ n1), hyes rfl⟩, by (try dsimp only); omega⟩
     · conv => whnf
       obtain rfl : j = n1 := by omega
       rw [hend ho])

def eKeys9 : Entry := ⟨72, 3, fun l => match l.map fixS with | [.agg [.v (.int .i64 k), .v (.int .i64 p), .v (.int .i64 n)], .agg [.v (.int .u64 r), .fl [.u64] n1 ks, .fl [.u64] n2 vs, .fl [.i64] n3 ws, .v (.bool c)]] => some (some (AllU ks), .v (.bool (keysOk k n ks vs)), []) | _ => none⟩
theorem eKeys9_ok : eKeys9.ok Tryz.prog glR := ⟨Am.enters_of Tryz.func72 (by kernel_rfl) (by kernel_rfl), by
  intro args c t bs h hc
  simp only [eKeys9] at h
  split at h <;> cases h
  rename_i heq
  replace hc := hc _ rfl
  refine pure_fixS ?_
  rw [heq]
  exact keys9_pure _ _ _ _ _ _ _ _ _ _ _ hc⟩

end Go.Proofs.YtnplgklnkcjmnaaGreatDoor
namespace Go.Proofs.YtnplgklnkcjmnaaGreatDoor
open Go.RowKit Go.Proofs.YtnplgklnkcjmnaaGreatDoor.Am
set_option linter.unusedVariables false
set_option linter.unusedSimpArgs false

/-- A list with one more at a place, without that at a place. -/
def insK (ks : List Int) (a : Nat) (w : Int) : List Int := ks.take a ++ w :: ks.drop a
def delK (ks : List Int) (a : Nat) : List Int := ks.take a ++ ks.drop (a + 1)
/-- Is a state of a Set, a Dict or an Order right? -/
def rightT (k p n r : Int) (ks vs ws : List Int) (c : Bool) : Bool := fitsB k p n && (decide (r = 0) && (decide (ws.length = 0) && (!c && keysOk k n ks vs)))
noncomputable def ctxKdB (P : Program) : Ctx := ctx P glR [eRFits, eKeyed, eKeys9] [] (noEq P) [] (fun _ h => by cases h)
theorem ctxKdB_good : (ctxKdB Tryz.prog).good := ctx_good (by kernel_rfl) (AllOk.mem ⟨eRFits_ok, eKeyed_ok, eKeys9_ok, trivial⟩) glR_two
attribute [local irreducible] fitsB keysOk
set_option maxRecDepth 100000 in
theorem rightTb_pure (k p n r : Int) (hk : k = 2 ∨ k = 3 ∨ k = 4) (n1 : Nat) (ks : List Int) (n2 : Nat) (vs : List Int) (n3 : Nat) (ws : List Int) (c : Bool) (hu : AllU ks) (h1 : n1 ≤ 1000) (h2 : n2 ≤ 1000) : Pure Tryz.prog glR 40 [.agg [.v (.int .i64 k), .v (.int .i64 p), .v (.int .i64 n)], ST r n1 ks n2 vs n3 ws c] (.v (.bool (rightT k p n r ks vs ws c))) := by
  refine pure_wf fun hw => ?_
  obtain ⟨-, ⟨-, ⟨w1, -⟩, ⟨w2, -⟩, ⟨w3, w4⟩, -, -⟩, -⟩ := hw
  simp only [List.length_cons, List.length_nil, Nat.zero_add, Nat.mul_one] at w1 w2 w3
  have k1 : k ≠ 1 := by omega
  have k5 : k ≠ 5 := by omega
  have hkd : keyedB k = true := by unfold keyedB; exact decide_eq_true hk
  refine pure_of (C := ctxKdB Tryz.prog) ctxKdB_good Tryz.func40 (c := bodyOf Tryz.f40) (by rfl) (Nat.le_of_ble_eq_true (by rfl)) 4 0 [0, 1, 2, 3, 4, 7, 45, 46, 56] ?_
  conv => whnf
  cases hf : fitsB k p n
  · conv => whnf
    exact congrArg (fun b => T.v (Value.bool b)) (by unfold rightT; rw [hf]; rfl)
  conv => whnf
  repeat' (first | (refine ifB_t (by assumption) ?_; conv => whnf) | (refine ifB_f (by assumption) ?_; conv => whnf) | (refine ifB_dec (fun h => ?_) (fun h => ?_) <;> (first | (exfalso; omega) | (conv => whnf))) | (refine ifB_eq (fun h => ?_) (fun h => ?_) <;> (first | (exfalso; omega) | (conv => whnf))) | (refine ifB_ne (fun h => ?_) (fun h => ?_) <;> (first | (exfalso; omega) | (conv => whnf))) | (refine ifB_not ?_; conv => whnf) | (refine ifB_and ?_; conv => whnf) | (refine ifB_or ?_; conv => whnf) | (refine And.intro ?_ ?_; (first | omega | assumption | (exact allU_getD (by assumption) _) | (simp only [cutL]; omega) | (refine And.intro ?_ ?_ <;> first | assumption | exact allU_getD (by assumption) _) | (simp only [cutL, IntKind.wrap_u64, IntKind.wrap_i64] at *; omega) | decide); conv => whnf) | (refine ifB_mk (fun h => ?_) (fun h => ?_) <;> (conv => whnf)))
  all_goals (refine congrArg (fun b => T.v (Value.bool b)) ?_; unfold rightT; rw [Bool.eq_iff_iff])
  all_goals first | (simp [*]; done) | (simp [*]; omega) | (simp_all; done) | (simp_all; omega)
set_option maxRecDepth 100000 in
theorem with_pure (n1 : Nat) (ks : List Int) (a : Nat) (w : Int) (hn : n1 ≤ 1000) (ha : a ≤ n1) : Pure Tryz.prog glR 143 [.fl [.u64] n1 ks, .v (.int .i64 a), .v (.int .u64 w)] (.ow 0 1 (n1 + 1)) [(0, .fl [.u64] (insK ks a w))] := by
  refine pure_wf fun hw => ?_
  obtain ⟨⟨w1, w2⟩, -⟩ := hw
  simp only [List.length_cons, List.length_nil, Nat.zero_add, Nat.mul_one] at w1
  refine pure_of (C := ctx0 Tryz.prog) ctx0_good Tryz.func143 (c := bodyOf Tryz.f143) (by rfl) (Nat.le_of_ble_eq_true (by rfl)) 4 0 [0, 1, 2, 6] ?_
  have c1 : cutL n1 none (some (a : Int)) = a := by simp only [cutL]; omega
  have c2 : cutN (0 + 1) none (some (a : Int)) ks = ks.take a := by simp [cutN, mulN_eq]
  have c3 : cutL n1 (some (a : Int)) none = n1 - a := by simp only [cutL]; omega
  have c4 : cutN (0 + 1) (some (a : Int)) none ks = ks.drop a := by simp [cutN, mulN_eq]
  conv => whnf
  refine And.intro (by omega) ?_
  rw [c1, c2]
  conv => whnf
  repeat (refine And.intro (by first | omega | (show a * 8 ≤ 140737488355328; omega)) ?_; (try rw [c1, c2]); (try rw [c3, c4]); conv => whnf)
  rw [show a + 1 + (n1 - a) = n1 + 1 by omega, List.append_assoc]
  repeat' (first | exact trivial | exact rfl | (refine And.intro ?_ ?_) | ((conv => whnf); done) | ((conv => whnf); (first | rfl | (refine congrArg (fun b => T.v (Value.bool b)) ?_; first | rfl | exact (decide_eq_true (by omega)).symm | exact (decide_eq_false (by omega)).symm | exact decide_eq_decide.2 (by omega)) | (refine congrArg (fun b => T.v (Value.int _ b)) ?_; first | rfl | omega) | omega)) | (first | rfl | (refine congrArg (fun b => T.v (Value.bool b)) ?_; first | rfl | exact (decide_eq_true (by omega)).symm | exact (decide_eq_false (by omega)).symm | exact decide_eq_decide.2 (by omega)) | (refine congrArg (fun b => T.v (Value.int _ b)) ?_; first | rfl | omega) | omega))
set_option maxRecDepth 100000 in
theorem without_pure (n1 : Nat) (ks : List Int) (a : Nat) (hn : n1 ≤ 1000) (ha : a < n1) : Pure Tryz.prog glR 142 [.fl [.u64] n1 ks, .v (.int .i64 a)] (.ow 0 1 (n1 - 1)) [(0, .fl [.u64] (delK ks a))] := by
  refine pure_wf fun hw => ?_
  obtain ⟨⟨w1, w2⟩, -⟩ := hw
  simp only [List.length_cons, List.length_nil, Nat.zero_add, Nat.mul_one] at w1
  refine pure_of (C := ctx0 Tryz.prog) ctx0_good Tryz.func142 (c := bodyOf Tryz.f142) (by rfl) (Nat.le_of_ble_eq_true (by rfl)) 4 0 [0, 1, 4] ?_
  have c1 : cutL n1 none (some (a : Int)) = a := by simp only [cutL]; omega
  have c2 : cutN (0 + 1) none (some (a : Int)) ks = ks.take a := by simp [cutN, mulN_eq]
  have c3 : cutL n1 (some ((a + 1 : Nat) : Int)) none = n1 - (a + 1) := by simp only [cutL]; omega
  have c4 : cutN (0 + 1) (some ((a + 1 : Nat) : Int)) none ks = ks.drop (a + 1) := by simp only [cutN, mulN_eq]; congr 1; omega
  have e1 : IntKind.i64.wrap ((a : Int) + 1) = ((a + 1 : Nat) : Int) := wrap64 (by omega) (by omega)
  conv => whnf
  repeat (refine And.intro (by first | omega | (show a * 8 ≤ 140737488355328; omega)) ?_; (try rw [c1, c2]); (try rw [e1]); (try rw [c3, c4]); conv => whnf)
  rw [show a + (n1 - (a + 1)) = n1 - 1 by omega]
  repeat' (first | exact trivial | exact rfl | (refine And.intro ?_ ?_) | ((conv => whnf); done) | ((conv => whnf); (first | rfl | (refine congrArg (fun b => T.v (Value.bool b)) ?_; first | rfl | exact (decide_eq_true (by omega)).symm | exact (decide_eq_false (by omega)).symm | exact decide_eq_decide.2 (by omega)) | (refine congrArg (fun b => T.v (Value.int _ b)) ?_; first | rfl | omega) | omega)) | (first | rfl | (refine congrArg (fun b => T.v (Value.bool b)) ?_; first | rfl | exact (decide_eq_true (by omega)).symm | exact (decide_eq_false (by omega)).symm | exact decide_eq_decide.2 (by omega)) | (refine congrArg (fun b => T.v (Value.int _ b)) ?_; first | rfl | omega) | omega))

def eWith : Entry := ⟨143, 3, fun l => match l with | [.fl [.u64] n1 ks, .v (.int .i64 a), .v (.int .u64 w)] => some (some (n1 ≤ 1000 ∧ 0 ≤ a ∧ a ≤ n1), .ow 0 1 (n1 + 1), [(0, .fl [.u64] (insK ks a.toNat w))]) | _ => none⟩
theorem eWith_ok : eWith.ok Tryz.prog glR := ⟨Am.enters_of Tryz.func143 (by kernel_rfl) (by kernel_rfl), by
  intro args c t bs h hc
  simp only [eWith] at h
  split at h <;> cases h
  replace hc := hc _ rfl
  exact (by obtain ⟨h1, h2, h3⟩ := hc; obtain ⟨a0, rfl⟩ := Int.eq_ofNat_of_zero_le h2; exact with_pure _ _ a0 _ h1 (by omega))⟩
def eWithout : Entry := ⟨142, 3, fun l => match l with | [.fl [.u64] n1 ks, .v (.int .i64 a)] => some (some (n1 ≤ 1000 ∧ 0 ≤ a ∧ a < n1), .ow 0 1 (n1 - 1), [(0, .fl [.u64] (delK ks a.toNat))]) | _ => none⟩
theorem eWithout_ok : eWithout.ok Tryz.prog glR := ⟨Am.enters_of Tryz.func142 (by kernel_rfl) (by kernel_rfl), by
  intro args c t bs h hc
  simp only [eWithout] at h
  split at h <;> cases h
  replace hc := hc _ rfl
  exact (by obtain ⟨h1, h2, h3⟩ := hc; obtain ⟨a0, rfl⟩ := Int.eq_ofNat_of_zero_le h2; exact without_pure _ _ a0 h1 (by omega))⟩
end Go.Proofs.YtnplgklnkcjmnaaGreatDoor
namespace Go.Proofs.YtnplgklnkcjmnaaGreatDoor
open Go.RowKit Go.Proofs.YtnplgklnkcjmnaaGreatDoor.Am
set_option linter.unusedVariables false
set_option linter.unusedSimpArgs false

/-- Where a key is, or would be; is it there? -/
def atK (k : Int) (ks : List Int) (x : Int) : Nat := ks.findIdx fun y => !lssK k y x
def hereK (k : Int) (ks : List Int) (x : Int) : Bool := decide (atK k ks x < ks.length ∧ ks.getD (atK k ks x) 0 = x)
theorem atK_le (k : Int) (ks : List Int) (x : Int) : atK k ks x ≤ ks.length := List.findIdx_le_length
theorem atK_is {k : Int} {ks : List Int} {x : Int} {j : Nat} (hj : j ≤ ks.length) (h1 : ∀ i, i < j → lssK k (ks.getD i 0) x = true) (h2 : j < ks.length → lssK k (ks.getD j 0) x = false) : atK k ks x = j := by
  have hg : ∀ i (h : i < ks.length), ks[i] = ks.getD i 0 := fun i h => by rw [List.getD_eq_getElem?_getD, List.getElem?_eq_getElem h]; rfl
  rcases Nat.lt_trichotomy (atK k ks x) j with h | h | h
  · have hl : atK k ks x < ks.length := by omega
    have h3 := List.findIdx_getElem (xs := ks) (p := fun y => !lssK k y x) (w := hl)
    have h4 := h1 _ h
    have h5 : (!lssK k (ks[atK k ks x]'hl) x) = true := h3
    rw [hg, h4] at h5; cases h5
  · exact h
  · have h3 := List.not_of_lt_findIdx (xs := ks) (p := fun y => !lssK k y x) h
    have hl := atK_le k ks x
    have h4 : (!lssK k (ks[j]'(by omega)) x) = false := by simpa using h3
    rw [hg, h2 (by omega)] at h4; cases h4
/-- Where Next looks. -/
def nxK (k : Int) (ks : List Int) (x v : Int) : Nat := if hereK k ks x = true ∧ v ≠ 0 then atK k ks x + 1 else atK k ks x
/-- What a call makes of keys and values, and tells: of a key that is meant. -/
def plcD (k n : Int) (ks vs : List Int) (code x v : Int) : List Int × List Int × Int × Int :=
  if code = 7 then
    if hereK k ks x = true then (delK ks (atK k ks x), (if valB k = true then delK vs (atK k ks x) else vs), 0, if valB k = true then vs.getD (atK k ks x) 0 else 0) else (ks, vs, 12, 0)
  else if code = 8 then
    if nxK k ks x v = ks.length then (ks, vs, 12, 0) else (ks, vs, 0, ks.getD (nxK k ks x v) 0)
  else if code = 5 ∧ valB k = false then (ks, vs, 0, bitI (hereK k ks x))
  else if code = 10 ∧ valB k = true then
    if hereK k ks x = true then (ks, vs, 0, vs.getD (atK k ks x) 0) else (ks, vs, 12, 0)
  else if code = 6 ∧ valB k = false then
    if hereK k ks x = true then (ks, vs, 0, 0)
    else if (ks.length : Int) = n then (ks, vs, 11, 0)
    else (insK ks (atK k ks x) x, vs, 0, 1)
  else if code = 11 ∧ valB k = true then
    if hereK k ks x = true then (ks, vs.set (atK k ks x) v, 0, vs.getD (atK k ks x) 0)
    else if (ks.length : Int) = n then (ks, vs, 11, 0)
    else (insK ks (atK k ks x) x, insK vs (atK k ks x) v, 0, 0)
  else (ks, vs, 10, 0)
section
variable {k n : Int} {ks vs : List Int} {code x v : Int}
theorem plcTT (hv : valB k = true) (hh : hereK k ks x = true) : plcD k n ks vs code x v = if code = 7 then (delK ks (atK k ks x), delK vs (atK k ks x), 0, vs.getD (atK k ks x) 0) else if code = 8 then (if nxK k ks x v = ks.length then (ks, vs, 12, 0) else (ks, vs, 0, ks.getD (nxK k ks x v) 0))
    else if code = 10 then (ks, vs, 0, vs.getD (atK k ks x) 0) else if code = 11 then (ks, vs.set (atK k ks x) v, 0, vs.getD (atK k ks x) 0) else (ks, vs, 10, 0) := by simp [plcD, hv, hh]
theorem plcTF (hv : valB k = true) (hh : hereK k ks x = false) : plcD k n ks vs code x v = if code = 7 then (ks, vs, 12, 0) else if code = 8 then (if nxK k ks x v = ks.length then (ks, vs, 12, 0) else (ks, vs, 0, ks.getD (nxK k ks x v) 0))
    else if code = 10 then (ks, vs, 12, 0) else if code = 11 then (if (ks.length : Int) = n then (ks, vs, 11, 0) else (insK ks (atK k ks x) x, insK vs (atK k ks x) v, 0, 0)) else (ks, vs, 10, 0) := by simp [plcD, hv, hh]
theorem plcFT (hv : valB k = false) (hh : hereK k ks x = true) : plcD k n ks vs code x v = if code = 7 then (delK ks (atK k ks x), vs, 0, 0) else if code = 8 then (if nxK k ks x v = ks.length then (ks, vs, 12, 0) else (ks, vs, 0, ks.getD (nxK k ks x v) 0))
    else if code = 5 then (ks, vs, 0, 1) else if code = 6 then (ks, vs, 0, 0) else (ks, vs, 10, 0) := by simp [plcD, hv, hh, bitI]
theorem plcFF (hv : valB k = false) (hh : hereK k ks x = false) : plcD k n ks vs code x v = if code = 7 then (ks, vs, 12, 0) else if code = 8 then (if nxK k ks x v = ks.length then (ks, vs, 12, 0) else (ks, vs, 0, ks.getD (nxK k ks x v) 0))
    else if code = 5 then (ks, vs, 0, 0) else if code = 6 then (if (ks.length : Int) = n then (ks, vs, 11, 0) else (insK ks (atK k ks x) x, vs, 0, 1)) else (ks, vs, 10, 0) := by simp [plcD, hv, hh, bitI]
theorem nxK_T (hh : hereK k ks x = true) : (v ≠ 0 → nxK k ks x v = atK k ks x + 1) ∧ (v = 0 → nxK k ks x v = atK k ks x) := ⟨fun h => by simp [nxK, hh, h], fun h => by simp [nxK, hh, h]⟩
theorem nxK_F (hh : hereK k ks x = false) : nxK k ks x v = atK k ks x := by simp [nxK, hh]
theorem delK_len {l : List Int} {a : Nat} (h : a < l.length) : (delK l a).length = l.length - 1 := by simp [delK]; omega
theorem insK_len {l : List Int} {a : Nat} {w : Int} (h : a ≤ l.length) : (insK l a w).length = l.length + 1 := by simp [insK]; omega
end
def tabD (k n : Int) (ks vs : List Int) (code key v : Int) : List Int × List Int × Int × Int :=
  if code = 9 then (ks, vs, 0, (ks.length : Int))
  else if mntB k key = false then (ks, vs, 10, 0)
  else plcD k n ks vs code (mntV k key) v
def eValX (b : Bool) : Entry := ⟨108, 3, fun l => match l with | [.agg [.v (.int .i64 k), .v (.int .i64 p), .v (.int .i64 n)]] => some (some (valB k = b), .v (.bool b), []) | _ => none⟩
theorem eValX_ok (b : Bool) : (eValX b).ok Tryz.prog glR := ⟨Am.enters_of Tryz.func108 (by kernel_rfl) (by kernel_rfl), by
  intro args c t bs h hc
  simp only [eValX] at h
  split at h <;> cases h
  have := hc _ rfl
  subst this
  exact valued_pure _ _ _⟩
def eKeyedT : Entry := ⟨70, 3, fun l => match l with | [.agg [.v (.int .i64 k), .v (.int .i64 p), .v (.int .i64 n)]] => some (some (keyedB k = true), .v (.bool true), []) | _ => none⟩
theorem eKeyedT_ok : eKeyedT.ok Tryz.prog glR := ⟨Am.enters_of Tryz.func70 (by kernel_rfl) (by kernel_rfl), by
  intro args c t bs h hc
  simp only [eKeyedT] at h
  split at h <;> cases h
  have := hc _ rfl
  rw [← this]
  exact keyed_pure _ _ _⟩
/-- Do's parts, in a state that is right. -/
def eFitsT : Entry := ⟨39, 3, fun l => match l with | [.agg [.v (.int .i64 k), .v (.int .i64 p), .v (.int .i64 n)]] => some (some (fitsB k p n = true), .v (.bool true), []) | _ => none⟩
theorem eFitsT_ok : eFitsT.ok Tryz.prog glR := ⟨Am.enters_of Tryz.func39 (by kernel_rfl) (by kernel_rfl), by
  intro args c t bs h hc
  simp only [eFitsT] at h
  split at h <;> cases h
  have := hc _ rfl
  rw [← this]
  exact rfits_pure _ _ _⟩
def eRightX (b : Bool) : Entry := ⟨40, 3, fun l => match l.map fixS with | [.agg [.v (.int .i64 k), .v (.int .i64 p), .v (.int .i64 n)], .agg [.v (.int .u64 r), .fl [.u64] n1 ks, .fl [.u64] n2 vs, .fl [.i64] n3 ws, .v (.bool c)]] => some (some (((k = 2 ∨ k = 3 ∨ k = 4) ∧ AllU ks ∧ n1 ≤ 1000 ∧ n2 ≤ 1000) ∧ rightT k p n r ks vs ws c = b), .v (.bool b), []) | _ => none⟩
theorem eRightX_ok (b : Bool) : (eRightX b).ok Tryz.prog glR := ⟨Am.enters_of Tryz.func40 (by kernel_rfl) (by kernel_rfl), by
  intro args c t bs h hc
  simp only [eRightX] at h
  split at h <;> cases h
  rename_i heq
  obtain ⟨h1, h2⟩ := hc _ rfl
  subst h2
  refine pure_fixS ?_
  rw [heq]
  exact rightTb_pure _ _ _ _ h1.1 _ _ _ _ _ _ _ h1.2.1 h1.2.2.1 h1.2.2.2⟩
noncomputable def iPlaced : Inl := ⟨117, Tryz.f117, bodyOf Tryz.f117, [0, 1, 2, 3, 4, 5, 6, 7, 8, 12, 13, 14, 15, 27, 41, 56, 62, 71, 78, 88, 101, 110, 120, 129, 132, 143, 151, 154]⟩
theorem iPlaced_ok : iPlaced.ok Tryz.prog := Inl.mk_ok Tryz.func117 (by rfl) (by kernel_rfl) (by kernel_rfl)
noncomputable def iTable : Inl := ⟨80, Tryz.f80, bodyOf Tryz.f80, [0, 1, 2, 3, 4, 5, 6, 7, 8, 9, 10, 13, 28, 45]⟩
theorem iTable_ok : iTable.ok Tryz.prog := Inl.mk_ok Tryz.func80 (by rfl) (by kernel_rfl) (by kernel_rfl)
noncomputable def inlKd : List Inl := [iPlaced, iTable]
theorem inlKd_ok : InlOk Tryz.prog inlKd := ⟨iPlaced_ok, iTable_ok, trivial⟩
noncomputable def ctxKdC (P : Program) (h : InlOk P inlKd) (b : Bool) : Ctx := ctx P glR [eFitsT, eRightX true, eKeyedT, eOwn, eTells, eRefuses, eBit, eValX b, eMeant, eLess9, eWith, eWithout] [] (noEq P) inlKd h.mem
theorem ctxKdC_good (b : Bool) : (ctxKdC Tryz.prog inlKd_ok b).good := ctx_good (by kernel_rfl) (AllOk.mem ⟨eFitsT_ok, eRightX_ok true, eKeyedT_ok, eOwn_ok, eTells_ok, eRefuses_ok, eBit_ok, eValX_ok b, eMeant_ok, eLess9_ok, eWith_ok, eWithout_ok, trivial⟩) glR_two
/-- A state that is right, of what has keys. -/
structure TabH (k p n : Int) (n1 : Nat) (ks : List Int) (n2 : Nat) (vs : List Int) : Prop where
  kd : k = 2 ∨ k = 3 ∨ k = 4
  fits : fitsB k p n = true
  right : rightT k p n 0 ks vs [] false = true
  l1 : ks.length = n1
  l2 : vs.length = n2
  ln : n1 ≤ 256 ∧ (n1 : Int) ≤ n
  u1 : AllU ks
  u2 : AllU vs
  v : n2 = if valB k = true then n1 else 0
attribute [local irreducible] fitsB rightT lssK mntV mntB valB atK hereK keyedB nxK plcD delK insK
set_option maxRecDepth 100000 in
set_option maxHeartbeats 2000000 in
theorem doKT_pure (k p n : Int) (n1 : Nat) (ks : List Int) (n2 : Nat) (vs : List Int) (H : TabH k p n n1 ks n2 vs) (hv : valB k = true) (code key v : Int) (uk : U64 key) (uv : U64 v) : Pure Tryz.prog glR 45 [.agg [.v (.int .i64 k), .v (.int .i64 p), .v (.int .i64 n)], ST 0 n1 ks n2 vs 0 [] false, .agg [.v (.int .i64 code), .v (.int .u64 key), .v (.int .u64 v)]]
    (.tup [SO 0 (tabD k n ks vs code key v).1.length (tabD k n ks vs code key v).2.1.length 0 false, .agg [.v (.int .i64 (tabD k n ks vs code key v).2.2.1), .v (.int .u64 (tabD k n ks vs code key v).2.2.2)], .v (.int .i64 0)]) (SH (tabD k n ks vs code key v).1 (tabD k n ks vs code key v).2.1 []) := by
  obtain ⟨hk, hf, hr, l1, l2, ⟨hn1, hn2⟩, u1, u2, hvv⟩ := H
  rw [if_pos hv] at hvv
  replace hvv := hvv.symm
  subst hvv
  have k1 : k ≠ 1 := by omega
  have hkd : keyedB k = true := by unfold keyedB; exact decide_eq_true hk
  have hcn : IntKind.u64.wrap (n1 : Int) = n1 := wrapU (by omega) (by omega)
  refine pure_of (C := ctxKdC Tryz.prog inlKd_ok true) (ctxKdC_good true) Tryz.func45 (c := bodyOf Tryz.f45) (by rfl) (Nat.le_of_ble_eq_true (by rfl)) 4 4 [0, 1, 2, 3, 4, 5, 6, 7, 8, 9, 10, 11, 14, 20, 34, 44] ?_
  conv => whnf
  refine And.intro hf ?_
  conv => whnf
  refine And.intro ⟨⟨hk, u1, by omega, by omega⟩, hr⟩ ?_
  conv => whnf
  refine And.intro ⟨by omega, by omega, by omega⟩ ?_
  conv => whnf
  refine ifB_eq (fun h => absurd h k1) (fun _ => ?_)
  conv => whnf
  refine And.intro hkd ?_
  conv => whnf
  refine ifB_eq (fun h => ?_) (fun h9 => ?_)
  · subst h
    rw [show tabD k n ks vs 9 key v = (ks, vs, 0, (ks.length : Int)) from if_pos rfl]
    conv => whnf
    rw [hcn]
    dsimp only
    rw [l1, l2]
    repeat' (first | exact trivial | exact rfl | (refine And.intro ?_ ?_) | ((conv => whnf); done) | ((conv => whnf); (first | rfl | (refine congrArg (fun b => T.v (Value.bool b)) ?_; first | rfl | exact (decide_eq_true (by omega)).symm | exact (decide_eq_false (by omega)).symm | exact decide_eq_decide.2 (by omega)) | (refine congrArg (fun b => T.v (Value.int _ b)) ?_; first | rfl | omega) | omega)) | (first | rfl | (refine congrArg (fun b => T.v (Value.bool b)) ?_; first | rfl | exact (decide_eq_true (by omega)).symm | exact (decide_eq_false (by omega)).symm | exact decide_eq_decide.2 (by omega)) | (refine congrArg (fun b => T.v (Value.int _ b)) ?_; first | rfl | omega) | omega))
  conv => whnf
  refine And.intro uk ?_
  conv => whnf
  cases hmb : mntB k key
  · rw [show tabD k n ks vs code key v = (ks, vs, 10, 0) by unfold tabD; rw [if_neg h9, if_pos hmb]]
    conv => whnf
    dsimp only
    rw [l1, l2]
    repeat' (first | exact trivial | exact rfl | (refine And.intro ?_ ?_) | ((conv => whnf); done) | ((conv => whnf); (first | rfl | (refine congrArg (fun b => T.v (Value.bool b)) ?_; first | rfl | exact (decide_eq_true (by omega)).symm | exact (decide_eq_false (by omega)).symm | exact decide_eq_decide.2 (by omega)) | (refine congrArg (fun b => T.v (Value.int _ b)) ?_; first | rfl | omega) | omega)) | (first | rfl | (refine congrArg (fun b => T.v (Value.bool b)) ?_; first | rfl | exact (decide_eq_true (by omega)).symm | exact (decide_eq_false (by omega)).symm | exact decide_eq_decide.2 (by omega)) | (refine congrArg (fun b => T.v (Value.int _ b)) ?_; first | rfl | omega) | omega))
  rw [show tabD k n ks vs code key v = plcD k n ks vs code (mntV k key) v by unfold tabD; rw [if_neg h9, hmb, if_neg (by simp)]]
  conv => whnf
  obtain ⟨x, hx⟩ : ∃ x, mntV k key = x := ⟨_, rfl⟩
  have ux : U64 x := by rw [← hx]; unfold mntV; split; exact u64_canon uk; exact uk
  rw [hx]
  have ha := atK_le k ks x
  have e0 : ∀ (l : List Int) (j : Nat), l.getD (0 + addN 0 (j : Int).toNat * (0 + 1)) 0 = l.getD j 0 := fun l j => by simp [addN_eq]
  have es : ∀ (l : List Int) (j : Nat) (y : Int), l.set (0 + addN 0 (j : Int).toNat * (0 + 1) + 0) y = l.set j y := fun l j y => by simp [addN_eq]
  refine TW.loopD (ctxKdC_good true) 4 (base := 839695) (lv := [0, 1, 2, 3, 4, 5, 6, 7, 8, 9, 10, 13, 28, 45]) [10] [] [] (fun j : Nat => [.v (.int .i64 j)]) (fun _ => []) (fun j => j ≤ n1 ∧ ∀ i, i < j → lssK k (ks.getD i 0) x = true) (fun j => n1 - j) ?_
  conv => whnf
  refine ⟨⟨0, ⟨rfl, rfl, rfl⟩, Nat.zero_le _, fun i hi => absurd hi (Nat.not_lt_zero _)⟩, fun j ⟨hj, hl⟩ => ?_⟩
  conv => whnf
  have hlast : (¬ (j < n1) ∨ lssK k (ks.getD j 0) x = false) → atK k ks x = j := fun h => atK_is (by omega) hl (fun h2 => by rcases h with h | h; omega; exact h)
  by_cases hjn : j < n1
  · refine ifB_t (decide_eq_true (by omega)) ?_
    conv => whnf
    refine And.intro (by omega) ?_
    conv => whnf
    rw [e0]
    refine And.intro ⟨allU_getD u1 _, ux⟩ ?_
    conv => whnf
    cases hs : lssK k (ks.getD j 0) x
    · rw [← hlast (.inr hs)]
      conv => whnf
      (have h1 : atK k ks x < n1 := by have := hlast (.inr hs); omega
       refine ifB_t (decide_eq_true (by omega)) ?_
       conv => whnf
       refine And.intro (by omega) ?_
       conv => whnf
       rw [e0]
       by_cases h2 : ks.getD (atK k ks x) 0 = x
       · have hh : hereK k ks x = true := by unfold hereK; exact decide_eq_true ⟨by omega, h2⟩
         rw [show (ks.getD (atK k ks x) 0 == x) = true from beq_iff_eq.2 h2]
         (have hnx := nxK_T (v := v) hh
          have ew1 : IntKind.i64.wrap ((atK k ks x : Int) + 1) = ((atK k ks x + 1 : Nat) : Int) := wrap64 (by omega) (by omega)
          conv => whnf
          repeat' (first | (refine ifB_t (by assumption) ?_; conv => whnf) | (refine ifB_f (by assumption) ?_; conv => whnf) | (refine ifB_dec (fun h => ?_) (fun h => ?_) <;> (first | (exfalso; omega) | (conv => whnf))) | (refine ifB_eq (fun h => ?_) (fun h => ?_) <;> (first | (exfalso; omega) | (conv => whnf))) | (refine ifB_ne (fun h => ?_) (fun h => ?_) <;> (first | (exfalso; omega) | (conv => whnf))) | (refine ifB_not ?_; conv => whnf) | (refine ifB_and ?_; conv => whnf) | (refine ifB_or ?_; conv => whnf) | (refine And.intro ?_ ?_; (first | (first | omega | assumption | (exact allU_getD (by assumption) _) | (simp only [cutL]; omega) | (refine And.intro ?_ ?_ <;> first | assumption | exact allU_getD (by assumption) _) | (simp only [cutL, IntKind.wrap_u64, IntKind.wrap_i64] at *; omega) | decide) | (show n1 * 8 ≤ 140737488355328; omega)); conv => whnf) | (refine ifB_mk (fun h => ?_) (fun h => ?_) <;> (conv => whnf)))
          all_goals ((obtain ⟨r, hb⟩ : ∃ r, plcD k n ks vs code x v = r := ⟨_, rfl⟩; rw [hb]; rw [plcTT hv hh] at hb; (repeat (first | rw [if_pos (by first | assumption | omega | exact Bool.false_ne_true | exact rfl | (simp only [addN_eq, loN, Nat.zero_add, Nat.mul_one, Nat.zero_mul, Nat.add_zero, Int.toNat_zero] at *; first | assumption | omega))] at hb | rw [if_neg (by first | assumption | omega | exact Bool.false_ne_true | exact rfl | (simp only [addN_eq, loN, Nat.zero_add, Nat.mul_one, Nat.zero_mul, Nat.add_zero, Int.toNat_zero] at *; first | assumption | omega))] at hb)); (try rw [hnx.1 (by assumption)] at hb); (try rw [hnx.2 (by omega)] at hb); subst hb; dsimp only; (try rw [ew1]); (try rw [e0]); (try rw [es]); (try rw [delK_len (by omega)]); (try rw [delK_len (by omega)]); (try rw [insK_len (by omega)]); (try rw [insK_len (by omega)]); (try rw [List.length_set]); (try rw [l1]); (try rw [l2]); repeat' (first | exact trivial | exact rfl | (refine And.intro ?_ ?_) | ((conv => whnf); done) | ((conv => whnf); (first | rfl | (refine congrArg (fun b => T.v (Value.bool b)) ?_; first | rfl | exact (decide_eq_true (by omega)).symm | exact (decide_eq_false (by omega)).symm | exact decide_eq_decide.2 (by omega)) | (refine congrArg (fun b => T.v (Value.int _ b)) ?_; first | rfl | omega) | omega)) | (first | rfl | (refine congrArg (fun b => T.v (Value.bool b)) ?_; first | rfl | exact (decide_eq_true (by omega)).symm | exact (decide_eq_false (by omega)).symm | exact decide_eq_decide.2 (by omega)) | (refine congrArg (fun b => T.v (Value.int _ b)) ?_; first | rfl | omega) | omega)))))
       · have hh : hereK k ks x = false := by unfold hereK; exact decide_eq_false (fun h => h2 h.2)
         rw [show (ks.getD (atK k ks x) 0 == x) = false from beq_eq_false_iff_ne.2 h2]
         (have ew1 : IntKind.i64.wrap ((atK k ks x : Int) + 1) = ((atK k ks x + 1 : Nat) : Int) := wrap64 (by omega) (by omega)
          conv => whnf
          repeat' (first | (refine ifB_t (by assumption) ?_; conv => whnf) | (refine ifB_f (by assumption) ?_; conv => whnf) | (refine ifB_dec (fun h => ?_) (fun h => ?_) <;> (first | (exfalso; omega) | (conv => whnf))) | (refine ifB_eq (fun h => ?_) (fun h => ?_) <;> (first | (exfalso; omega) | (conv => whnf))) | (refine ifB_ne (fun h => ?_) (fun h => ?_) <;> (first | (exfalso; omega) | (conv => whnf))) | (refine ifB_not ?_; conv => whnf) | (refine ifB_and ?_; conv => whnf) | (refine ifB_or ?_; conv => whnf) | (refine And.intro ?_ ?_; (first | (first | omega | assumption | (exact allU_getD (by assumption) _) | (simp only [cutL]; omega) | (refine And.intro ?_ ?_ <;> first | assumption | exact allU_getD (by assumption) _) | (simp only [cutL, IntKind.wrap_u64, IntKind.wrap_i64] at *; omega) | decide) | (show n1 * 8 ≤ 140737488355328; omega)); conv => whnf) | (refine ifB_mk (fun h => ?_) (fun h => ?_) <;> (conv => whnf)))
          all_goals ((obtain ⟨r, hb⟩ : ∃ r, plcD k n ks vs code x v = r := ⟨_, rfl⟩; rw [hb]; rw [plcTF hv hh, nxK_F hh] at hb; (repeat (first | rw [if_pos (by first | assumption | omega | exact Bool.false_ne_true | exact rfl | (simp only [addN_eq, loN, Nat.zero_add, Nat.mul_one, Nat.zero_mul, Nat.add_zero, Int.toNat_zero] at *; first | assumption | omega))] at hb | rw [if_neg (by first | assumption | omega | exact Bool.false_ne_true | exact rfl | (simp only [addN_eq, loN, Nat.zero_add, Nat.mul_one, Nat.zero_mul, Nat.add_zero, Int.toNat_zero] at *; first | assumption | omega))] at hb)); (try rw [hnx.1 (by assumption)] at hb); (try rw [hnx.2 (by omega)] at hb); subst hb; dsimp only; (try rw [ew1]); (try rw [e0]); (try rw [es]); (try rw [delK_len (by omega)]); (try rw [delK_len (by omega)]); (try rw [insK_len (by omega)]); (try rw [insK_len (by omega)]); (try rw [List.length_set]); (try rw [l1]); (try rw [l2]); repeat' (first | exact trivial | exact rfl | (refine And.intro ?_ ?_) | ((conv => whnf); done) | ((conv => whnf); (first | rfl | (refine congrArg (fun b => T.v (Value.bool b)) ?_; first | rfl | exact (decide_eq_true (by omega)).symm | exact (decide_eq_false (by omega)).symm | exact decide_eq_decide.2 (by omega)) | (refine congrArg (fun b => T.v (Value.int _ b)) ?_; first | rfl | omega) | omega)) | (first | rfl | (refine congrArg (fun b => T.v (Value.bool b)) ?_; first | rfl | exact (decide_eq_true (by omega)).symm | exact (decide_eq_false (by omega)).symm | exact decide_eq_decide.2 (by omega)) | (refine congrArg (fun b => T.v (Value.int _ b)) ?_; first | rfl | omega) | omega))))))
    · conv => whnf
      rw [wsucc (n := n1) (by omega) (by omega)]
      exact ⟨j + 1, [], ⟨rfl, rfl, rfl⟩, ⟨(by omega : j + 1 ≤ n1), fun i hi => by
        by_cases e : i = j
        · rw [e]; exact hs
        · exact hl i (by omega)⟩, by (try dsimp only); omega⟩
  · refine ifB_f (decide_eq_false (by omega)) ?_
    have hj2 := hlast (.inl hjn)
    rw [← hj2]
    conv => whnf
    have h1 : ¬ atK k ks x < n1 := by omega
    have hh : hereK k ks x = false := by unfold hereK; exact decide_eq_false (fun h => h1 (by omega))
    refine ifB_f (decide_eq_false (by omega)) ?_
    (have ew1 : IntKind.i64.wrap ((atK k ks x : Int) + 1) = ((atK k ks x + 1 : Nat) : Int) := wrap64 (by omega) (by omega)
     conv => whnf
     repeat' (first | (refine ifB_t (by assumption) ?_; conv => whnf) | (refine ifB_f (by assumption) ?_; conv => whnf) | (refine ifB_dec (fun h => ?_) (fun h => ?_) <;> (first | (exfalso; omega) | (conv => whnf))) | (refine ifB_eq (fun h => ?_) (fun h => ?_) <;> (first | (exfalso; omega) | (conv => whnf))) | (refine ifB_ne (fun h => ?_) (fun h => ?_) <;> (first | (exfalso; omega) | (conv => whnf))) | (refine ifB_not ?_; conv => whnf) | (refine ifB_and ?_; conv => whnf) | (refine ifB_or ?_; conv => whnf) | (refine And.intro ?_ ?_; (first | (first | omega | assumption | (exact allU_getD (by assumption) _) | (simp only [cutL]; omega) | (refine And.intro ?_ ?_ <;> first | assumption | exact allU_getD (by assumption) _) | (simp only [cutL, IntKind.wrap_u64, IntKind.wrap_i64] at *; omega) | decide) | (show n1 * 8 ≤ 140737488355328; omega)); conv => whnf) | (refine ifB_mk (fun h => ?_) (fun h => ?_) <;> (conv => whnf)))
     all_goals ((obtain ⟨r, hb⟩ : ∃ r, plcD k n ks vs code x v = r := ⟨_, rfl⟩; rw [hb]; rw [plcTF hv hh, nxK_F hh] at hb; (repeat (first | rw [if_pos (by first | assumption | omega | exact Bool.false_ne_true | exact rfl | (simp only [addN_eq, loN, Nat.zero_add, Nat.mul_one, Nat.zero_mul, Nat.add_zero, Int.toNat_zero] at *; first | assumption | omega))] at hb | rw [if_neg (by first | assumption | omega | exact Bool.false_ne_true | exact rfl | (simp only [addN_eq, loN, Nat.zero_add, Nat.mul_one, Nat.zero_mul, Nat.add_zero, Int.toNat_zero] at *; first | assumption | omega))] at hb)); (try rw [hnx.1 (by assumption)] at hb); (try rw [hnx.2 (by omega)] at hb); subst hb; dsimp only; (try rw [ew1]); (try rw [e0]); (try rw [es]); (try rw [delK_len (by omega)]); (try rw [delK_len (by omega)]); (try rw [insK_len (by omega)]); (try rw [insK_len (by omega)]); (try rw [List.length_set]); (try rw [l1]); (try rw [l2]); repeat' (first | exact trivial | exact rfl | (refine And.intro ?_ ?_) | ((conv => whnf); done) | ((conv => whnf); (first | rfl | (refine congrArg (fun b => T.v (Value.bool b)) ?_; first | rfl | exact (decide_eq_true (by omega)).symm | exact (decide_eq_false (by omega)).symm | exact decide_eq_decide.2 (by omega)) | (refine congrArg (fun b => T.v (Value.int _ b)) ?_; first | rfl | omega) | omega)) | (first | rfl | (refine congrArg (fun b => T.v (Value.bool b)) ?_; first | rfl | exact (decide_eq_true (by omega)).symm | exact (decide_eq_false (by omega)).symm | exact decide_eq_decide.2 (by omega)) | (refine congrArg (fun b => T.v (Value.int _ b)) ?_; first | rfl | omega) | omega)))))
set_option maxRecDepth 100000 in
set_option maxHeartbeats 2000000 in
theorem doKF_pure (k p n : Int) (n1 : Nat) (ks : List Int) (n2 : Nat) (vs : List Int) (H : TabH k p n n1 ks n2 vs) (hv : valB k = false) (code key v : Int) (uk : U64 key) (uv : U64 v) : Pure Tryz.prog glR 45 [.agg [.v (.int .i64 k), .v (.int .i64 p), .v (.int .i64 n)], ST 0 n1 ks n2 vs 0 [] false, .agg [.v (.int .i64 code), .v (.int .u64 key), .v (.int .u64 v)]]
    (.tup [SO 0 (tabD k n ks vs code key v).1.length (tabD k n ks vs code key v).2.1.length 0 false, .agg [.v (.int .i64 (tabD k n ks vs code key v).2.2.1), .v (.int .u64 (tabD k n ks vs code key v).2.2.2)], .v (.int .i64 0)]) (SH (tabD k n ks vs code key v).1 (tabD k n ks vs code key v).2.1 []) := by
  obtain ⟨hk, hf, hr, l1, l2, ⟨hn1, hn2⟩, u1, u2, hvv⟩ := H
  rw [if_neg (by rw [hv]; exact Bool.false_ne_true)] at hvv
  subst hvv
  have k1 : k ≠ 1 := by omega
  have hkd : keyedB k = true := by unfold keyedB; exact decide_eq_true hk
  have hcn : IntKind.u64.wrap (n1 : Int) = n1 := wrapU (by omega) (by omega)
  refine pure_of (C := ctxKdC Tryz.prog inlKd_ok false) (ctxKdC_good false) Tryz.func45 (c := bodyOf Tryz.f45) (by rfl) (Nat.le_of_ble_eq_true (by rfl)) 4 4 [0, 1, 2, 3, 4, 5, 6, 7, 8, 9, 10, 11, 14, 20, 34, 44] ?_
  conv => whnf
  refine And.intro hf ?_
  conv => whnf
  refine And.intro ⟨⟨hk, u1, by omega, by omega⟩, hr⟩ ?_
  conv => whnf
  refine And.intro ⟨by omega, by omega, by omega⟩ ?_
  conv => whnf
  refine ifB_eq (fun h => absurd h k1) (fun _ => ?_)
  conv => whnf
  refine And.intro hkd ?_
  conv => whnf
  refine ifB_eq (fun h => ?_) (fun h9 => ?_)
  · subst h
    rw [show tabD k n ks vs 9 key v = (ks, vs, 0, (ks.length : Int)) from if_pos rfl]
    conv => whnf
    rw [hcn]
    dsimp only
    rw [l1, l2]
    repeat' (first | exact trivial | exact rfl | (refine And.intro ?_ ?_) | ((conv => whnf); done) | ((conv => whnf); (first | rfl | (refine congrArg (fun b => T.v (Value.bool b)) ?_; first | rfl | exact (decide_eq_true (by omega)).symm | exact (decide_eq_false (by omega)).symm | exact decide_eq_decide.2 (by omega)) | (refine congrArg (fun b => T.v (Value.int _ b)) ?_; first | rfl | omega) | omega)) | (first | rfl | (refine congrArg (fun b => T.v (Value.bool b)) ?_; first | rfl | exact (decide_eq_true (by omega)).symm | exact (decide_eq_false (by omega)).symm | exact decide_eq_decide.2 (by omega)) | (refine congrArg (fun b => T.v (Value.int _ b)) ?_; first | rfl | omega) | omega))
  conv => whnf
  refine And.intro uk ?_
  conv => whnf
  cases hmb : mntB k key
  · rw [show tabD k n ks vs code key v = (ks, vs, 10, 0) by unfold tabD; rw [if_neg h9, if_pos hmb]]
    conv => whnf
    dsimp only
    rw [l1, l2]
    repeat' (first | exact trivial | exact rfl | (refine And.intro ?_ ?_) | ((conv => whnf); done) | ((conv => whnf); (first | rfl | (refine congrArg (fun b => T.v (Value.bool b)) ?_; first | rfl | exact (decide_eq_true (by omega)).symm | exact (decide_eq_false (by omega)).symm | exact decide_eq_decide.2 (by omega)) | (refine congrArg (fun b => T.v (Value.int _ b)) ?_; first | rfl | omega) | omega)) | (first | rfl | (refine congrArg (fun b => T.v (Value.bool b)) ?_; first | rfl | exact (decide_eq_true (by omega)).symm | exact (decide_eq_false (by omega)).symm | exact decide_eq_decide.2 (by omega)) | (refine congrArg (fun b => T.v (Value.int _ b)) ?_; first | rfl | omega) | omega))
  rw [show tabD k n ks vs code key v = plcD k n ks vs code (mntV k key) v by unfold tabD; rw [if_neg h9, hmb, if_neg (by simp)]]
  conv => whnf
  obtain ⟨x, hx⟩ : ∃ x, mntV k key = x := ⟨_, rfl⟩
  have ux : U64 x := by rw [← hx]; unfold mntV; split; exact u64_canon uk; exact uk
  rw [hx]
  have ha := atK_le k ks x
  have e0 : ∀ (l : List Int) (j : Nat), l.getD (0 + addN 0 (j : Int).toNat * (0 + 1)) 0 = l.getD j 0 := fun l j => by simp [addN_eq]
  have es : ∀ (l : List Int) (j : Nat) (y : Int), l.set (0 + addN 0 (j : Int).toNat * (0 + 1) + 0) y = l.set j y := fun l j y => by simp [addN_eq]
  refine TW.loopD (ctxKdC_good false) 4 (base := 839695) (lv := [0, 1, 2, 3, 4, 5, 6, 7, 8, 9, 10, 13, 28, 45]) [10] [] [] (fun j : Nat => [.v (.int .i64 j)]) (fun _ => []) (fun j => j ≤ n1 ∧ ∀ i, i < j → lssK k (ks.getD i 0) x = true) (fun j => n1 - j) ?_
  conv => whnf
  refine ⟨⟨0, ⟨rfl, rfl, rfl⟩, Nat.zero_le _, fun i hi => absurd hi (Nat.not_lt_zero _)⟩, fun j ⟨hj, hl⟩ => ?_⟩
  conv => whnf
  have hlast : (¬ (j < n1) ∨ lssK k (ks.getD j 0) x = false) → atK k ks x = j := fun h => atK_is (by omega) hl (fun h2 => by rcases h with h | h; omega; exact h)
  by_cases hjn : j < n1
  · refine ifB_t (decide_eq_true (by omega)) ?_
    conv => whnf
    refine And.intro (by omega) ?_
    conv => whnf
    rw [e0]
    refine And.intro ⟨allU_getD u1 _, ux⟩ ?_
    conv => whnf
    cases hs : lssK k (ks.getD j 0) x
    · rw [← hlast (.inr hs)]
      conv => whnf
      (have h1 : atK k ks x < n1 := by have := hlast (.inr hs); omega
       refine ifB_t (decide_eq_true (by omega)) ?_
       conv => whnf
       refine And.intro (by omega) ?_
       conv => whnf
       rw [e0]
       by_cases h2 : ks.getD (atK k ks x) 0 = x
       · have hh : hereK k ks x = true := by unfold hereK; exact decide_eq_true ⟨by omega, h2⟩
         rw [show (ks.getD (atK k ks x) 0 == x) = true from beq_iff_eq.2 h2]
         (have hnx := nxK_T (v := v) hh
          have ew1 : IntKind.i64.wrap ((atK k ks x : Int) + 1) = ((atK k ks x + 1 : Nat) : Int) := wrap64 (by omega) (by omega)
          conv => whnf
          repeat' (first | (refine ifB_t (by assumption) ?_; conv => whnf) | (refine ifB_f (by assumption) ?_; conv => whnf) | (refine ifB_dec (fun h => ?_) (fun h => ?_) <;> (first | (exfalso; omega) | (conv => whnf))) | (refine ifB_eq (fun h => ?_) (fun h => ?_) <;> (first | (exfalso; omega) | (conv => whnf))) | (refine ifB_ne (fun h => ?_) (fun h => ?_) <;> (first | (exfalso; omega) | (conv => whnf))) | (refine ifB_not ?_; conv => whnf) | (refine ifB_and ?_; conv => whnf) | (refine ifB_or ?_; conv => whnf) | (refine And.intro ?_ ?_; (first | (first | omega | assumption | (exact allU_getD (by assumption) _) | (simp only [cutL]; omega) | (refine And.intro ?_ ?_ <;> first | assumption | exact allU_getD (by assumption) _) | (simp only [cutL, IntKind.wrap_u64, IntKind.wrap_i64] at *; omega) | decide) | (show n1 * 8 ≤ 140737488355328; omega)); conv => whnf) | (refine ifB_mk (fun h => ?_) (fun h => ?_) <;> (conv => whnf)))
          all_goals ((obtain ⟨r, hb⟩ : ∃ r, plcD k n ks vs code x v = r := ⟨_, rfl⟩; rw [hb]; rw [plcFT hv hh] at hb; (repeat (first | rw [if_pos (by first | assumption | omega | exact Bool.false_ne_true | exact rfl | (simp only [addN_eq, loN, Nat.zero_add, Nat.mul_one, Nat.zero_mul, Nat.add_zero, Int.toNat_zero] at *; first | assumption | omega))] at hb | rw [if_neg (by first | assumption | omega | exact Bool.false_ne_true | exact rfl | (simp only [addN_eq, loN, Nat.zero_add, Nat.mul_one, Nat.zero_mul, Nat.add_zero, Int.toNat_zero] at *; first | assumption | omega))] at hb)); (try rw [hnx.1 (by assumption)] at hb); (try rw [hnx.2 (by omega)] at hb); subst hb; dsimp only; (try rw [ew1]); (try rw [e0]); (try rw [es]); (try rw [delK_len (by omega)]); (try rw [delK_len (by omega)]); (try rw [insK_len (by omega)]); (try rw [insK_len (by omega)]); (try rw [List.length_set]); (try rw [l1]); (try rw [l2]); repeat' (first | exact trivial | exact rfl | (refine And.intro ?_ ?_) | ((conv => whnf); done) | ((conv => whnf); (first | rfl | (refine congrArg (fun b => T.v (Value.bool b)) ?_; first | rfl | exact (decide_eq_true (by omega)).symm | exact (decide_eq_false (by omega)).symm | exact decide_eq_decide.2 (by omega)) | (refine congrArg (fun b => T.v (Value.int _ b)) ?_; first | rfl | omega) | omega)) | (first | rfl | (refine congrArg (fun b => T.v (Value.bool b)) ?_; first | rfl | exact (decide_eq_true (by omega)).symm | exact (decide_eq_false (by omega)).symm | exact decide_eq_decide.2 (by omega)) | (refine congrArg (fun b => T.v (Value.int _ b)) ?_; first | rfl | omega) | omega)))))
       · have hh : hereK k ks x = false := by unfold hereK; exact decide_eq_false (fun h => h2 h.2)
         rw [show (ks.getD (atK k ks x) 0 == x) = false from beq_eq_false_iff_ne.2 h2]
         (have ew1 : IntKind.i64.wrap ((atK k ks x : Int) + 1) = ((atK k ks x + 1 : Nat) : Int) := wrap64 (by omega) (by omega)
          conv => whnf
          repeat' (first | (refine ifB_t (by assumption) ?_; conv => whnf) | (refine ifB_f (by assumption) ?_; conv => whnf) | (refine ifB_dec (fun h => ?_) (fun h => ?_) <;> (first | (exfalso; omega) | (conv => whnf))) | (refine ifB_eq (fun h => ?_) (fun h => ?_) <;> (first | (exfalso; omega) | (conv => whnf))) | (refine ifB_ne (fun h => ?_) (fun h => ?_) <;> (first | (exfalso; omega) | (conv => whnf))) | (refine ifB_not ?_; conv => whnf) | (refine ifB_and ?_; conv => whnf) | (refine ifB_or ?_; conv => whnf) | (refine And.intro ?_ ?_; (first | (first | omega | assumption | (exact allU_getD (by assumption) _) | (simp only [cutL]; omega) | (refine And.intro ?_ ?_ <;> first | assumption | exact allU_getD (by assumption) _) | (simp only [cutL, IntKind.wrap_u64, IntKind.wrap_i64] at *; omega) | decide) | (show n1 * 8 ≤ 140737488355328; omega)); conv => whnf) | (refine ifB_mk (fun h => ?_) (fun h => ?_) <;> (conv => whnf)))
          all_goals ((obtain ⟨r, hb⟩ : ∃ r, plcD k n ks vs code x v = r := ⟨_, rfl⟩; rw [hb]; rw [plcFF hv hh, nxK_F hh] at hb; (repeat (first | rw [if_pos (by first | assumption | omega | exact Bool.false_ne_true | exact rfl | (simp only [addN_eq, loN, Nat.zero_add, Nat.mul_one, Nat.zero_mul, Nat.add_zero, Int.toNat_zero] at *; first | assumption | omega))] at hb | rw [if_neg (by first | assumption | omega | exact Bool.false_ne_true | exact rfl | (simp only [addN_eq, loN, Nat.zero_add, Nat.mul_one, Nat.zero_mul, Nat.add_zero, Int.toNat_zero] at *; first | assumption | omega))] at hb)); (try rw [hnx.1 (by assumption)] at hb); (try rw [hnx.2 (by omega)] at hb); subst hb; dsimp only; (try rw [ew1]); (try rw [e0]); (try rw [es]); (try rw [delK_len (by omega)]); (try rw [delK_len (by omega)]); (try rw [insK_len (by omega)]); (try rw [insK_len (by omega)]); (try rw [List.length_set]); (try rw [l1]); (try rw [l2]); repeat' (first | exact trivial | exact rfl | (refine And.intro ?_ ?_) | ((conv => whnf); done) | ((conv => whnf); (first | rfl | (refine congrArg (fun b => T.v (Value.bool b)) ?_; first | rfl | exact (decide_eq_true (by omega)).symm | exact (decide_eq_false (by omega)).symm | exact decide_eq_decide.2 (by omega)) | (refine congrArg (fun b => T.v (Value.int _ b)) ?_; first | rfl | omega) | omega)) | (first | rfl | (refine congrArg (fun b => T.v (Value.bool b)) ?_; first | rfl | exact (decide_eq_true (by omega)).symm | exact (decide_eq_false (by omega)).symm | exact decide_eq_decide.2 (by omega)) | (refine congrArg (fun b => T.v (Value.int _ b)) ?_; first | rfl | omega) | omega))))))
    · conv => whnf
      rw [wsucc (n := n1) (by omega) (by omega)]
      exact ⟨j + 1, [], ⟨rfl, rfl, rfl⟩, ⟨(by omega : j + 1 ≤ n1), fun i hi => by
        by_cases e : i = j
        · rw [e]; exact hs
        · exact hl i (by omega)⟩, by (try dsimp only); omega⟩
  · refine ifB_f (decide_eq_false (by omega)) ?_
    have hj2 := hlast (.inl hjn)
    rw [← hj2]
    conv => whnf
    have h1 : ¬ atK k ks x < n1 := by omega
    have hh : hereK k ks x = false := by unfold hereK; exact decide_eq_false (fun h => h1 (by omega))
    refine ifB_f (decide_eq_false (by omega)) ?_
    (have ew1 : IntKind.i64.wrap ((atK k ks x : Int) + 1) = ((atK k ks x + 1 : Nat) : Int) := wrap64 (by omega) (by omega)
     conv => whnf
     repeat' (first | (refine ifB_t (by assumption) ?_; conv => whnf) | (refine ifB_f (by assumption) ?_; conv => whnf) | (refine ifB_dec (fun h => ?_) (fun h => ?_) <;> (first | (exfalso; omega) | (conv => whnf))) | (refine ifB_eq (fun h => ?_) (fun h => ?_) <;> (first | (exfalso; omega) | (conv => whnf))) | (refine ifB_ne (fun h => ?_) (fun h => ?_) <;> (first | (exfalso; omega) | (conv => whnf))) | (refine ifB_not ?_; conv => whnf) | (refine ifB_and ?_; conv => whnf) | (refine ifB_or ?_; conv => whnf) | (refine And.intro ?_ ?_; (first | (first | omega | assumption | (exact allU_getD (by assumption) _) | (simp only [cutL]; omega) | (refine And.intro ?_ ?_ <;> first | assumption | exact allU_getD (by assumption) _) | (simp only [cutL, IntKind.wrap_u64, IntKind.wrap_i64] at *; omega) | decide) | (show n1 * 8 ≤ 140737488355328; omega)); conv => whnf) | (refine ifB_mk (fun h => ?_) (fun h => ?_) <;> (conv => whnf)))
     all_goals ((obtain ⟨r, hb⟩ : ∃ r, plcD k n ks vs code x v = r := ⟨_, rfl⟩; rw [hb]; rw [plcFF hv hh, nxK_F hh] at hb; (repeat (first | rw [if_pos (by first | assumption | omega | exact Bool.false_ne_true | exact rfl | (simp only [addN_eq, loN, Nat.zero_add, Nat.mul_one, Nat.zero_mul, Nat.add_zero, Int.toNat_zero] at *; first | assumption | omega))] at hb | rw [if_neg (by first | assumption | omega | exact Bool.false_ne_true | exact rfl | (simp only [addN_eq, loN, Nat.zero_add, Nat.mul_one, Nat.zero_mul, Nat.add_zero, Int.toNat_zero] at *; first | assumption | omega))] at hb)); (try rw [hnx.1 (by assumption)] at hb); (try rw [hnx.2 (by omega)] at hb); subst hb; dsimp only; (try rw [ew1]); (try rw [e0]); (try rw [es]); (try rw [delK_len (by omega)]); (try rw [delK_len (by omega)]); (try rw [insK_len (by omega)]); (try rw [insK_len (by omega)]); (try rw [List.length_set]); (try rw [l1]); (try rw [l2]); repeat' (first | exact trivial | exact rfl | (refine And.intro ?_ ?_) | ((conv => whnf); done) | ((conv => whnf); (first | rfl | (refine congrArg (fun b => T.v (Value.bool b)) ?_; first | rfl | exact (decide_eq_true (by omega)).symm | exact (decide_eq_false (by omega)).symm | exact decide_eq_decide.2 (by omega)) | (refine congrArg (fun b => T.v (Value.int _ b)) ?_; first | rfl | omega) | omega)) | (first | rfl | (refine congrArg (fun b => T.v (Value.bool b)) ?_; first | rfl | exact (decide_eq_true (by omega)).symm | exact (decide_eq_false (by omega)).symm | exact decide_eq_decide.2 (by omega)) | (refine congrArg (fun b => T.v (Value.int _ b)) ?_; first | rfl | omega) | omega)))))
end Go.Proofs.YtnplgklnkcjmnaaGreatDoor
namespace Go.Proofs.YtnplgklnkcjmnaaGreatDoor
open Go.RowKit Go.Proofs.YtnplgklnkcjmnaaGreatDoor.Am
set_option linter.unusedVariables false
set_option linter.unusedSimpArgs false

/-- By what keys are put in order. -/
def rkK (k x : Int) : Int := if k = 4 then iRank x else x
theorem lssK_rk (k a b : Int) : lssK k a b = decide (rkK k a < rkK k b) := by unfold lssK rkK bLess; split <;> rfl
theorem mntV2 (k x : Int) : mntV k (mntV k x) = mntV k x := by unfold mntV; split; exact p_canon2 x; rfl
theorem rkK_inj {k a b : Int} (ha : U64 a) (hb : U64 b) (ca : mntV k a = a) (cb : mntV k b = b) (h : rkK k a = rkK k b) : a = b := by
  unfold rkK at h; unfold mntV at ca cb
  split at h
  · rename_i e
    rw [if_pos e] at ca cb
    rw [← ca, ← cb]; exact (p_rank_inj ha hb).1 h
  · exact h
theorem mntB_mnt {k x : Int} (h : mntB k x = true) : mntB k (mntV k x) = true := by
  unfold mntB mntV at *
  split
  · rfl
  · rename_i e; rw [if_neg e] at h; exact h
theorem u64_mnt {k x : Int} (h : U64 x) : U64 (mntV k x) := by unfold mntV; split; exact u64_canon h; exact h
/-- Keys and values that are right. -/
structure TabV (k : Int) (m : Nat) (ks vs : List Int) : Prop where
  len : ks.length ≤ m
  vlen : vs.length = if valB k = true then ks.length else 0
  u1 : AllU ks
  u2 : AllU vs
  mn : ∀ i, i < ks.length → mntB k (ks.getD i 0) = true ∧ mntV k (ks.getD i 0) = ks.getD i 0
  inc : ∀ i, i + 1 < ks.length → rkK k (ks.getD i 0) < rkK k (ks.getD (i + 1) 0)
section
variable {k : Int} {m : Nat} {ks vs : List Int}
theorem TabV.lt (h : TabV k m ks vs) {i j : Nat} (hij : i < j) (hj : j < ks.length) : rkK k (ks.getD i 0) < rkK k (ks.getD j 0) := by
  induction j with
  | zero => omega
  | succ j ih =>
    have h1 := h.inc j hj
    by_cases e : i = j
    · subst e; exact h1
    · have := ih (by omega) (by omega); omega
theorem okKs_of (h : TabV k m ks vs) : ∀ n, n ≤ ks.length → okKs k ks n = true
  | 0, _ => rfl
  | n + 1, hn => by
    simp only [okKs, okKs_of h n (by omega), (h.mn n (by omega)).1, (h.mn n (by omega)).2, decide_true, Bool.true_and]
    by_cases e : n = 0
    · simp [e]
    · rw [decide_eq_false e, Bool.false_or, lssK_rk]
      have := h.inc (n - 1) (by omega)
      rw [show n - 1 + 1 = n by omega] at this
      exact decide_eq_true this
theorem TabV.right (h : TabV k m ks vs) {p : Int} (hf : fitsB k p m = true) : rightT k p m 0 ks vs [] false = true := by
  have hl := h.len
  unfold rightT keysOk
  rw [hf, okKs_of h _ (Nat.le_refl _), decide_eq_true (show (ks.length : Int) ≤ m by omega)]
  have := h.vlen
  cases hv : valB k
  · rw [hv] at this; simp at this; simp [this]
  · rw [hv] at this; simp at this; simp [this]
theorem insK_at {l : List Int} {a : Nat} {w : Int} (h : a ≤ l.length) (i : Nat) : (insK l a w).getD i 0 = if i < a then l.getD i 0 else if i = a then w else l.getD (i - 1) 0 := by
  unfold insK
  rw [List.getD_eq_getElem?_getD]
  by_cases h1 : i < a
  · rw [if_pos h1, List.getElem?_append_left (by simp; omega), List.getElem?_take_of_lt h1, ← List.getD_eq_getElem?_getD]
  · rw [if_neg h1, List.getElem?_append_right (by simp; omega), List.length_take, Nat.min_eq_left h]
    by_cases h2 : i = a
    · rw [if_pos h2, h2, Nat.sub_self]; rfl
    · rw [if_neg h2, show i - a = (i - 1 - a) + 1 by omega, List.getElem?_cons_succ, List.getElem?_drop, show a + (i - 1 - a) = i - 1 by omega, ← List.getD_eq_getElem?_getD]
theorem delK_at {l : List Int} {a : Nat} (h : a < l.length) (i : Nat) : (delK l a).getD i 0 = if i < a then l.getD i 0 else l.getD (i + 1) 0 := by
  unfold delK
  rw [List.getD_eq_getElem?_getD]
  by_cases h1 : i < a
  · rw [if_pos h1, List.getElem?_append_left (by simp; omega), List.getElem?_take_of_lt h1, ← List.getD_eq_getElem?_getD]
  · rw [if_neg h1, List.getElem?_append_right (by simp; omega), List.length_take, Nat.min_eq_left (by omega), List.getElem?_drop, show a + 1 + (i - a) = i + 1 by omega, ← List.getD_eq_getElem?_getD]
theorem allU_insK {l : List Int} {a : Nat} {w : Int} (h : AllU l) (hw : U64 w) : AllU (insK l a w) := by
  intro x hx
  unfold insK at hx
  rcases List.mem_append.1 hx with hx | hx
  · exact h x (List.mem_of_mem_take hx)
  · rcases List.mem_cons.1 hx with rfl | hx
    · exact hw
    · exact h x (List.mem_of_mem_drop hx)
theorem allU_delK {l : List Int} {a : Nat} (h : AllU l) : AllU (delK l a) := by
  intro x hx
  unfold delK at hx
  rcases List.mem_append.1 hx with hx | hx
  · exact h x (List.mem_of_mem_take hx)
  · exact h x (List.mem_of_mem_drop hx)
theorem atK_lo {x : Int} {i : Nat} (h : i < atK k ks x) : rkK k (ks.getD i 0) < rkK k x := by
  have h3 := List.not_of_lt_findIdx (xs := ks) (p := fun y => !lssK k y x) h
  have hl := atK_le k ks x
  have hg : ks[i]'(by omega) = ks.getD i 0 := by rw [List.getD_eq_getElem?_getD, List.getElem?_eq_getElem (by omega)]; rfl
  have h4 : (!lssK k (ks[i]'(by omega)) x) = false := by simpa using h3
  rw [hg, lssK_rk] at h4
  simpa using h4
theorem atK_hi (h : TabV k m ks vs) {x : Int} {i : Nat} (h1 : atK k ks x ≤ i) (h2 : i < ks.length) : rkK k x ≤ rkK k (ks.getD i 0) := by
  have hl : atK k ks x < ks.length := by omega
  have h3 := List.findIdx_getElem (xs := ks) (p := fun y => !lssK k y x) (w := hl)
  have h5 : (!lssK k (ks[atK k ks x]'hl) x) = true := h3
  have hg : ks[atK k ks x]'hl = ks.getD (atK k ks x) 0 := by rw [List.getD_eq_getElem?_getD, List.getElem?_eq_getElem hl]; rfl
  rw [hg, lssK_rk] at h5
  have h6 : ¬ rkK k (ks.getD (atK k ks x) 0) < rkK k x := by simpa using h5
  by_cases e : atK k ks x = i
  · rw [e] at h6; omega
  · have := h.lt (i := atK k ks x) (j := i) (by omega) h2; omega
theorem atK_gt (h : TabV k m ks vs) {x : Int} (hx : U64 x) (cx : mntV k x = x) (hno : hereK k ks x = false) {i : Nat} (h1 : atK k ks x ≤ i) (h2 : i < ks.length) : rkK k x < rkK k (ks.getD i 0) := by
  have h3 := atK_hi h h1 h2
  have hl : atK k ks x < ks.length := by omega
  have h4 := atK_hi h (Nat.le_refl (atK k ks x)) hl
  have h5 : rkK k x ≠ rkK k (ks.getD (atK k ks x) 0) := fun e => by
    have := rkK_inj (k := k) hx (allU_getD h.u1 _) cx (h.mn _ hl).2 e
    unfold hereK at hno
    exact of_decide_eq_false hno ⟨hl, this.symm⟩
  by_cases e : atK k ks x = i
  · rw [e] at h5 h4; omega
  · have := h.lt (i := atK k ks x) (j := i) (by omega) h2; omega
theorem hereK_t {x : Int} (h : hereK k ks x = true) : atK k ks x < ks.length ∧ ks.getD (atK k ks x) 0 = x := by unfold hereK at h; exact of_decide_eq_true h
theorem TabV.ins (h : TabV k m ks vs) {x : Int} (hx : U64 x) (bx : mntB k x = true) (cx : mntV k x = x) (hno : hereK k ks x = false) (hm : ks.length < m) {vs' : List Int} (hv : vs'.length = if valB k = true then ks.length + 1 else 0) (hu : AllU vs') : TabV k m (insK ks (atK k ks x) x) vs' := by
  have ha := atK_le k ks x
  refine ⟨by rw [insK_len ha]; omega, by rw [insK_len ha]; exact hv, allU_insK h.u1 hx, hu, fun i hi => ?_, fun i hi => ?_⟩
  · rw [insK_len ha] at hi
    rw [insK_at ha]
    split
    · exact h.mn i (by omega)
    · split
      · exact ⟨bx, cx⟩
      · exact h.mn (i - 1) (by omega)
  · rw [insK_len ha] at hi
    rw [insK_at ha, insK_at ha]
    by_cases c1 : i + 1 < atK k ks x
    · rw [if_pos (by omega), if_pos c1]; exact h.inc i (by omega)
    · by_cases c2 : i + 1 = atK k ks x
      · rw [if_pos (by omega), if_neg (by omega), if_pos c2]; exact atK_lo (by omega)
      · by_cases c3 : i = atK k ks x
        · rw [if_neg (by omega), if_pos c3, if_neg (by omega), if_neg (by omega), Nat.add_sub_cancel]; exact atK_gt h hx cx hno (by omega) (by omega)
        · rw [if_neg (by omega), if_neg c3, if_neg (by omega), if_neg (by omega), Nat.add_sub_cancel]
          have := h.inc (i - 1) (by omega)
          rwa [show i - 1 + 1 = i by omega] at this
theorem TabV.del (h : TabV k m ks vs) {a : Nat} (ha : a < ks.length) {vs' : List Int} (hv : vs'.length = if valB k = true then ks.length - 1 else 0) (hu : AllU vs') : TabV k m (delK ks a) vs' := by
  have hl := h.len
  refine ⟨by rw [delK_len ha]; omega, by rw [delK_len ha]; exact hv, allU_delK h.u1, hu, fun i hi => ?_, fun i hi => ?_⟩
  · rw [delK_len ha] at hi
    rw [delK_at ha]
    split
    · exact h.mn i (by omega)
    · exact h.mn (i + 1) (by omega)
  · rw [delK_len ha] at hi
    rw [delK_at ha, delK_at ha]
    by_cases c1 : i + 1 < a
    · rw [if_pos (by omega), if_pos c1]; exact h.inc i (by omega)
    · by_cases c2 : i < a
      · rw [if_pos c2, if_neg (by omega)]; exact h.lt (by omega) (by omega)
      · rw [if_neg c2, if_neg (by omega)]; exact h.inc (i + 1) (by omega)
theorem plcD_v (h : TabV k m ks vs) {x v code : Int} (hx : U64 x) (hv : U64 v) (bx : mntB k x = true) (cx : mntV k x = x) : TabV k m (plcD k m ks vs code x v).1 (plcD k m ks vs code x v).2.1 := by
  have hl := h.len
  have hvl := h.vlen
  have ha := atK_le k ks x
  cases hb : valB k <;> cases hh : hereK k ks x <;> rw [hb] at hvl <;> simp only [if_true, Bool.false_eq_true, if_false] at hvl
  · rw [plcFF hb hh]
    repeat' split
    all_goals first | exact h | skip
    rename_i hne
    exact h.ins hx bx cx hh (by omega) (by rw [hb]; simpa using hvl) h.u2
  · rw [plcFT hb hh]
    repeat' split
    all_goals first | exact h | exact h.del (hereK_t hh).1 (by rw [hb]; simpa using hvl) h.u2
  · rw [plcTF hb hh]
    repeat' split
    all_goals first | exact h | skip
    rename_i hne
    exact h.ins hx bx cx hh (by omega) (by rw [hb, insK_len (by omega)]; simp; omega) (allU_insK h.u2 hv)
  · have hat := (hereK_t hh).1
    rw [plcTT hb hh]
    repeat' split
    all_goals first | exact h | exact h.del hat (by rw [hb, delK_len (by omega)]; simp; omega) (allU_delK h.u2) | exact ⟨h.len, by rw [List.length_set, hb]; simpa using hvl, h.u1, allU_set h.u2 _ hv, h.mn, h.inc⟩
theorem tabD_v (h : TabV k m ks vs) {key v code : Int} (hk : U64 key) (hv : U64 v) : TabV k m (tabD k m ks vs code key v).1 (tabD k m ks vs code key v).2.1 := by
  unfold tabD
  split
  · exact h
  · split
    · exact h
    · rename_i hb
      exact plcD_v h (u64_mnt hk) hv (mntB_mnt (by simpa using hb)) (mntV2 _ _)
end
theorem tabV_nil (k : Int) (m : Nat) : TabV k m [] [] := ⟨Nat.zero_le _, by split <;> rfl, (fun x hx => by cases hx), (fun x hx => by cases hx), (fun i hi => by cases hi), fun i hi => by cases hi⟩
theorem TabV.tabH {k p : Int} {m n1 n2 : Nat} {ks vs : List Int} (h : TabV k m ks vs) (hk : k = 2 ∨ k = 3 ∨ k = 4) (hf : fitsB k p m = true) (hm : m ≤ 256) (l1 : ks.length = n1) (l2 : vs.length = n2) : TabH k p m n1 ks n2 vs :=
  ⟨hk, hf, h.right hf, l1, l2, by have := h.len; omega, h.u1, h.u2, by rw [← l2, ← l1]; exact h.vlen⟩
theorem fitsK {k p m : Int} (h : fitsB k p m = true) : 1 ≤ k ∧ k ≤ 5 ∧ 1 ≤ p ∧ p ≤ 16 ∧ 1 ≤ m ∧ m ≤ 256 := by unfold fitsB at h; exact of_decide_eq_true h
/-- Do, of what has keys, in a state that is right. -/
theorem doK_pure {k p : Int} {m n1 n2 : Nat} {ks vs : List Int} (h : TabV k m ks vs) (hk : k = 2 ∨ k = 3 ∨ k = 4) (hf : fitsB k p m = true) (l1 : ks.length = n1) (l2 : vs.length = n2) (code key v : Int) (uk : U64 key) (uv : U64 v) : Pure Tryz.prog glR 45 [.agg [.v (.int .i64 k), .v (.int .i64 p), .v (.int .i64 m)], ST 0 n1 ks n2 vs 0 [] false, .agg [.v (.int .i64 code), .v (.int .u64 key), .v (.int .u64 v)]]
    (.tup [SO 0 (tabD k m ks vs code key v).1.length (tabD k m ks vs code key v).2.1.length 0 false, .agg [.v (.int .i64 (tabD k m ks vs code key v).2.2.1), .v (.int .u64 (tabD k m ks vs code key v).2.2.2)], .v (.int .i64 0)]) (SH (tabD k m ks vs code key v).1 (tabD k m ks vs code key v).2.1 []) := by
  have := fitsK hf
  have H := h.tabH hk hf (by omega) l1 l2
  cases hv : valB k
  · exact doKF_pure _ _ _ _ _ _ _ H hv _ _ _ uk uv
  · exact doKT_pure _ _ _ _ _ _ _ H hv _ _ _ uk uv
def eDoK : Entry := ⟨45, 3, fun l => match l.map fixS with
  | [.agg [.v (.int .i64 k), .v (.int .i64 p), .v (.int .i64 n)], .agg [.v (.int .u64 r), .fl [.u64] n1 ks, .fl [.u64] n2 vs, .fl [.i64] n3 ws, .v (.bool c)], .agg [.v (.int .i64 code), .v (.int .u64 key), .v (.int .u64 v)]] =>
    some (some ((k = 2 ∨ k = 3 ∨ k = 4) ∧ fitsB k p n = true ∧ TabV k n.toNat ks vs ∧ (r = 0 ∧ ws = [] ∧ c = false) ∧ U64 key ∧ U64 v), .tup [SO 0 (tabD k n ks vs code key v).1.length (tabD k n ks vs code key v).2.1.length 0 false, .agg [.v (.int .i64 (tabD k n ks vs code key v).2.2.1), .v (.int .u64 (tabD k n ks vs code key v).2.2.2)], .v (.int .i64 0)], SH (tabD k n ks vs code key v).1 (tabD k n ks vs code key v).2.1 [])
  | _ => none⟩
theorem eDoK_ok : eDoK.ok Tryz.prog glR := ⟨Am.enters_of Tryz.func45 (by kernel_rfl) (by kernel_rfl), by
  intro args c t bs h hc
  simp only [eDoK] at h
  split at h <;> cases h
  rename_i k p n r n1 ks n2 vs n3 ws c code key v heq
  obtain ⟨hk, hf, hv, ⟨rfl, rfl, rfl⟩, uk, uv⟩ := hc _ rfl
  have hm := fitsK hf
  obtain ⟨m, rfl⟩ := Int.eq_ofNat_of_zero_le (a := n) (by omega)
  rw [Int.toNat_natCast] at hv
  refine pure_fixS ?_
  rw [heq]
  refine pure_wf fun hw => ?_
  obtain ⟨-, ⟨-, ⟨w1, -⟩, ⟨w2, -⟩, ⟨w3, -⟩, -, -⟩, -⟩ := hw
  simp only [List.length_cons, List.length_nil, Nat.zero_add, Nat.mul_one] at w1 w2 w3
  subst w3
  exact doK_pure hv hk hf w1 w2 _ _ _ uk uv⟩
end Go.Proofs.YtnplgklnkcjmnaaGreatDoor
namespace Go.Proofs.YtnplgklnkcjmnaaGreatDoor.PrT
open Go.RowKit Go.Proofs.YtnplgklnkcjmnaaGreatDoor.Am Go.Proofs.YtnplgklnkcjmnaaGreatDoor
set_option linter.unusedVariables false
set_option linter.unusedSimpArgs false
/-- The records of keys and values. -/
def rsK (v : Nat) (ks vs : List Int) : List R := (List.range ks.length).map fun i => (ks.getD i 0 + 1, if v = 1 then 0 else vs.getD i 0)
theorem rsK_len (v : Nat) (ks vs : List Int) : (rsK v ks vs).length = ks.length := by simp [rsK]
theorem rsK_get (v : Nat) (ks vs : List Int) {i : Nat} (h : i < ks.length) : gR (rsK v ks vs) i = (ks.getD i 0 + 1, if v = 1 then 0 else vs.getD i 0) := by
  unfold gR rsK; rw [List.getD_eq_getElem?_getD, List.getElem?_map, List.getElem?_range h]; rfl
theorem rsK_mem (v : Nat) (ks vs : List Int) (x : R) : x ∈ rsK v ks vs ↔ ∃ i, i < ks.length ∧ x = (ks.getD i 0 + 1, if v = 1 then 0 else vs.getD i 0) := by
  unfold rsK
  rw [List.mem_map]
  constructor
  · rintro ⟨i, h, rfl⟩; exact ⟨i, List.mem_range.1 h, rfl⟩
  · rintro ⟨i, h, rfl⟩; exact ⟨i, List.mem_range.2 h, rfl⟩
/-- Which kinds have which slots. -/
def KV (v : Nat) (k : Int) : Prop := (v = 1 ∧ k = 2) ∨ (v = 2 ∧ k = 3)
theorem KV.v {v : Nat} {k : Int} (h : KV v k) : v = 1 ∨ v = 2 := by rcases h with ⟨h, -⟩ | ⟨h, -⟩ <;> omega
theorem KV.n4 {v : Nat} {k : Int} (h : KV v k) : k ≠ 4 := by rcases h with ⟨-, h⟩ | ⟨-, h⟩ <;> omega
theorem KV.val {v : Nat} {k : Int} (h : KV v k) : valB k = decide (v = 2) := by rcases h with ⟨rfl, rfl⟩ | ⟨rfl, rfl⟩ <;> rfl
theorem KV.rk {v : Nat} {k : Int} (h : KV v k) (x : Int) : rkK k x = x := by unfold rkK; rw [if_neg h.n4]
theorem KV.mv {v : Nat} {k : Int} (h : KV v k) (x : Int) : mntV k x = x := by unfold mntV; rw [if_neg h.n4]
theorem KV.mb {v : Nat} {k : Int} (h : KV v k) (x : Int) : mntB k x = decide (x ≤ 4611686018427387904) := by unfold mntB; rw [if_neg h.n4]
theorem KV.kd {v : Nat} {k : Int} (h : KV v k) : k = 2 ∨ k = 3 ∨ k = 4 := by rcases h with ⟨-, h⟩ | ⟨-, h⟩ <;> omega
section
variable {v m : Nat} {k : Int} {ks vs : List Int}
theorem _root_.Go.Proofs.YtnplgklnkcjmnaaGreatDoor.TabV.k_u (h : TabV k m ks vs) (hk : KV v k) {i : Nat} (hi : i < ks.length) : 0 ≤ ks.getD i 0 ∧ ks.getD i 0 ≤ 4611686018427387904 := by
  have h1 := (h.mn i hi).1
  rw [hk.mb] at h1
  exact ⟨(h.u1.at hi).1, of_decide_eq_true h1⟩
theorem _root_.Go.Proofs.YtnplgklnkcjmnaaGreatDoor.TabV.k_lt (h : TabV k m ks vs) (hk : KV v k) {i j : Nat} (hij : i < j) (hj : j < ks.length) : ks.getD i 0 < ks.getD j 0 := by
  have := h.lt hij hj
  rwa [hk.rk, hk.rk] at this
theorem _root_.Go.Proofs.YtnplgklnkcjmnaaGreatDoor.TabV.k_inj (h : TabV k m ks vs) (hk : KV v k) {i j : Nat} (hi : i < ks.length) (hj : j < ks.length) (e : ks.getD i 0 = ks.getD j 0) : i = j := by
  rcases Nat.lt_trichotomy i j with q | q | q
  · have := h.k_lt hk q hj; omega
  · exact q
  · have := h.k_lt hk q hi; omega
theorem _root_.Go.Proofs.YtnplgklnkcjmnaaGreatDoor.TabV.sorted (h : TabV k m ks vs) (hk : KV v k) : (rsK v ks vs).Pairwise fun a b => a.1 < b.1 := by
  rw [List.pairwise_iff_getElem]
  intro i j hi hj hij
  rw [rsK_len] at hi hj
  have e : ∀ q (hq : q < (rsK v ks vs).length), (rsK v ks vs)[q] = gR (rsK v ks vs) q := fun q hq => by
    unfold gR; rw [List.getD_eq_getElem?_getD, List.getElem?_eq_getElem hq]; rfl
  rw [e, e, rsK_get v ks vs hi, rsK_get v ks vs hj]
  have := h.k_lt hk hij hj
  dsimp only; omega
theorem _root_.Go.Proofs.YtnplgklnkcjmnaaGreatDoor.TabV.recs (h : TabV k m ks vs) (hk : KV v k) : Recs sP (rsK v ks vs) := by
  refine ⟨fun r hr => ?_, fun r hr => ?_, (h.sorted hk).imp fun h => by omega⟩
  · obtain ⟨i, hi, rfl⟩ := (rsK_mem _ _ _ _).1 hr
    have := h.k_u hk hi
    rw [sP_U]; unfold U64; dsimp only; omega
  · obtain ⟨i, hi, rfl⟩ := (rsK_mem _ _ _ _).1 hr
    have := h.k_u hk hi
    dsimp only; omega
theorem _root_.Go.Proofs.YtnplgklnkcjmnaaGreatDoor.TabV.nv (h : TabV k m ks vs) : v = 1 → ∀ r ∈ rsK v ks vs, r.2 = 0 := by
  rintro rfl r hr
  obtain ⟨i, hi, rfl⟩ := (rsK_mem _ _ _ _).1 hr
  rfl
theorem _root_.Go.Proofs.YtnplgklnkcjmnaaGreatDoor.TabV.vu (h : TabV k m ks vs) : ∀ r ∈ rsK v ks vs, U64 r.2 := by
  intro r hr
  obtain ⟨i, hi, rfl⟩ := (rsK_mem _ _ _ _).1 hr
  dsimp only
  split
  · exact ⟨by decide, by decide⟩
  · exact allU_getD h.u2 _
theorem _root_.Go.Proofs.YtnplgklnkcjmnaaGreatDoor.TabV.rlen (h : TabV k m ks vs) : (rsK v ks vs).length ≤ 2 * m := by rw [rsK_len]; have := h.len; omega
/-- The table of keys and values. -/
noncomputable def tabT (v m : Nat) (ks vs : List Int) : List Int := flat v (laid sP (2 * m) (rsK v ks vs))
theorem _root_.Go.Proofs.YtnplgklnkcjmnaaGreatDoor.TabV.tb (h : TabV k m ks vs) (hk : KV v k) : Tb (2 * m) v (tabT v m ks vs) := tb_laid hk.v (h.recs hk) h.rlen h.nv h.vu
theorem _root_.Go.Proofs.YtnplgklnkcjmnaaGreatDoor.TabV.trecs (h : TabV k m ks vs) (hk : KV v k) : recs (2 * m) v (tabT v m ks vs) = laid sP (2 * m) (rsK v ks vs) := laid_recs hk.v (h.recs hk) h.rlen h.nv
theorem _root_.Go.Proofs.YtnplgklnkcjmnaaGreatDoor.TabV.tmem (h : TabV k m ks vs) (hk : KV v k) (x : R) : x ∈ nzs (Go.Proofs.YtnplgklnkcjmnaaGreatDoor.PrT.recs (2 * m) v (tabT v m ks vs)) ↔ x ∈ rsK v ks vs := by
  obtain ⟨g1, g2⟩ := laid_ok (h.recs hk) h.rlen
  rw [h.trecs hk, ← In_nzs g1.len, g2]
theorem sort_is {l l' : List R} (h : l.Pairwise fun a b => a.1 ≠ b.1) (h' : l'.Pairwise fun a b => a.1 < b.1) (hm : ∀ x, x ∈ l ↔ x ∈ l') : sortI byK l = l' :=
  sorted_ext (f := fun r => r.1) (sortI_sorted (fun a b => rfl) h) h' fun x => (sortI_mem _ _ _).trans (hm x)
/-- Its list. -/
theorem _root_.Go.Proofs.YtnplgklnkcjmnaaGreatDoor.TabV.lst (h : TabV k m ks vs) (hk : KV v k) (hm0 : 0 < m) (hm : m ≤ 256) : lstP v (tabT v m ks vs) = rsK v ks vs := by
  obtain ⟨hr, f2, f3⟩ := (h.tb hk).facts hk.v (by omega) (by omega)
  unfold lstP
  rw [if_pos hr, f2, Int.toNat_natCast]
  exact sort_is (h.tb hk).ok.recs.nd (h.sorted hk) (h.tmem hk)
theorem laid_ext {n : Nat} {l l' : List R} (hr : Recs sP l) (hl : l.length ≤ n) (hr' : Recs sP l') (hl' : l'.length ≤ n) (hm : ∀ x, x ∈ l ↔ x ∈ l') : laid sP n l = laid sP n l' :=
  laid_is hr hl (laid_ok hr' hl').1 fun x => ((laid_ok hr' hl').2 x).trans (hm x).symm
theorem here_iff (h : TabV k m ks vs) (hk : KV v k) (x : Int) : hereK k ks x = true ↔ ∃ i, i < ks.length ∧ ks.getD i 0 = x := by
  constructor
  · intro q; obtain ⟨h1, h2⟩ := hereK_t q; exact ⟨_, h1, h2⟩
  · rintro ⟨i, hi, rfl⟩
    have ha : atK k ks (ks.getD i 0) = i := by
      refine atK_is (Nat.le_of_lt hi) (fun j hj => ?_) (fun _ => ?_)
      · rw [lssK_rk, hk.rk, hk.rk]; exact decide_eq_true (h.k_lt hk hj hi)
      · rw [lssK_rk]; exact decide_eq_false (Int.lt_irrefl _)
    unfold hereK
    rw [ha]
    exact decide_eq_true ⟨hi, rfl⟩
/-- What is found. -/
theorem _root_.Go.Proofs.YtnplgklnkcjmnaaGreatDoor.TabV.fnd (h : TabV k m ks vs) (hk : KV v k) (hm0 : 0 < m) (hm : m ≤ 256) (x : Int) (hx : x + 1 ≠ 0) :
    (hereK k ks x = true → ∃ p : Nat, p < 2 * m ∧ fndP v (tabT v m ks vs) (x + 1) = p ∧ (tabT v m ks vs).getD (p * v) 0 = x + 1 ∧ (v = 2 → (tabT v m ks vs).getD (p * v + 1) 0 = vs.getD (atK k ks x) 0)) ∧
    (hereK k ks x = false → fndP v (tabT v m ks vs) (x + 1) = -1) := by
  have hT := h.tb hk
  obtain ⟨hr, f2, f3⟩ := hT.facts hk.v (by omega) (by omega)
  have e : fndP v (tabT v m ks vs) (x + 1) = findF sP (2 * m) (Go.Proofs.YtnplgklnkcjmnaaGreatDoor.PrT.recs (2 * m) v (tabT v m ks vs)) (x + 1) (2 * m) (sP.hm (2 * m) (x + 1)) := by
    unfold fndP; rw [if_pos ⟨hr, hx⟩, f2, Int.toNat_natCast]
  constructor
  · intro hh
    obtain ⟨a1, a2⟩ := hereK_t hh
    obtain ⟨q1, p, hp, hg⟩ := (In_nzs hT.ok.len _).2 ((h.tmem hk _).2 ((rsK_mem v ks vs (ks.getD (atK k ks x) 0 + 1, if v = 1 then 0 else vs.getD (atK k ks x) 0)).2 ⟨_, a1, rfl⟩))
    have hkp : kR (Go.Proofs.YtnplgklnkcjmnaaGreatDoor.PrT.recs (2 * m) v (tabT v m ks vs)) p = x + 1 := by unfold kR; rw [hg, a2]
    refine ⟨p, hp, ?_, ?_, fun hv2 => ?_⟩
    · rw [e]
      exact findF_in hT.ok hp hkp hx _ _ (sP.hlt (2 * m) (x + 1) (by omega)) (by rw [dist_self]; exact Nat.zero_le _) (dist_lt (sP.hlt (2 * m) (x + 1) (by omega)) hp)
    · unfold kR at hkp; rw [recs_get _ hp] at hkp; exact hkp
    · rw [recs_get _ hp] at hg
      have := congrArg Prod.snd hg
      dsimp only at this
      rwa [if_neg (by omega), if_neg (by omega)] at this
  · intro hh
    rw [e]
    refine findF_out (fun j hj hkj => ?_) _ _ (sP.hlt (2 * m) (x + 1) (by omega))
    have : gR (Go.Proofs.YtnplgklnkcjmnaaGreatDoor.PrT.recs (2 * m) v (tabT v m ks vs)) j ∈ rsK v ks vs := (h.tmem hk _).1 ((In_nzs hT.ok.len _).1 ⟨by unfold kR at hkj; rw [hkj]; exact hx, j, hj, rfl⟩)
    obtain ⟨i, hi, he⟩ := (rsK_mem _ _ _ _).1 this
    unfold kR at hkj
    rw [he] at hkj
    dsimp only at hkj
    rw [(here_iff h hk x).2 ⟨i, hi, by omega⟩] at hh
    cases hh
theorem nd_of {l : List R} (h : l.Pairwise fun a b => a.1 ≠ b.1) : l.Nodup := h.imp fun h e => h (by rw [e])
/-- What Put makes of the table: keys and values that have these records. -/
theorem _root_.Go.Proofs.YtnplgklnkcjmnaaGreatDoor.TabV.put (h : TabV k m ks vs) (hk : KV v k) (hm0 : 0 < m) (hm : m ≤ 256) {x val : Int} (hx : 0 ≤ x ∧ x ≤ 4611686018427387904) (hvu : U64 val) (hv1 : v = 1 → val = 0)
    {ks' vs' : List Int} (h' : TabV k m ks' vs') (hmem : ∀ r, r ∈ rsK v ks' vs' ↔ r = (x + 1, val) ∨ (r ∈ rsK v ks vs ∧ r.1 ≠ x + 1)) :
    putE v (tabT v m ks vs) (x + 1) val = 0 ∧ putL v (tabT v m ks vs) (x + 1) val = tabT v m ks' vs' := by
  have hT := h.tb hk
  have hU : U64 (x + 1) := by unfold U64; omega
  have hn0 : x + 1 ≠ 0 := by omega
  have hP := put_recs hT.ok hU hn0 (val := val)
  have hmm : ∀ r, r ∈ oth (nzs (Go.Proofs.YtnplgklnkcjmnaaGreatDoor.PrT.recs (2 * m) v (tabT v m ks vs))) (x + 1) ++ [(x + 1, val)] ↔ r ∈ rsK v ks' vs' := by
    intro r
    rw [List.mem_append, oth_mem, h.tmem hk, hmem, List.mem_singleton]
    exact or_comm
  have hl : (oth (nzs (Go.Proofs.YtnplgklnkcjmnaaGreatDoor.PrT.recs (2 * m) v (tabT v m ks vs))) (x + 1) ++ [(x + 1, val)]).length ≤ 2 * m :=
    Nat.le_trans (nodup_sub_len (nd_of hP.nd) fun r hr => (hmm r).1 hr) h'.rlen
  have he := laid_ext hP hl (h'.recs hk) h'.rlen hmm
  obtain ⟨-, q⟩ := hT.put hk.v (by omega) (by omega) hU hn0 hvu hv1
  rw [List.length_append] at hl
  simp only [List.length_cons, List.length_nil] at hl
  rcases q with ⟨-, -, q⟩ | ⟨q1, q2, -⟩
  · omega
  · refine ⟨q1, q2.trans ?_⟩
    rw [he]; rfl
/-- What Del makes of it. -/
theorem _root_.Go.Proofs.YtnplgklnkcjmnaaGreatDoor.TabV.dele (h : TabV k m ks vs) (hk : KV v k) (hm0 : 0 < m) (hm : m ≤ 256) {x : Int} (hx : 0 ≤ x) (hh : hereK k ks x = true)
    {ks' vs' : List Int} (h' : TabV k m ks' vs') (hmem : ∀ r, r ∈ rsK v ks' vs' ↔ (r ∈ rsK v ks vs ∧ r.1 ≠ x + 1)) :
    delE v (tabT v m ks vs) (x + 1) = 0 ∧ delL v (tabT v m ks vs) (x + 1) = tabT v m ks' vs' := by
  have hT := h.tb hk
  obtain ⟨q0, q⟩ := hT.del hk.v (by omega) (by omega) (key := x + 1) (by omega)
  obtain ⟨a1, a2⟩ := hereK_t hh
  rcases q with ⟨-, -, q⟩ | ⟨q1, -, q2⟩
  · refine absurd ⟨_, (h.tmem hk _).2 ((rsK_mem v ks vs _).2 ⟨_, a1, rfl⟩), ?_⟩ q
    dsimp only; rw [a2]
  · refine ⟨q1, ?_⟩
    have hP : Recs sP (oth (nzs (Go.Proofs.YtnplgklnkcjmnaaGreatDoor.PrT.recs (2 * m) v (tabT v m ks vs))) (x + 1)) := hT.ok.recs.of_mem (fun x hx => (oth_mem.1 hx).1) (hT.ok.recs.nd.sublist List.filter_sublist)
    have hmm : ∀ r, r ∈ oth (nzs (Go.Proofs.YtnplgklnkcjmnaaGreatDoor.PrT.recs (2 * m) v (tabT v m ks vs))) (x + 1) ↔ r ∈ rsK v ks' vs' := by
      intro r
      rw [oth_mem, h.tmem hk, hmem]
    have hl : (oth (nzs (Go.Proofs.YtnplgklnkcjmnaaGreatDoor.PrT.recs (2 * m) v (tabT v m ks vs))) (x + 1)).length ≤ 2 * m :=
      Nat.le_trans (nodup_sub_len (nd_of hP.nd) fun r hr => (hmm r).1 hr) h'.rlen
    have he := laid_ext hP hl (h'.recs hk) h'.rlen hmm
    have := flat_recs hk.v q0.len
    rw [q2, he] at this
    exact this.symm
/-- Records behind a key that is new, that is there, that goes. -/
theorem mem_ins (h : TabV k m ks vs) (hk : KV v k) {x val : Int} (hno : hereK k ks x = false) (hv1 : v = 1 → val = 0) (vs' : List Int) (hvs : v = 2 → vs' = insK vs (atK k ks x) val) (r : R) :
    r ∈ rsK v (insK ks (atK k ks x) x) vs' ↔ r = (x + 1, val) ∨ (r ∈ rsK v ks vs ∧ r.1 ≠ x + 1) := by
  have ha := atK_le k ks x
  have hne : ∀ i, i < ks.length → ks.getD i 0 ≠ x := fun i hi e => by
    rw [(here_iff h hk x).2 ⟨i, hi, e⟩] at hno; cases hno
  have hvl : v = 2 → vs.length = ks.length := fun e => by have := h.vlen; rwa [hk.val, if_pos (decide_eq_true e)] at this
  have hat : ∀ i, i < ks.length + 1 → ((insK ks (atK k ks x) x).getD i 0 + 1, if v = 1 then (0 : Int) else vs'.getD i 0) =
      if i < atK k ks x then (ks.getD i 0 + 1, if v = 1 then 0 else vs.getD i 0) else if i = atK k ks x then (x + 1, val) else (ks.getD (i - 1) 0 + 1, if v = 1 then 0 else vs.getD (i - 1) 0) := by
    intro i hi
    rw [insK_at ha]
    rcases hk.v with e | e
    · have := hv1 e
      subst this
      simp only [if_pos e]
      split
      · rfl
      · split <;> rfl
    · rw [hvs e, insK_at (by rw [hvl e]; exact ha)]; simp only [if_neg (show ¬ v = 1 by omega)]
      split
      · rfl
      · split <;> rfl
  rw [rsK_mem, rsK_mem, insK_len ha]
  constructor
  · rintro ⟨i, hi, rfl⟩
    rw [hat i hi]
    by_cases h1 : i < atK k ks x
    · rw [if_pos h1]
      exact .inr ⟨⟨i, by omega, rfl⟩, by have := hne i (by omega); dsimp only; omega⟩
    · rw [if_neg h1]
      by_cases h2 : i = atK k ks x
      · rw [if_pos h2]; exact .inl rfl
      · rw [if_neg h2]
        exact .inr ⟨⟨i - 1, by omega, rfl⟩, by have := hne (i - 1) (by omega); dsimp only; omega⟩
  · rintro (rfl | ⟨⟨i, hi, rfl⟩, -⟩)
    · exact ⟨atK k ks x, by omega, by rw [hat _ (by omega), if_neg (Nat.lt_irrefl _), if_pos rfl]⟩
    · by_cases h1 : i < atK k ks x
      · exact ⟨i, by omega, by rw [hat _ (by omega), if_pos h1]⟩
      · exact ⟨i + 1, by omega, by rw [hat _ (by omega), if_neg (show ¬ i + 1 < atK k ks x by omega), if_neg (show ¬ i + 1 = atK k ks x by omega), Nat.add_sub_cancel]⟩
theorem mem_set (h : TabV k m ks vs) (hk : KV v k) (hv2 : v = 2) {x val : Int} (hh : hereK k ks x = true) (r : R) :
    r ∈ rsK v ks (vs.set (atK k ks x) val) ↔ r = (x + 1, val) ∨ (r ∈ rsK v ks vs ∧ r.1 ≠ x + 1) := by
  obtain ⟨a1, a2⟩ := hereK_t hh
  have hvl : vs.length = ks.length := by have := h.vlen; rwa [hk.val, if_pos (decide_eq_true hv2)] at this
  have hg : ∀ i, (vs.set (atK k ks x) val).getD i 0 = if i = atK k ks x then val else vs.getD i 0 := fun i => by
    rw [List.getD_eq_getElem?_getD, List.getElem?_set]
    by_cases e : i = atK k ks x
    · rw [if_pos e.symm, if_pos (by omega), if_pos e]; rfl
    · rw [if_neg (fun q => e q.symm), if_neg e, ← List.getD_eq_getElem?_getD]
  rw [rsK_mem, rsK_mem]
  simp only [hg, if_neg (show ¬ v = 1 by omega)]
  constructor
  · rintro ⟨i, hi, rfl⟩
    by_cases e : i = atK k ks x
    · rw [if_pos e, e, a2]; exact .inl rfl
    · rw [if_neg e]
      refine .inr ⟨⟨i, hi, rfl⟩, fun q => e ?_⟩
      dsimp only at q
      exact h.k_inj hk hi a1 (by omega)
  · rintro (rfl | ⟨⟨i, hi, rfl⟩, hn⟩)
    · exact ⟨_, a1, by rw [if_pos rfl, a2]⟩
    · refine ⟨i, hi, ?_⟩
      rw [if_neg]
      rintro rfl
      exact hn (by dsimp only; rw [a2])
theorem mem_del (h : TabV k m ks vs) (hk : KV v k) {x : Int} (hh : hereK k ks x = true) (vs' : List Int) (hvs : v = 2 → vs' = delK vs (atK k ks x)) (r : R) :
    r ∈ rsK v (delK ks (atK k ks x)) vs' ↔ (r ∈ rsK v ks vs ∧ r.1 ≠ x + 1) := by
  obtain ⟨a1, a2⟩ := hereK_t hh
  have hvl : v = 2 → vs.length = ks.length := fun e => by have := h.vlen; rwa [hk.val, if_pos (decide_eq_true e)] at this
  have hat : ∀ i, ((delK ks (atK k ks x)).getD i 0 + 1, if v = 1 then (0 : Int) else vs'.getD i 0) =
      if i < atK k ks x then (ks.getD i 0 + 1, if v = 1 then 0 else vs.getD i 0) else (ks.getD (i + 1) 0 + 1, if v = 1 then 0 else vs.getD (i + 1) 0) := by
    intro i
    rw [delK_at a1]
    rcases hk.v with e | e
    · simp only [if_pos e]
      split <;> rfl
    · rw [hvs e, delK_at (by rw [hvl e]; exact a1)]; simp only [if_neg (show ¬ v = 1 by omega)]
      split <;> rfl
  rw [rsK_mem, rsK_mem, delK_len a1]
  constructor
  · rintro ⟨i, hi, rfl⟩
    rw [hat i]
    by_cases h1 : i < atK k ks x
    · rw [if_pos h1]
      refine ⟨⟨i, by omega, rfl⟩, fun q => ?_⟩
      dsimp only at q
      have := h.k_inj hk (i := i) (by omega) a1 (by omega)
      omega
    · rw [if_neg h1]
      refine ⟨⟨i + 1, by omega, rfl⟩, fun q => ?_⟩
      dsimp only at q
      have := h.k_inj hk (i := i + 1) (by omega) a1 (by omega)
      omega
  · rintro ⟨⟨i, hi, rfl⟩, hn⟩
    by_cases h1 : i < atK k ks x
    · exact ⟨i, by omega, by rw [hat, if_pos h1]⟩
    · have h2 : i ≠ atK k ks x := by rintro rfl; exact hn (by dsimp only; rw [a2])
      exact ⟨i - 1, by omega, by rw [hat, if_neg (show ¬ i - 1 < atK k ks x by omega), show i - 1 + 1 = i by omega]⟩
end
/-! ### words of states -/
noncomputable def encT (v m : Nat) (ks vs : List Int) : List Int := (ks.length : Int) :: tabT v m ks vs
open Classical in
/-- Are words those of a state? -/
noncomputable def okD (v m : Nat) (w : List Int) : Bool := decide (w.length = 1 + 2 * m * v ∧ rightB v (w.drop 1) = true ∧ (∀ r ∈ lstP v (w.drop 1), r.1 ≤ 4611686018427387905) ∧ w.getD 0 0 = (lstP v (w.drop 1)).length ∧ (lstP v (w.drop 1)).length ≤ m)
noncomputable def ksD (v : Nat) (w : List Int) : List Int := (lstP v (w.drop 1)).map fun r => r.1 - 1
noncomputable def vsD (v : Nat) (w : List Int) : List Int := if v = 2 then (lstP v (w.drop 1)).map fun r => r.2 else []
section
variable {v m : Nat} {k : Int} {ks vs : List Int}
theorem map_get {l : List R} {f : R → Int} {i : Nat} (h : i < l.length) : (l.map f).getD i 0 = f (gR l i) := by
  unfold gR
  rw [List.getD_eq_getElem?_getD, List.getElem?_map, List.getD_eq_getElem?_getD, List.getElem?_eq_getElem h]; rfl
theorem ext_getD {a b : List Int} (hl : a.length = b.length) (h : ∀ i, i < a.length → a.getD i 0 = b.getD i 0) : a = b := by
  refine List.ext_getElem hl fun i h1 h2 => ?_
  have := h i h1
  rw [List.getD_eq_getElem?_getD, List.getD_eq_getElem?_getD, List.getElem?_eq_getElem h1, List.getElem?_eq_getElem h2] at this
  exact this
theorem _root_.Go.Proofs.YtnplgklnkcjmnaaGreatDoor.TabV.enc_len (h : TabV k m ks vs) (hk : KV v k) : (encT v m ks vs).length = 1 + 2 * m * v := by
  show (tabT v m ks vs).length + 1 = _
  rw [(h.tb hk).len]; omega
theorem _root_.Go.Proofs.YtnplgklnkcjmnaaGreatDoor.TabV.enc_u (h : TabV k m ks vs) (hk : KV v k) (hm : m ≤ 256) : AllU (encT v m ks vs) := by
  intro x hx
  rcases List.mem_cons.1 hx with rfl | hx
  · have := h.len; unfold U64; omega
  · exact (h.tb hk).u x hx
theorem _root_.Go.Proofs.YtnplgklnkcjmnaaGreatDoor.TabV.dec (h : TabV k m ks vs) (hk : KV v k) (hm0 : 0 < m) (hm : m ≤ 256) : okD v m (encT v m ks vs) = true ∧ ksD v (encT v m ks vs) = ks ∧ vsD v (encT v m ks vs) = vs := by
  have hl := h.lst hk hm0 hm
  have hd : (encT v m ks vs).drop 1 = tabT v m ks vs := rfl
  unfold okD ksD vsD
  rw [hd, hl]
  refine ⟨decide_eq_true ⟨h.enc_len hk, ((h.tb hk).facts hk.v (by omega) (by omega)).1, fun r hr => ?_, ?_, ?_⟩, ?_, ?_⟩
  · obtain ⟨i, hi, rfl⟩ := (rsK_mem _ _ _ _).1 hr
    have := h.k_u hk hi
    dsimp only; omega
  · rw [rsK_len]; rfl
  · rw [rsK_len]; exact h.len
  · refine ext_getD (by rw [List.length_map, rsK_len]) fun i hi => ?_
    rw [List.length_map, rsK_len] at hi
    rw [map_get (by rw [rsK_len]; exact hi), rsK_get v ks vs hi]
    dsimp only; omega
  · have hvl := h.vlen
    rw [hk.val] at hvl
    by_cases e : v = 2
    · rw [if_pos e]
      rw [if_pos (decide_eq_true e)] at hvl
      refine ext_getD (by rw [List.length_map, rsK_len, hvl]) fun i hi => ?_
      rw [List.length_map, rsK_len] at hi
      rw [map_get (by rw [rsK_len]; exact hi), rsK_get v ks vs hi]
      dsimp only
      rw [if_neg (by omega)]
    · rw [if_neg e]
      rw [if_neg (by rw [decide_eq_false e]; exact Bool.false_ne_true)] at hvl
      exact (List.eq_nil_of_length_eq_zero hvl).symm
/-- Words that are a state's. -/
theorem okD_enc {w : List Int} (hk : KV v k) (hm0 : 0 < m) (hm : m ≤ 256) (hu : AllU w) (h : okD v m w = true) : TabV k m (ksD v w) (vsD v w) ∧ w = encT v m (ksD v w) (vsD v w) := by
  unfold okD at h
  obtain ⟨h1, h2, h3, h4, h5⟩ := of_decide_eq_true h
  have htl : (w.drop 1).length = 2 * m * v := by rw [List.length_drop]; omega
  have htu : AllU (w.drop 1) := fun x hx => hu x (List.mem_of_mem_drop hx)
  obtain ⟨n', v', hv', e', hn', hl', f1, f2, f3, f4⟩ := ok_facts ((rightB_iff _ _).1 h2).1
  obtain rfl : v = v' := by omega
  have hn : n' = 2 * m := by
    rw [htl] at hl'
    exact (Nat.eq_of_mul_eq_mul_right (by omega) hl').symm
  subst hn
  have hT : Tb (2 * m) v (w.drop 1) := ⟨f4.1 h2, htl, htu⟩
  have hls : lstP v (w.drop 1) = sortI byK (nzs (recs (2 * m) v (w.drop 1))) := by unfold lstP; rw [if_pos h2, f2, Int.toNat_natCast]
  have hsrt : (lstP v (w.drop 1)).Pairwise fun a b => a.1 < b.1 := by rw [hls]; exact sortI_sorted (fun a b => rfl) hT.ok.recs.nd
  have hLm : ∀ r, r ∈ lstP v (w.drop 1) ↔ r ∈ nzs (recs (2 * m) v (w.drop 1)) := fun r => by rw [hls]; exact sortI_mem _ _ _
  have hLu : ∀ r ∈ lstP v (w.drop 1), U64 r.1 ∧ U64 r.2 ∧ r.1 ≠ 0 ∧ (v = 1 → r.2 = 0) := fun r hr => by
    have h9 := nzs_mem.1 ((hLm r).1 hr)
    exact ⟨(recs_u hT.u r h9.1).1, (recs_u hT.u r h9.1).2, h9.2, fun q => recs_nv _ v _ q r h9.1⟩
  have hks : ksD v w = (lstP v (w.drop 1)).map fun r => r.1 - 1 := rfl
  have hvs : vsD v w = if v = 2 then (lstP v (w.drop 1)).map fun r => r.2 else [] := rfl
  generalize lstP v (w.drop 1) = L at *
  have hLg : ∀ i, i < L.length → gR L i ∈ L := fun i hi => gR_mem hi
  have hkg : ∀ i, i < L.length → (ksD v w).getD i 0 = (gR L i).1 - 1 := fun i hi => by rw [hks, map_get hi]
  have hkl : (ksD v w).length = L.length := by rw [hks, List.length_map]
  have hvg : ∀ i, i < L.length → v = 2 → (vsD v w).getD i 0 = (gR L i).2 := fun i hi e => by rw [hvs, if_pos e, map_get hi]
  have hvl : (vsD v w).length = if v = 2 then L.length else 0 := by
    rw [hvs]; split
    · rw [List.length_map]
    · rfl
  have hTab : TabV k m (ksD v w) (vsD v w) := by
    refine ⟨by omega, ?_, ?_, ?_, fun i hi => ?_, fun i hi => ?_⟩
    · rw [hvl, hk.val, hkl]
      by_cases e : v = 2
      · rw [if_pos e, if_pos (decide_eq_true e)]
      · rw [if_neg e, if_neg (by rw [decide_eq_false e]; exact Bool.false_ne_true)]
    · rw [hks]
      intro x hx
      obtain ⟨r, hr, rfl⟩ := List.mem_map.1 hx
      have := (hLu r hr).1; have := (hLu r hr).2.2.1
      unfold U64 at *; omega
    · rw [hvs]
      intro x hx
      split at hx
      · obtain ⟨r, hr, rfl⟩ := List.mem_map.1 hx
        exact (hLu r hr).2.1
      · cases hx
    · rw [hkl] at hi
      rw [hkg i hi, hk.mb, hk.mv]
      exact ⟨decide_eq_true (by have := h3 _ (hLg i hi); omega), rfl⟩
    · rw [hkl] at hi
      rw [hkg i (by omega), hkg (i + 1) hi, hk.rk, hk.rk]
      have := (List.pairwise_iff_getElem.1 hsrt) i (i + 1) (by omega) hi (by omega)
      have e : ∀ q (hq : q < L.length), L[q] = gR L q := fun q hq => by
        unfold gR; rw [List.getD_eq_getElem?_getD, List.getElem?_eq_getElem hq]; rfl
      rw [e, e] at this
      omega
  refine ⟨hTab, ?_⟩
  have hrs : rsK v (ksD v w) (vsD v w) = L := by
    refine gR_ext (by rw [rsK_len, hkl]) fun j hj => ?_
    rw [rsK_len, hkl] at hj
    rw [rsK_get _ _ _ (by rw [hkl]; exact hj), hkg j hj]
    refine Prod.ext (by dsimp only; omega) ?_
    dsimp only
    by_cases e : v = 1
    · rw [if_pos e, (hLu _ (hLg j hj)).2.2.2 e]
    · rw [if_neg e, hvg j hj (by rcases hk.v with q | q <;> omega)]
  have hlaid : laid sP (2 * m) L = recs (2 * m) v (w.drop 1) := by
    refine laid_is ?_ (by omega) hT.ok fun x => by rw [In_nzs hT.ok.len, hLm]
    rw [← hrs]; exact hTab.recs hk
  have htab : tabT v m (ksD v w) (vsD v w) = w.drop 1 := by
    unfold tabT
    rw [hrs, hlaid, flat_recs hk.v htl]
  unfold encT
  rw [htab, hkl, ← h4]
  cases w with
  | nil => simp at h1; omega
  | cons a w => rfl
end
end Go.Proofs.YtnplgklnkcjmnaaGreatDoor.PrT
namespace Go.Proofs.YtnplgklnkcjmnaaGreatDoor
open Go.RowKit Go.Proofs.YtnplgklnkcjmnaaGreatDoor.Am
set_option linter.unusedVariables false
set_option linter.unusedSimpArgs false

/-- Of a raw number, a word. -/
def wordL (w : Int) : List Int := [0, 9223372036854775808, 9221120237041090561, 9221120237041090566, 18446744073709551615, 9218868437227405312, 18442240474082181120, 4607182418800017408, 13830554455654793216, 4609434218613702656, 1, 9223372036854775809, 9218868437227405311, w]
def wordS (n w : Int) : Int := (wordL w).getD (ipick n 14).toNat 0
theorem u64_wordS {n w : Int} (hw : U64 w) : U64 (wordS n w) := by
  unfold wordS
  obtain ⟨b1, b2⟩ := ipick_bounds n (n := 14) (by omega)
  have : AllU (wordL w) := by
    intro x hx
    simp only [wordL, List.mem_cons, List.not_mem_nil, or_false] at hx
    rcases hx with rfl | rfl | rfl | rfl | rfl | rfl | rfl | rfl | rfl | rfl | rfl | rfl | rfl | rfl <;> first | exact hw | exact ⟨by omega, by omega⟩
  exact allU_getD this _
noncomputable def ctxOrM (P : Program) : Ctx := ctx P glR [ePick09] [] (noEq P) [] (fun _ h => by cases h)
theorem ctxOrM_good : (ctxOrM Tryz.prog).good := ctx_good (by kernel_rfl) (AllOk.mem ⟨ePick09_ok, trivial⟩) glR_two
set_option maxRecDepth 100000 in
theorem word09_pure (n w : Int) (hn : I64 n) : Pure Tryz.prog glR 55 [.v (.int .i64 n), .v (.int .u64 w)] (.v (.int .u64 (wordS n w))) := by
  obtain ⟨b1, b2⟩ := ipick_bounds n (n := 14) (by omega)
  refine pure_of (C := ctxOrM Tryz.prog) ctxOrM_good Tryz.func55 (c := bodyOf Tryz.f55) (by rfl) (Nat.le_of_ble_eq_true (by rfl)) 4 0 [0, 1, 4, 5] ?_
  conv => whnf
  refine And.intro ⟨hn, by omega, by omega⟩ ?_
  conv => whnf
  repeat' (first | (refine ifB_t (by assumption) ?_; conv => whnf) | (refine ifB_f (by assumption) ?_; conv => whnf) | (refine ifB_dec (fun h => ?_) (fun h => ?_) <;> (first | (exfalso; omega) | (conv => whnf))) | (refine ifB_eq (fun h => ?_) (fun h => ?_) <;> (first | (exfalso; omega) | (conv => whnf))) | (refine ifB_ne (fun h => ?_) (fun h => ?_) <;> (first | (exfalso; omega) | (conv => whnf))) | (refine ifB_not ?_; conv => whnf) | (refine ifB_and ?_; conv => whnf) | (refine ifB_or ?_; conv => whnf) | (refine And.intro ?_ ?_; (first | omega | assumption | (exact allU_getD (by assumption) _) | (simp only [cutL]; omega) | (refine And.intro ?_ ?_ <;> first | assumption | exact allU_getD (by assumption) _) | (simp only [cutL, IntKind.wrap_u64, IntKind.wrap_i64] at *; omega) | decide); conv => whnf) | (refine ifB_mk (fun h => ?_) (fun h => ?_) <;> (conv => whnf)))
  have e : 0 + addN 0 (ipick n ((14 : Nat) : Int)).toNat * (0 + 1) = (ipick n 14).toNat := by simp [addN_eq]
  rw [e]
  repeat' (first | exact trivial | exact rfl | (refine And.intro ?_ ?_) | ((conv => whnf); done) | ((conv => whnf); (first | rfl | (refine congrArg (fun b => T.v (Value.bool b)) ?_; first | rfl | exact (decide_eq_true (by omega)).symm | exact (decide_eq_false (by omega)).symm | exact decide_eq_decide.2 (by omega)) | (refine congrArg (fun b => T.v (Value.int _ b)) ?_; first | rfl | omega) | omega)) | (first | rfl | (refine congrArg (fun b => T.v (Value.bool b)) ?_; first | rfl | exact (decide_eq_true (by omega)).symm | exact (decide_eq_false (by omega)).symm | exact decide_eq_decide.2 (by omega)) | (refine congrArg (fun b => T.v (Value.int _ b)) ?_; first | rfl | omega) | omega))
def eWord09 : Entry := ⟨55, 3, fun l => match l with | [.v (.int .i64 n), .v (.int .u64 w)] => some (some (I64 n), .v (.int .u64 (wordS n w)), []) | _ => none⟩
theorem eWord09_ok : eWord09.ok Tryz.prog glR := ⟨Am.enters_of Tryz.func55 (by kernel_rfl) (by kernel_rfl), by
  intro args c t bs h hc
  simp only [eWord09] at h
  split at h <;> cases h
  replace hc := hc _ rfl
  exact word09_pure _ _ hc⟩
end Go.Proofs.YtnplgklnkcjmnaaGreatDoor
namespace Go.Proofs.YtnplgklnkcjmnaaGreatDoor
open Go.RowKit Go.Proofs.YtnplgklnkcjmnaaGreatDoor.Am
set_option linter.unusedVariables false
set_option linter.unusedSimpArgs false

def codeL (k : Int) : List Int := if k = 1 then [1, 2, 3, 4, 4] else if k = 2 then [6, 6, 5, 7, 8, 9] else if k = 5 then [12, 12, 12, 14, 15, 16, 13] else [11, 11, 10, 7, 8, 9]
def codeG (k n : Int) : Int := if ipick n (3 * ((codeL k).length : Int) + 1) = 3 * ((codeL k).length : Int) then ipick n 260 else (codeL k).getD (ipick n (3 * ((codeL k).length : Int) + 1) % ((codeL k).length : Int)).toNat 0
def keyG (k n w : Int) : Int := if k = 4 then wordS n w else if ipick n 14 = 13 then w else if ipick n 14 = 12 ∧ k ≠ 5 then 4611686018427387904 else ipick n 14
def valG (k a c w : Int) : Int := if k = 5 ∨ codeG k a = 8 then ipick c 10 else wordS c w
theorem u64_keyG {k n w : Int} (hw : U64 w) : U64 (keyG k n w) := by
  obtain ⟨b1, b2⟩ := ipick_bounds n (n := 14) (by omega)
  unfold keyG
  split
  · exact u64_wordS hw
  · split
    · exact hw
    · split
      · exact ⟨by omega, by omega⟩
      · exact ⟨by omega, by omega⟩
theorem u64_valG {k a c w : Int} (hw : U64 w) : U64 (valG k a c w) := by
  obtain ⟨b1, b2⟩ := ipick_bounds c (n := 10) (by omega)
  unfold valG
  split
  · exact ⟨by omega, by omega⟩
  · exact u64_wordS hw
noncomputable def ctxLwB (P : Program) : Ctx := ctx P glR [ePick09, eWord09] [] (noEq P) [] (fun _ h => by cases h)
theorem ctxLwB_good : (ctxLwB Tryz.prog).good := ctx_good (by kernel_rfl) (AllOk.mem ⟨ePick09_ok, eWord09_ok, trivial⟩) glR_two
set_option maxRecDepth 100000 in
theorem code09_1 (p n m : Int) (hn : I64 m) : Pure Tryz.prog glR 53 [.agg [.v (.int .i64 1), .v (.int .i64 p), .v (.int .i64 n)], .v (.int .i64 m)] (.v (.int .i64 (codeG 1 m))) := by
  obtain ⟨b1, b2⟩ := ipick_bounds m (n := 16) (by omega)
  have e1 : IntKind.i64.wrap (3 * ((5 : Nat) : Int)) = 15 := by rfl
  have e2 : IntKind.i64.wrap (15 + 1) = 16 := by rfl
  have et : (ipick m 16).tmod ((5 : Nat) : Int) = ipick m 16 % 5 := Int.tmod_eq_emod_of_nonneg b1
  refine pure_of (C := ctxLwB Tryz.prog) ctxLwB_good Tryz.func53 (c := bodyOf Tryz.f53) (by rfl) (Nat.le_of_ble_eq_true (by rfl)) 4 1 [0, 1, 2, 4, 5, 6, 9, 10, 13, 17, 30] ?_
  conv => whnf
  rw [e1, e2]
  refine And.intro ⟨hn, by omega, by omega⟩ ?_
  conv => whnf
  rw [e1]
  refine ifB_eq (fun h => ?_) (fun h => ?_)
  · conv => whnf
    refine And.intro ⟨hn, by omega, by omega⟩ ?_
    conv => whnf
    refine congrArg (fun x => T.v (Value.int _ x)) ?_
    unfold codeG codeL
    simp [h]
  · conv => whnf
    refine And.intro (by omega) ?_
    conv => whnf
    rw [et]
    refine And.intro ⟨by omega, by omega⟩ ?_
    conv => whnf
    have e : 0 + addN 0 (ipick m 16 % 5).toNat * (0 + 1) = (ipick m 16 % 5).toNat := by simp [addN_eq]
    rw [e]
    refine congrArg (fun x => T.v (Value.int _ x)) ?_
    unfold codeG codeL
    simp [h]
set_option maxRecDepth 100000 in
theorem code09_2 (p n m : Int) (hn : I64 m) : Pure Tryz.prog glR 53 [.agg [.v (.int .i64 2), .v (.int .i64 p), .v (.int .i64 n)], .v (.int .i64 m)] (.v (.int .i64 (codeG 2 m))) := by
  obtain ⟨b1, b2⟩ := ipick_bounds m (n := 19) (by omega)
  have e1 : IntKind.i64.wrap (3 * ((6 : Nat) : Int)) = 18 := by rfl
  have e2 : IntKind.i64.wrap (18 + 1) = 19 := by rfl
  have et : (ipick m 19).tmod ((6 : Nat) : Int) = ipick m 19 % 6 := Int.tmod_eq_emod_of_nonneg b1
  refine pure_of (C := ctxLwB Tryz.prog) ctxLwB_good Tryz.func53 (c := bodyOf Tryz.f53) (by rfl) (Nat.le_of_ble_eq_true (by rfl)) 4 1 [0, 1, 2, 4, 5, 6, 9, 10, 13, 17, 30] ?_
  conv => whnf
  rw [e1, e2]
  refine And.intro ⟨hn, by omega, by omega⟩ ?_
  conv => whnf
  rw [e1]
  refine ifB_eq (fun h => ?_) (fun h => ?_)
  · conv => whnf
    refine And.intro ⟨hn, by omega, by omega⟩ ?_
    conv => whnf
    refine congrArg (fun x => T.v (Value.int _ x)) ?_
    unfold codeG codeL
    simp [h]
  · conv => whnf
    refine And.intro (by omega) ?_
    conv => whnf
    rw [et]
    refine And.intro ⟨by omega, by omega⟩ ?_
    conv => whnf
    have e : 0 + addN 0 (ipick m 19 % 6).toNat * (0 + 1) = (ipick m 19 % 6).toNat := by simp [addN_eq]
    rw [e]
    refine congrArg (fun x => T.v (Value.int _ x)) ?_
    unfold codeG codeL
    simp [h]
set_option maxRecDepth 100000 in
theorem code09_3 (p n m : Int) (hn : I64 m) : Pure Tryz.prog glR 53 [.agg [.v (.int .i64 3), .v (.int .i64 p), .v (.int .i64 n)], .v (.int .i64 m)] (.v (.int .i64 (codeG 3 m))) := by
  obtain ⟨b1, b2⟩ := ipick_bounds m (n := 19) (by omega)
  have e1 : IntKind.i64.wrap (3 * ((6 : Nat) : Int)) = 18 := by rfl
  have e2 : IntKind.i64.wrap (18 + 1) = 19 := by rfl
  have et : (ipick m 19).tmod ((6 : Nat) : Int) = ipick m 19 % 6 := Int.tmod_eq_emod_of_nonneg b1
  refine pure_of (C := ctxLwB Tryz.prog) ctxLwB_good Tryz.func53 (c := bodyOf Tryz.f53) (by rfl) (Nat.le_of_ble_eq_true (by rfl)) 4 1 [0, 1, 2, 4, 5, 6, 9, 10, 13, 17, 30] ?_
  conv => whnf
  rw [e1, e2]
  refine And.intro ⟨hn, by omega, by omega⟩ ?_
  conv => whnf
  rw [e1]
  refine ifB_eq (fun h => ?_) (fun h => ?_)
  · conv => whnf
    refine And.intro ⟨hn, by omega, by omega⟩ ?_
    conv => whnf
    refine congrArg (fun x => T.v (Value.int _ x)) ?_
    unfold codeG codeL
    simp [h]
  · conv => whnf
    refine And.intro (by omega) ?_
    conv => whnf
    rw [et]
    refine And.intro ⟨by omega, by omega⟩ ?_
    conv => whnf
    have e : 0 + addN 0 (ipick m 19 % 6).toNat * (0 + 1) = (ipick m 19 % 6).toNat := by simp [addN_eq]
    rw [e]
    refine congrArg (fun x => T.v (Value.int _ x)) ?_
    unfold codeG codeL
    simp [h]
set_option maxRecDepth 100000 in
theorem code09_4 (p n m : Int) (hn : I64 m) : Pure Tryz.prog glR 53 [.agg [.v (.int .i64 4), .v (.int .i64 p), .v (.int .i64 n)], .v (.int .i64 m)] (.v (.int .i64 (codeG 4 m))) := by
  obtain ⟨b1, b2⟩ := ipick_bounds m (n := 19) (by omega)
  have e1 : IntKind.i64.wrap (3 * ((6 : Nat) : Int)) = 18 := by rfl
  have e2 : IntKind.i64.wrap (18 + 1) = 19 := by rfl
  have et : (ipick m 19).tmod ((6 : Nat) : Int) = ipick m 19 % 6 := Int.tmod_eq_emod_of_nonneg b1
  refine pure_of (C := ctxLwB Tryz.prog) ctxLwB_good Tryz.func53 (c := bodyOf Tryz.f53) (by rfl) (Nat.le_of_ble_eq_true (by rfl)) 4 1 [0, 1, 2, 4, 5, 6, 9, 10, 13, 17, 30] ?_
  conv => whnf
  rw [e1, e2]
  refine And.intro ⟨hn, by omega, by omega⟩ ?_
  conv => whnf
  rw [e1]
  refine ifB_eq (fun h => ?_) (fun h => ?_)
  · conv => whnf
    refine And.intro ⟨hn, by omega, by omega⟩ ?_
    conv => whnf
    refine congrArg (fun x => T.v (Value.int _ x)) ?_
    unfold codeG codeL
    simp [h]
  · conv => whnf
    refine And.intro (by omega) ?_
    conv => whnf
    rw [et]
    refine And.intro ⟨by omega, by omega⟩ ?_
    conv => whnf
    have e : 0 + addN 0 (ipick m 19 % 6).toNat * (0 + 1) = (ipick m 19 % 6).toNat := by simp [addN_eq]
    rw [e]
    refine congrArg (fun x => T.v (Value.int _ x)) ?_
    unfold codeG codeL
    simp [h]
set_option maxRecDepth 100000 in
theorem code09_5 (p n m : Int) (hn : I64 m) : Pure Tryz.prog glR 53 [.agg [.v (.int .i64 5), .v (.int .i64 p), .v (.int .i64 n)], .v (.int .i64 m)] (.v (.int .i64 (codeG 5 m))) := by
  obtain ⟨b1, b2⟩ := ipick_bounds m (n := 22) (by omega)
  have e1 : IntKind.i64.wrap (3 * ((7 : Nat) : Int)) = 21 := by rfl
  have e2 : IntKind.i64.wrap (21 + 1) = 22 := by rfl
  have et : (ipick m 22).tmod ((7 : Nat) : Int) = ipick m 22 % 7 := Int.tmod_eq_emod_of_nonneg b1
  refine pure_of (C := ctxLwB Tryz.prog) ctxLwB_good Tryz.func53 (c := bodyOf Tryz.f53) (by rfl) (Nat.le_of_ble_eq_true (by rfl)) 4 1 [0, 1, 2, 4, 5, 6, 9, 10, 13, 17, 30] ?_
  conv => whnf
  rw [e1, e2]
  refine And.intro ⟨hn, by omega, by omega⟩ ?_
  conv => whnf
  rw [e1]
  refine ifB_eq (fun h => ?_) (fun h => ?_)
  · conv => whnf
    refine And.intro ⟨hn, by omega, by omega⟩ ?_
    conv => whnf
    refine congrArg (fun x => T.v (Value.int _ x)) ?_
    unfold codeG codeL
    simp [h]
  · conv => whnf
    refine And.intro (by omega) ?_
    conv => whnf
    rw [et]
    refine And.intro ⟨by omega, by omega⟩ ?_
    conv => whnf
    have e : 0 + addN 0 (ipick m 22 % 7).toNat * (0 + 1) = (ipick m 22 % 7).toNat := by simp [addN_eq]
    rw [e]
    refine congrArg (fun x => T.v (Value.int _ x)) ?_
    unfold codeG codeL
    simp [h]
theorem code09_pure (k p n m : Int) (hk : 1 ≤ k ∧ k ≤ 5) (hn : I64 m) : Pure Tryz.prog glR 53 [.agg [.v (.int .i64 k), .v (.int .i64 p), .v (.int .i64 n)], .v (.int .i64 m)] (.v (.int .i64 (codeG k m))) := by
  rcases (show k = 1 ∨ k = 2 ∨ k = 3 ∨ k = 4 ∨ k = 5 by omega) with rfl | rfl | rfl | rfl | rfl
  · exact code09_1 _ _ _ hn
  · exact code09_2 _ _ _ hn
  · exact code09_3 _ _ _ hn
  · exact code09_4 _ _ _ hn
  · exact code09_5 _ _ _ hn
def eCodeG : Entry := ⟨53, 3, fun l => match l with | [.agg [.v (.int .i64 k), .v (.int .i64 p), .v (.int .i64 n)], .v (.int .i64 m)] => some (some ((1 ≤ k ∧ k ≤ 5) ∧ I64 m), .v (.int .i64 (codeG k m)), []) | _ => none⟩
theorem eCodeG_ok : eCodeG.ok Tryz.prog glR := ⟨Am.enters_of Tryz.func53 (by kernel_rfl) (by kernel_rfl), by
  intro args c t bs h hc
  simp only [eCodeG] at h
  split at h <;> cases h
  replace hc := hc _ rfl
  exact code09_pure _ _ _ _ hc.1 hc.2⟩
attribute [local irreducible] wordS
set_option maxRecDepth 100000 in
theorem keyG_pure (k p n m w : Int) (hn : I64 m) : Pure Tryz.prog glR 54 [.agg [.v (.int .i64 k), .v (.int .i64 p), .v (.int .i64 n)], .v (.int .i64 m), .v (.int .u64 w)] (.v (.int .u64 (keyG k m w))) := by
  obtain ⟨b1, b2⟩ := ipick_bounds m (n := 14) (by omega)
  have hw : IntKind.u64.wrap (ipick m 14) = ipick m 14 := wrapU (by omega) (by omega)
  refine pure_of (C := ctxLwB Tryz.prog) ctxLwB_good Tryz.func54 (c := bodyOf Tryz.f54) (by rfl) (Nat.le_of_ble_eq_true (by rfl)) 4 0 [0, 1, 2, 3, 6, 7, 10, 17, 25] ?_
  conv => whnf
  refine ifB_eq (fun h => ?_) (fun h4 => ?_)
  · conv => whnf
    refine And.intro hn ?_
    conv => whnf
    rw [show keyG k m w = wordS m w from if_pos h]
  conv => whnf
  refine And.intro ⟨hn, by omega, by omega⟩ ?_
  conv => whnf
  repeat' (first | (refine ifB_t (by assumption) ?_; conv => whnf) | (refine ifB_f (by assumption) ?_; conv => whnf) | (refine ifB_dec (fun h => ?_) (fun h => ?_) <;> (first | (exfalso; omega) | (conv => whnf))) | (refine ifB_eq (fun h => ?_) (fun h => ?_) <;> (first | (exfalso; omega) | (conv => whnf))) | (refine ifB_ne (fun h => ?_) (fun h => ?_) <;> (first | (exfalso; omega) | (conv => whnf))) | (refine ifB_not ?_; conv => whnf) | (refine ifB_and ?_; conv => whnf) | (refine ifB_or ?_; conv => whnf) | (refine And.intro ?_ ?_; (first | omega | assumption | (exact allU_getD (by assumption) _) | (simp only [cutL]; omega) | (refine And.intro ?_ ?_ <;> first | assumption | exact allU_getD (by assumption) _) | (simp only [cutL, IntKind.wrap_u64, IntKind.wrap_i64] at *; omega) | decide); conv => whnf) | (refine ifB_mk (fun h => ?_) (fun h => ?_) <;> (conv => whnf)))
  all_goals (refine congrArg (fun x => T.v (Value.int _ x)) ?_; unfold keyG; rw [if_neg h4]; first | (simp [*]; done) | (simp [*]; rfl) | (simp_all; done))
def eKeyG : Entry := ⟨54, 3, fun l => match l with | [.agg [.v (.int .i64 k), .v (.int .i64 p), .v (.int .i64 n)], .v (.int .i64 m), .v (.int .u64 w)] => some (some (I64 m), .v (.int .u64 (keyG k m w)), []) | _ => none⟩
theorem eKeyG_ok : eKeyG.ok Tryz.prog glR := ⟨Am.enters_of Tryz.func54 (by kernel_rfl) (by kernel_rfl), by
  intro args c t bs h hc
  simp only [eKeyG] at h
  split at h <;> cases h
  replace hc := hc _ rfl
  exact keyG_pure _ _ _ _ _ hc⟩
noncomputable def ctxLwB2 (P : Program) : Ctx := ctx P glR [ePick09, eWord09, eKeyG, eCodeG] [] (noEq P) [] (fun _ h => by cases h)
theorem ctxLwB2_good : (ctxLwB2 Tryz.prog).good := ctx_good (by kernel_rfl) (AllOk.mem ⟨ePick09_ok, eWord09_ok, eKeyG_ok, eCodeG_ok, trivial⟩) glR_two
attribute [local irreducible] codeG keyG
set_option maxRecDepth 100000 in
theorem opG_pure (k p n a b c w : Int) (hk : 1 ≤ k ∧ k ≤ 5) (ha : I64 a) (hb : I64 b) (hc : I64 c) : Pure Tryz.prog glR 22 [.agg [.v (.int .i64 k), .v (.int .i64 p), .v (.int .i64 n)], .agg [.v (.int .i64 a), .v (.int .i64 b), .v (.int .i64 c)], .v (.int .u64 w)] (.agg [.v (.int .i64 (codeG k a)), .v (.int .u64 (keyG k b w)), .v (.int .u64 (valG k a c w))]) := by
  have hc' : I64 ([a, b, c].getD 2 0) := hc
  obtain ⟨b1, b2⟩ := ipick_bounds c (n := 10) (by omega)
  have hw : IntKind.u64.wrap (ipick c 10) = ipick c 10 := wrapU (by omega) (by omega)
  refine pure_of (C := ctxLwB2 Tryz.prog) ctxLwB2_good Tryz.func22 (c := bodyOf Tryz.f22) (by rfl) (Nat.le_of_ble_eq_true (by rfl)) 4 0 [0, 1, 2, 3, 4, 6, 7, 29] ?_
  conv => whnf
  repeat' (first | (refine ifB_t (by assumption) ?_; conv => whnf) | (refine ifB_f (by assumption) ?_; conv => whnf) | (refine ifB_dec (fun h => ?_) (fun h => ?_) <;> (first | (exfalso; omega) | (conv => whnf))) | (refine ifB_eq (fun h => ?_) (fun h => ?_) <;> (first | (exfalso; omega) | (conv => whnf))) | (refine ifB_ne (fun h => ?_) (fun h => ?_) <;> (first | (exfalso; omega) | (conv => whnf))) | (refine ifB_not ?_; conv => whnf) | (refine ifB_and ?_; conv => whnf) | (refine ifB_or ?_; conv => whnf) | (refine And.intro ?_ ?_; (first | omega | assumption | (exact allU_getD (by assumption) _) | (simp only [cutL]; omega) | (refine And.intro ?_ ?_ <;> first | assumption | exact allU_getD (by assumption) _) | (simp only [cutL, IntKind.wrap_u64, IntKind.wrap_i64] at *; omega) | decide); conv => whnf) | (refine ifB_mk (fun h => ?_) (fun h => ?_) <;> (conv => whnf)))
  · refine And.intro (show I64 c ∧ (0 : Int) < 10 ∧ (10 : Int) ≤ 4096 from ⟨hc, by omega, by omega⟩) ?_
    conv => whnf
    rw [show valG k a c w = ipick c 10 from if_pos (.inl (by assumption))]
    repeat' (first | exact trivial | exact rfl | (refine And.intro ?_ ?_) | ((conv => whnf); done) | ((conv => whnf); (first | rfl | (refine congrArg (fun b => T.v (Value.bool b)) ?_; first | rfl | exact (decide_eq_true (by omega)).symm | exact (decide_eq_false (by omega)).symm | exact decide_eq_decide.2 (by omega)) | (refine congrArg (fun b => T.v (Value.int _ b)) ?_; first | rfl | omega) | omega)) | (first | rfl | (refine congrArg (fun b => T.v (Value.bool b)) ?_; first | rfl | exact (decide_eq_true (by omega)).symm | exact (decide_eq_false (by omega)).symm | exact decide_eq_decide.2 (by omega)) | (refine congrArg (fun b => T.v (Value.int _ b)) ?_; first | rfl | omega) | omega))
    exact congrArg (fun x => T.v (Value.int _ x)) hw
  · refine And.intro (show I64 c ∧ (0 : Int) < 10 ∧ (10 : Int) ≤ 4096 from ⟨hc, by omega, by omega⟩) ?_
    conv => whnf
    rw [show valG k a c w = ipick c 10 from if_pos (.inr (by assumption))]
    repeat' (first | exact trivial | exact rfl | (refine And.intro ?_ ?_) | ((conv => whnf); done) | ((conv => whnf); (first | rfl | (refine congrArg (fun b => T.v (Value.bool b)) ?_; first | rfl | exact (decide_eq_true (by omega)).symm | exact (decide_eq_false (by omega)).symm | exact decide_eq_decide.2 (by omega)) | (refine congrArg (fun b => T.v (Value.int _ b)) ?_; first | rfl | omega) | omega)) | (first | rfl | (refine congrArg (fun b => T.v (Value.bool b)) ?_; first | rfl | exact (decide_eq_true (by omega)).symm | exact (decide_eq_false (by omega)).symm | exact decide_eq_decide.2 (by omega)) | (refine congrArg (fun b => T.v (Value.int _ b)) ?_; first | rfl | omega) | omega))
    exact congrArg (fun x => T.v (Value.int _ x)) hw
  · rw [show valG k a c w = wordS c w from if_neg (by rintro (h | h); exact absurd h (by assumption); exact absurd h (by assumption))]
    repeat' (first | exact trivial | exact rfl | (refine And.intro ?_ ?_) | ((conv => whnf); done) | ((conv => whnf); (first | rfl | (refine congrArg (fun b => T.v (Value.bool b)) ?_; first | rfl | exact (decide_eq_true (by omega)).symm | exact (decide_eq_false (by omega)).symm | exact decide_eq_decide.2 (by omega)) | (refine congrArg (fun b => T.v (Value.int _ b)) ?_; first | rfl | omega) | omega)) | (first | rfl | (refine congrArg (fun b => T.v (Value.bool b)) ?_; first | rfl | exact (decide_eq_true (by omega)).symm | exact (decide_eq_false (by omega)).symm | exact decide_eq_decide.2 (by omega)) | (refine congrArg (fun b => T.v (Value.int _ b)) ?_; first | rfl | omega) | omega))
def eOpG : Entry := ⟨22, 4, fun l => match l with | [.agg [.v (.int .i64 k), .v (.int .i64 p), .v (.int .i64 n)], .agg [.v (.int .i64 a), .v (.int .i64 b), .v (.int .i64 c)], .v (.int .u64 w)] => some (some ((1 ≤ k ∧ k ≤ 5) ∧ I64 a ∧ I64 b ∧ I64 c), .agg [.v (.int .i64 (codeG k a)), .v (.int .u64 (keyG k b w)), .v (.int .u64 (valG k a c w))], []) | _ => none⟩
theorem eOpG_ok : eOpG.ok Tryz.prog glR := ⟨Am.enters_of Tryz.func22 (by kernel_rfl) (by kernel_rfl), by
  intro args c t bs h hc
  simp only [eOpG] at h
  split at h <;> cases h
  replace hc := hc _ rfl
  exact opG_pure _ _ _ _ _ _ _ hc.1 hc.2.1 hc.2.2.1 hc.2.2.2⟩
end Go.Proofs.YtnplgklnkcjmnaaGreatDoor
namespace Go.Proofs.YtnplgklnkcjmnaaGreatDoor
open Go.RowKit Go.Proofs.YtnplgklnkcjmnaaGreatDoor.Am
set_option linter.unusedVariables false
set_option linter.unusedSimpArgs false

noncomputable def ctxKdE0 (P : Program) : Ctx := ctx P glR [eFitsT] [] (noEq P) [] (fun _ h => by cases h)
theorem ctxKdE0_good : (ctxKdE0 Tryz.prog).good := ctx_good (by kernel_rfl) (AllOk.mem ⟨eFitsT_ok, trivial⟩) glR_two
attribute [local irreducible] fitsB codeG keyG valG tabD
set_option maxRecDepth 100000 in
theorem newK_pure (k p n : Int) (h5 : k ≠ 5) (hf : fitsB k p n = true) : Pure Tryz.prog glR 44 [.agg [.v (.int .i64 k), .v (.int .i64 p), .v (.int .i64 n)]] (.tup [SO 0 0 0 0 false, .v (.int .i64 0)]) (SH [] [] []) := by
  refine pure_of (C := ctxKdE0 Tryz.prog) ctxKdE0_good Tryz.func44 (c := bodyOf Tryz.f44) (by rfl) (Nat.le_of_ble_eq_true (by rfl)) 4 0 [0, 1, 2, 3, 4, 7, 12] ?_
  conv => whnf
  refine And.intro hf ?_
  conv => whnf
  refine ifB_eq (fun h => absurd h h5) (fun _ => ?_)
  conv => whnf
  repeat' (first | exact trivial | exact rfl | (refine And.intro ?_ ?_) | ((conv => whnf); done) | ((conv => whnf); (first | rfl | (refine congrArg (fun b => T.v (Value.bool b)) ?_; first | rfl | exact (decide_eq_true (by omega)).symm | exact (decide_eq_false (by omega)).symm | exact decide_eq_decide.2 (by omega)) | (refine congrArg (fun b => T.v (Value.int _ b)) ?_; first | rfl | omega) | omega)) | (first | rfl | (refine congrArg (fun b => T.v (Value.bool b)) ?_; first | rfl | exact (decide_eq_true (by omega)).symm | exact (decide_eq_false (by omega)).symm | exact decide_eq_decide.2 (by omega)) | (refine congrArg (fun b => T.v (Value.int _ b)) ?_; first | rfl | omega) | omega))
def eNewK : Entry := ⟨44, 3, fun l => match l with | [.agg [.v (.int .i64 k), .v (.int .i64 p), .v (.int .i64 n)]] => some (some (k ≠ 5 ∧ fitsB k p n = true), .tup [SO 0 0 0 0 false, .v (.int .i64 0)], SH [] [] []) | _ => none⟩
theorem eNewK_ok : eNewK.ok Tryz.prog glR := ⟨Am.enters_of Tryz.func44 (by kernel_rfl) (by kernel_rfl), by
  intro args c t bs h hc
  simp only [eNewK] at h
  split at h <;> cases h
  replace hc := hc _ rfl
  exact newK_pure _ _ _ hc.1 hc.2⟩
/-- Keys and values behind so many raw calls. -/
def stK (k : Int) (m : Nat) (raw : List Int) : Nat → List Int × List Int
  | 0 => ([], [])
  | j + 1 => ((tabD k m (stK k m raw j).1 (stK k m raw j).2 (codeG k (raw.getD (j * 3) 0)) (keyG k (raw.getD (j * 3 + 1) 0) j) (valG k (raw.getD (j * 3) 0) (raw.getD (j * 3 + 2) 0) j)).1, (tabD k m (stK k m raw j).1 (stK k m raw j).2 (codeG k (raw.getD (j * 3) 0)) (keyG k (raw.getD (j * 3 + 1) 0) j) (valG k (raw.getD (j * 3) 0) (raw.getD (j * 3 + 2) 0) j)).2.1)
theorem stK_v (k : Int) (m : Nat) (raw : List Int) : ∀ j, j ≤ 30 → TabV k m (stK k m raw j).1 (stK k m raw j).2
  | 0, _ => tabV_nil k m
  | j + 1, h => tabD_v (stK_v k m raw j (by omega)) (u64_keyG ⟨by omega, by omega⟩) (u64_valG ⟨by omega, by omega⟩)
theorem allI_getD' {xs : List Int} (h : AllI xs) (i : Nat) : I64 (xs.getD i 0) := by
  by_cases hi : i < xs.length
  · exact h.at hi
  · rw [List.getD_eq_getElem?_getD, List.getElem?_eq_none (by omega)]; exact ⟨by decide, by decide⟩
noncomputable def ctxKdE (P : Program) : Ctx := ctx P glR [eNewK, eDoK, eOpG] [] (noEq P) [] (fun _ h => by cases h)
theorem ctxKdE_good : (ctxKdE Tryz.prog).good := ctx_good (by kernel_rfl) (AllOk.mem ⟨eNewK_ok, eDoK_ok, eOpG_ok, trivial⟩) glR_two
set_option maxRecDepth 100000 in
theorem stateK_pure (k p : Int) (n : Nat) (hk : k = 2 ∨ k = 3 ∨ k = 4) (hf : fitsB k p n = true) (m : Nat) (raw : List Int) (hx : AllI raw) : Pure Tryz.prog glR 14 [.agg [.v (.int .i64 k), .v (.int .i64 p), .v (.int .i64 n)], .fl [.i64, .i64, .i64] m raw] (SO 0 (stK k n raw (min m 30)).1.length (stK k n raw (min m 30)).2.length 0 false) (SH (stK k n raw (min m 30)).1 (stK k n raw (min m 30)).2 []) := by
  refine pure_wf fun hw => ?_
  obtain ⟨-, ⟨w1, w2⟩, -⟩ := hw
  simp only [List.length_cons, List.length_nil, Nat.zero_add, Nat.mul_one] at w1
  refine pure_of (C := ctxKdE Tryz.prog) ctxKdE_good Tryz.func14 (c := bodyOf Tryz.f14) (by rfl) (Nat.le_of_ble_eq_true (by rfl)) 4 0 [0, 1, 2, 4, 5, 7, 8, 10, 23, 42] ?_
  conv => whnf
  refine And.intro ⟨by omega, hf⟩ ?_
  conv => whnf
  refine TW.loopD ctxKdE_good 0 (base := 0) (lv := [0, 1, 2, 4, 5, 7, 8, 10, 23, 42]) [7] [20, 52, 53, 54] [(20, 20), (52, 52), (53, 53), (54, 54)] (fun j : Nat => [.v (.int .i64 j)]) (fun j => [.cs [.v (.int .u64 0), .ow 52 1 (stK k n raw j).1.length, .ow 53 1 (stK k n raw j).2.length, .ow 54 1 0, .v (.bool false)], .fl [.u64] (stK k n raw j).1, .fl [.u64] (stK k n raw j).2, .fl [.i64] []]) (fun j => j ≤ m ∧ j ≤ 30) (fun j => 30 - j) ?_
  conv => whnf
  refine ⟨⟨0, ⟨rfl, rfl, rfl⟩, ⟨by omega, by omega⟩⟩, fun j ⟨hj, hj2⟩ => ?_⟩
  conv => whnf
  refine ifB_dec (fun h => ?_) (fun h => ?_)
  · conv => whnf
    refine ifB_dec (fun h2 => ?_) (fun h2 => ?_)
    · conv => whnf
      refine And.intro (by omega) ?_
      conv => whnf
      refine And.intro ⟨by omega, allI_getD' hx _, allI_getD' hx _, allI_getD' hx _⟩ ?_
      conv => whnf
      have i0 : 0 + (j : Int).toNat * (2 + 1) + 0 = j * 3 := by omega
      have i1 : 0 + (j : Int).toNat * (2 + 1) + (0 + 1) = j * 3 + 1 := by omega
      have i2 : 0 + (j : Int).toNat * (2 + 1) + (0 + 1 + 1) = j * 3 + 2 := by omega
      have ew : IntKind.u64.wrap (j : Int) = j := wrapU (by omega) (by omega)
      have uj : U64 (IntKind.u64.wrap (j : Int)) := by rw [ew]; exact ⟨by omega, by omega⟩
      refine And.intro ⟨hk, hf, (by rw [Int.toNat_natCast]; exact stK_v k n raw j (by omega)), ⟨rfl, rfl, rfl⟩, u64_keyG uj, u64_valG uj⟩ ?_
      conv => whnf
      rw [i0, i1, i2, ew, wsucc (n := m) (by omega) w2]
      exact ⟨j + 1, [(20, 20), (148, 52), (149, 53), (150, 54)], ⟨rfl, rfl, rfl⟩, ⟨by omega, by omega⟩, by (try dsimp only); omega⟩
    · conv => whnf
      rw [show min m 30 = j by omega]
      repeat' (first | exact trivial | exact rfl | (refine And.intro ?_ ?_) | ((conv => whnf); done) | ((conv => whnf); (first | rfl | (refine congrArg (fun b => T.v (Value.bool b)) ?_; first | rfl | exact (decide_eq_true (by omega)).symm | exact (decide_eq_false (by omega)).symm | exact decide_eq_decide.2 (by omega)) | (refine congrArg (fun b => T.v (Value.int _ b)) ?_; first | rfl | omega) | omega)) | (first | rfl | (refine congrArg (fun b => T.v (Value.bool b)) ?_; first | rfl | exact (decide_eq_true (by omega)).symm | exact (decide_eq_false (by omega)).symm | exact decide_eq_decide.2 (by omega)) | (refine congrArg (fun b => T.v (Value.int _ b)) ?_; first | rfl | omega) | omega))
  · conv => whnf
    rw [show min m 30 = j by omega]
    repeat' (first | exact trivial | exact rfl | (refine And.intro ?_ ?_) | ((conv => whnf); done) | ((conv => whnf); (first | rfl | (refine congrArg (fun b => T.v (Value.bool b)) ?_; first | rfl | exact (decide_eq_true (by omega)).symm | exact (decide_eq_false (by omega)).symm | exact decide_eq_decide.2 (by omega)) | (refine congrArg (fun b => T.v (Value.int _ b)) ?_; first | rfl | omega) | omega)) | (first | rfl | (refine congrArg (fun b => T.v (Value.bool b)) ?_; first | rfl | exact (decide_eq_true (by omega)).symm | exact (decide_eq_false (by omega)).symm | exact decide_eq_decide.2 (by omega)) | (refine congrArg (fun b => T.v (Value.int _ b)) ?_; first | rfl | omega) | omega))
def eStateK : Entry := ⟨14, 4, fun l => match l with | [.agg [.v (.int .i64 k), .v (.int .i64 p), .v (.int .i64 n)], .fl [.i64, .i64, .i64] m raw] => some (some ((k = 2 ∨ k = 3 ∨ k = 4) ∧ fitsB k p n = true ∧ AllI raw), SO 0 (stK k n.toNat raw (min m 30)).1.length (stK k n.toNat raw (min m 30)).2.length 0 false, SH (stK k n.toNat raw (min m 30)).1 (stK k n.toNat raw (min m 30)).2 []) | _ => none⟩
theorem eStateK_ok : eStateK.ok Tryz.prog glR := ⟨Am.enters_of Tryz.func14 (by kernel_rfl) (by kernel_rfl), by
  intro args c t bs h hc
  simp only [eStateK] at h
  split at h <;> cases h
  replace hc := hc _ rfl
  exact (by have := fitsK hc.2.1; rename_i n m raw; obtain ⟨n0, rfl⟩ := Int.eq_ofNat_of_zero_le (a := n) (by omega); exact stateK_pure _ _ n0 hc.1 hc.2.1 _ _ hc.2.2)⟩
end Go.Proofs.YtnplgklnkcjmnaaGreatDoor
namespace Go.Proofs.YtnplgklnkcjmnaaGreatDoor.DcT
open Go.RowKit Go.Proofs.YtnplgklnkcjmnaaGreatDoor.Am Go.Proofs.YtnplgklnkcjmnaaGreatDoor Go.Proofs.YtnplgklnkcjmnaaGreatDoor.PrT
set_option linter.unusedVariables false
set_option linter.unusedSimpArgs false


def wdK (k : Int) : Nat := if k = 3 then 2 else 1
section
variable {v m : Nat} {k : Int} {ks vs : List Int}
theorem _root_.Go.Proofs.YtnplgklnkcjmnaaGreatDoor.TabV.bld (h : TabV k m ks vs) (hk : KV v k) (hm0 : 0 < m) (hm : m ≤ 256) : bldE ((2 * m : Nat) : Int) (v : Int) (rsK v ks vs) = 0 ∧ bldW ((2 * m : Nat) : Int) (v : Int) (rsK v ks vs) = tabT v m ks vs := by
  have hR := h.recs hk
  have e : bldE ((2 * m : Nat) : Int) (v : Int) (rsK v ks vs) = 0 := by
    unfold bldE
    have hv := hk.v
    rw [if_neg (by omega), if_neg, if_neg (by have := h.rlen (v := v); omega)]
    rintro (⟨r, hr, hb⟩ | q)
    · have h0 := hR.nz r hr
      by_cases e1 : v = 1
      · rw [badR_ok1 h0 (h.nv e1 r hr)] at hb; cases hb
      · obtain rfl : v = 2 := by omega
        rw [show (((2 : Nat) : Int)) = 2 from rfl, badR_ok2 h0] at hb; cases hb
    · exact q hR.nd
  refine ⟨e, ?_⟩
  unfold bldW
  rw [e, if_pos rfl, Int.toNat_natCast, Int.toNat_natCast]; rfl
end
theorem take_rs (v : Nat) (ks vs : List Int) {j : Nat} (h : j < ks.length) : (rsK v ks vs).take (j + 1) = (rsK v ks vs).take j ++ [(ks.getD j 0 + 1, if v = 1 then 0 else vs.getD j 0)] := by
  rw [take_snocR (by rw [rsK_len]; exact h), rsK_get v ks vs h]
theorem rs_recs (v : Nat) (ks vs : List Int) : recs ks.length 2 (flat 2 (rsK v ks vs)) = rsK v ks vs := recs_flat (.inr rfl) (rsK_len _ _ _) (fun q => by cases q)
set_option maxRecDepth 100000 in
theorem width10_pure (k p n : Int) : Pure Tryz.prog glR 75 [.agg [.v (.int .i64 k), .v (.int .i64 p), .v (.int .i64 n)]] (.v (.int .i64 (wdK k))) := by
  refine pure_of (C := ctx0 Tryz.prog) ctx0_good Tryz.func75 (c := bodyOf Tryz.f75) (by rfl) (Nat.le_of_ble_eq_true (by rfl)) 4 0 [0, 1, 2, 5] ?_
  conv => whnf
  refine ifB_eq (fun h => ?_) (fun h => ?_)
  · conv => whnf
    rw [show wdK k = 2 by unfold wdK; rw [if_pos h]]
    repeat' (first | exact trivial | exact rfl | (refine And.intro ?_ ?_) | ((conv => whnf); done) | ((conv => whnf); (first | rfl | (refine congrArg (fun b => T.v (Value.bool b)) ?_; first | rfl | exact (decide_eq_true (by omega)).symm | exact (decide_eq_false (by omega)).symm | exact decide_eq_decide.2 (by omega)) | (refine congrArg (fun b => T.v (Value.int _ b)) ?_; first | rfl | omega) | omega)) | (first | rfl | (refine congrArg (fun b => T.v (Value.bool b)) ?_; first | rfl | exact (decide_eq_true (by omega)).symm | exact (decide_eq_false (by omega)).symm | exact decide_eq_decide.2 (by omega)) | (refine congrArg (fun b => T.v (Value.int _ b)) ?_; first | rfl | omega) | omega))
  · conv => whnf
    rw [show wdK k = 1 by unfold wdK; rw [if_neg h]]
    repeat' (first | exact trivial | exact rfl | (refine And.intro ?_ ?_) | ((conv => whnf); done) | ((conv => whnf); (first | rfl | (refine congrArg (fun b => T.v (Value.bool b)) ?_; first | rfl | exact (decide_eq_true (by omega)).symm | exact (decide_eq_false (by omega)).symm | exact decide_eq_decide.2 (by omega)) | (refine congrArg (fun b => T.v (Value.int _ b)) ?_; first | rfl | omega) | omega)) | (first | rfl | (refine congrArg (fun b => T.v (Value.bool b)) ?_; first | rfl | exact (decide_eq_true (by omega)).symm | exact (decide_eq_false (by omega)).symm | exact decide_eq_decide.2 (by omega)) | (refine congrArg (fun b => T.v (Value.int _ b)) ?_; first | rfl | omega) | omega))
noncomputable def eWidth10 : Entry := ⟨75, 3, fun l => match l with | [.agg [.v (.int .i64 k), .v (.int .i64 p), .v (.int .i64 n)]] => some (none, .v (.int .i64 (wdK k)), []) | _ => none⟩
theorem eWidth10_ok : eWidth10.ok Tryz.prog glR := ⟨Am.enters_of Tryz.func75 (by kernel_rfl) (by kernel_rfl), by
  intro args c t bs h hc
  simp only [eWidth10] at h
  split at h <;> cases h
  exact width10_pure _ _ _⟩
noncomputable def ctxTb10 (P : Program) : Ctx := ctx P glR [eWidth10, eRBuild] [] (noEq P) [] (fun _ h => by cases h)
theorem ctxTb10_good : (ctxTb10 Tryz.prog).good := ctx_good (by kernel_rfl) (AllOk.mem ⟨eWidth10_ok, eRBuild_ok, trivial⟩) glR_two
attribute [local irreducible] bldE bldW rsK tabT recs
set_option maxHeartbeats 1000000 in
set_option maxRecDepth 100000 in
theorem rtab1_pure (r p : Int) (m n1 n2 n3 : Nat) (ks vs ws : List Int) (c : Bool) (h : TabV 2 m ks vs) (hm0 : 0 < m) (hm : m ≤ 256) (l1 : ks.length = n1) (l2 : vs.length = n2) : Pure Tryz.prog glR 41 [.agg [.v (.int .i64 2), .v (.int .i64 p), .v (.int .i64 m)], ST r n1 ks n2 vs n3 ws c] (.ow 0 1 (2 * m * 1)) [(0, .fl [.u64] (tabT 1 m ks vs))] := by
  have hk : KV 1 2 := by simp [KV]
  have hn1 := h.len
  have hvl : 1 = 2 → n2 = n1 := fun e => by have := h.vlen; rw [hk.val, if_pos (decide_eq_true e)] at this; omega
  obtain ⟨b1, b2⟩ := h.bld hk hm0 hm
  have hU : ∀ x ∈ rsK 1 ks vs, sP.U x.1 := (h.recs hk).u
  have htl := (h.tb hk).len
  have hkb : ∀ j, j < n1 → 0 ≤ ks.getD j 0 ∧ ks.getD j 0 ≤ 4611686018427387904 := fun j hj => h.k_u hk (by omega)
  have hrr := rs_recs 1 ks vs
  rw [l1] at hrr
  refine pure_of (C := ctxTb10 Tryz.prog) ctxTb10_good Tryz.func41 (c := bodyOf Tryz.f41) (by rfl) (Nat.le_of_ble_eq_true (by rfl)) 4 0 [0, 1, 2, 3, 4, 5, 6, 7, 8, 14, 26] ?_
  conv => whnf
  refine TW.nilOwn 5 5000 2 (.fl [.u64, .u64] []) rfl rfl (.inr ⟨_, _, rfl⟩) (by decide) ?_
  refine TW.loopD ctxTb10_good 0 (base := 0) (lv := [0, 1, 2, 3, 4, 5, 6, 7, 8, 14, 26]) [5, 6] [5000] [(5000, 5000)] (fun j : Nat => [.ow 5000 2 j, .v (.int .i64 j)]) (fun j => [.fl [.u64, .u64] (flat 2 ((rsK 1 ks vs).take j))]) (fun j => j ≤ n1) (fun j => n1 - j) ?_
  conv => whnf
  refine ⟨⟨0, ⟨rfl, rfl, rfl⟩, Nat.zero_le _⟩, fun j hj => ?_⟩
  replace hj : j ≤ n1 := hj
  conv => whnf
  refine ifB_dec (fun q => ?_) (fun q => ?_)
  · replace q : (j : Int) < n1 := q
    have hs := take_rs 1 ks vs (j := j) (by omega)
    obtain ⟨k1, k2⟩ := hkb j (by omega)
    have E0 : ∀ X : List Int, X.getD (0 + (j : Int).toNat * (0 + 1)) 0 = X.getD j 0 := fun X => by rw [show 0 + (j : Int).toNat * (0 + 1) = j by omega]
    have e1 : IntKind.u64.wrap (ks.getD j 0 + 1) = ks.getD j 0 + 1 := wrapU (by omega) (by omega)
    conv => whnf
    repeat (first | (refine And.intro (by omega) ?_; conv => whnf) | (rw [E0]; conv => whnf))
    rw [e1, wsucc (j := j) (n := n1) (by omega) (by omega)]
    refine ⟨j + 1, [(144, 5000)], ⟨rfl, rfl, ?_⟩, (by omega : j + 1 ≤ n1), by dsimp only; omega⟩
    show _ = (5000, Blk.fl [.u64, .u64] (flat 2 ((rsK 1 ks vs).take (j + 1)))) :: _
    rw [hs, flat_append]; rfl
  · replace q : ¬ (j : Int) < n1 := q
    obtain rfl : j = n1 := by omega
    have hta : (rsK 1 ks vs).take j = rsK 1 ks vs := List.take_of_length_le (by rw [rsK_len]; omega)
    conv => whnf
    rw [hta, hrr]
    refine And.intro ⟨by omega, hU⟩ ?_
    conv => whnf
    rw [show IntKind.i64.wrap (2 * (m : Int)) = ((2 * m : Nat) : Int) by rw [wrap64 (by omega) (by omega)]; omega, show ((wdK 2 : Nat) : Int) = ((1 : Nat) : Int) from rfl, b2, htl]
    repeat' (first | exact trivial | exact rfl | (refine And.intro ?_ ?_) | ((conv => whnf); done) | ((conv => whnf); (first | rfl | (refine congrArg (fun b => T.v (Value.bool b)) ?_; first | rfl | exact (decide_eq_true (by omega)).symm | exact (decide_eq_false (by omega)).symm | exact decide_eq_decide.2 (by omega)) | (refine congrArg (fun b => T.v (Value.int _ b)) ?_; first | rfl | omega) | omega)) | (first | rfl | (refine congrArg (fun b => T.v (Value.bool b)) ?_; first | rfl | exact (decide_eq_true (by omega)).symm | exact (decide_eq_false (by omega)).symm | exact decide_eq_decide.2 (by omega)) | (refine congrArg (fun b => T.v (Value.int _ b)) ?_; first | rfl | omega) | omega))
set_option maxHeartbeats 1000000 in
set_option maxRecDepth 100000 in
theorem rtab2_pure (r p : Int) (m n1 n2 n3 : Nat) (ks vs ws : List Int) (c : Bool) (h : TabV 3 m ks vs) (hm0 : 0 < m) (hm : m ≤ 256) (l1 : ks.length = n1) (l2 : vs.length = n2) : Pure Tryz.prog glR 41 [.agg [.v (.int .i64 3), .v (.int .i64 p), .v (.int .i64 m)], ST r n1 ks n2 vs n3 ws c] (.ow 0 1 (2 * m * 2)) [(0, .fl [.u64] (tabT 2 m ks vs))] := by
  have hk : KV 2 3 := by simp [KV]
  have hn1 := h.len
  have hvl : 2 = 2 → n2 = n1 := fun e => by have := h.vlen; rw [hk.val, if_pos (decide_eq_true e)] at this; omega
  obtain ⟨b1, b2⟩ := h.bld hk hm0 hm
  have hU : ∀ x ∈ rsK 2 ks vs, sP.U x.1 := (h.recs hk).u
  have htl := (h.tb hk).len
  have hkb : ∀ j, j < n1 → 0 ≤ ks.getD j 0 ∧ ks.getD j 0 ≤ 4611686018427387904 := fun j hj => h.k_u hk (by omega)
  have hrr := rs_recs 2 ks vs
  rw [l1] at hrr
  refine pure_of (C := ctxTb10 Tryz.prog) ctxTb10_good Tryz.func41 (c := bodyOf Tryz.f41) (by rfl) (Nat.le_of_ble_eq_true (by rfl)) 4 0 [0, 1, 2, 3, 4, 5, 6, 7, 8, 14, 26] ?_
  conv => whnf
  refine TW.nilOwn 5 5000 2 (.fl [.u64, .u64] []) rfl rfl (.inr ⟨_, _, rfl⟩) (by decide) ?_
  refine TW.loopD ctxTb10_good 0 (base := 0) (lv := [0, 1, 2, 3, 4, 5, 6, 7, 8, 14, 26]) [5, 6] [5000] [(5000, 5000)] (fun j : Nat => [.ow 5000 2 j, .v (.int .i64 j)]) (fun j => [.fl [.u64, .u64] (flat 2 ((rsK 2 ks vs).take j))]) (fun j => j ≤ n1) (fun j => n1 - j) ?_
  conv => whnf
  refine ⟨⟨0, ⟨rfl, rfl, rfl⟩, Nat.zero_le _⟩, fun j hj => ?_⟩
  replace hj : j ≤ n1 := hj
  conv => whnf
  refine ifB_dec (fun q => ?_) (fun q => ?_)
  · replace q : (j : Int) < n1 := q
    have hs := take_rs 2 ks vs (j := j) (by omega)
    obtain ⟨k1, k2⟩ := hkb j (by omega)
    have E0 : ∀ X : List Int, X.getD (0 + (j : Int).toNat * (0 + 1)) 0 = X.getD j 0 := fun X => by rw [show 0 + (j : Int).toNat * (0 + 1) = j by omega]
    have e1 : IntKind.u64.wrap (ks.getD j 0 + 1) = ks.getD j 0 + 1 := wrapU (by omega) (by omega)
    conv => whnf
    repeat (first | (refine And.intro (by omega) ?_; conv => whnf) | (rw [E0]; conv => whnf))
    rw [e1, wsucc (j := j) (n := n1) (by omega) (by omega)]
    refine ⟨j + 1, [(144, 5000)], ⟨rfl, rfl, ?_⟩, (by omega : j + 1 ≤ n1), by dsimp only; omega⟩
    show _ = (5000, Blk.fl [.u64, .u64] (flat 2 ((rsK 2 ks vs).take (j + 1)))) :: _
    rw [hs, flat_append]; rfl
  · replace q : ¬ (j : Int) < n1 := q
    obtain rfl : j = n1 := by omega
    have hta : (rsK 2 ks vs).take j = rsK 2 ks vs := List.take_of_length_le (by rw [rsK_len]; omega)
    conv => whnf
    rw [hta, hrr]
    refine And.intro ⟨by omega, hU⟩ ?_
    conv => whnf
    rw [show IntKind.i64.wrap (2 * (m : Int)) = ((2 * m : Nat) : Int) by rw [wrap64 (by omega) (by omega)]; omega, show ((wdK 3 : Nat) : Int) = ((2 : Nat) : Int) from rfl, b2, htl]
    repeat' (first | exact trivial | exact rfl | (refine And.intro ?_ ?_) | ((conv => whnf); done) | ((conv => whnf); (first | rfl | (refine congrArg (fun b => T.v (Value.bool b)) ?_; first | rfl | exact (decide_eq_true (by omega)).symm | exact (decide_eq_false (by omega)).symm | exact decide_eq_decide.2 (by omega)) | (refine congrArg (fun b => T.v (Value.int _ b)) ?_; first | rfl | omega) | omega)) | (first | rfl | (refine congrArg (fun b => T.v (Value.bool b)) ?_; first | rfl | exact (decide_eq_true (by omega)).symm | exact (decide_eq_false (by omega)).symm | exact decide_eq_decide.2 (by omega)) | (refine congrArg (fun b => T.v (Value.int _ b)) ?_; first | rfl | omega) | omega))
noncomputable def eTab10 : Entry := ⟨41, 5, fun l => match l.map fixS with
  | [.agg [.v (.int .i64 k), .v (.int .i64 p), .v (.int .i64 n)], .agg [.v (.int .u64 r), .fl [.u64] n1 ks, .fl [.u64] n2 vs, .fl [.i64] n3 ws, .v (.bool c)]] =>
    some (some ((k = 2 ∨ k = 3) ∧ (1 ≤ n ∧ n ≤ 256) ∧ TabV k n.toNat ks vs), .ow 0 1 (2 * n.toNat * wdK k), [(0, .fl [.u64] (tabT (wdK k) n.toNat ks vs))])
  | _ => none⟩
theorem eTab10_ok : eTab10.ok Tryz.prog glR := ⟨Am.enters_of Tryz.func41 (by kernel_rfl) (by kernel_rfl), by
  intro args c t bs h hc
  simp only [eTab10] at h
  split at h <;> cases h
  rename_i k p n r n1 ks n2 vs n3 ws c heq
  obtain ⟨hk, hn, hv⟩ := hc _ rfl
  obtain ⟨m, rfl⟩ := Int.eq_ofNat_of_zero_le (a := n) (by omega)
  rw [Int.toNat_natCast] at hv
  refine pure_fixS ?_
  rw [heq]
  refine pure_wf fun hw => ?_
  obtain ⟨-, ⟨-, ⟨w1, -⟩, ⟨w2, -⟩, ⟨w3, -⟩, -, -⟩, -⟩ := hw
  simp only [List.length_cons, List.length_nil, Nat.zero_add, Nat.mul_one] at w1 w2 w3
  rcases hk with rfl | rfl
  · exact rtab1_pure r p m n1 n2 n3 ks vs ws c hv (by omega) (by omega) w1 w2
  · exact rtab2_pure r p m n1 n2 n3 ks vs ws c hv (by omega) (by omega) w1 w2⟩
noncomputable def eRightTr : Entry := eRightX true
theorem eRightTr_ok : eRightTr.ok Tryz.prog glR := eRightX_ok true
noncomputable def ctxEn10 (P : Program) : Ctx := ctx P glR [eFitsT, eRightTr, eTab10] [] (noEq P) [] (fun _ h => by cases h)
theorem ctxEn10_good : (ctxEn10 Tryz.prog).good := ctx_good (by kernel_rfl) (AllOk.mem ⟨eFitsT_ok, eRightTr_ok, eTab10_ok, trivial⟩) glR_two
attribute [local irreducible] fitsB rightT
set_option maxHeartbeats 1000000 in
set_option maxRecDepth 100000 in
theorem enc1_pure (p : Int) (m n1 n2 : Nat) (ks vs : List Int) (h : TabV 2 m ks vs) (hf : fitsB 2 p m = true) (l1 : ks.length = n1) (l2 : vs.length = n2) : Pure Tryz.prog glR 13 [.agg [.v (.int .i64 2), .v (.int .i64 p), .v (.int .i64 m)], ST 0 n1 ks n2 vs 0 [] false] (.tup [.ow 0 1 (1 + 2 * m * 1), .v (.int .i64 0)]) [(0, .fl [.u64] (encT 1 m ks vs))] := by
  have hk : KV 1 2 := by simp [KV]
  have hm := fitsK hf
  have hn1 := h.len
  have hvl := h.vlen
  have hvb := hk.val
  have el := h.enc_len hk
  have hr := h.right hf
  refine pure_of (C := ctxEn10 Tryz.prog) ctxEn10_good Tryz.func13 (c := bodyOf Tryz.f13) (by rfl) (Nat.le_of_ble_eq_true (by rfl)) 4 1 [0, 1, 2, 3, 4, 5, 6, 7, 10, 14, 21, 22, 27, 35, 43] ?_
  conv => whnf
  refine And.intro hf ?_
  conv => whnf
  refine And.intro ⟨⟨hk.kd, h.u1, by omega, by split at hvl <;> omega⟩, hr⟩ ?_
  conv => whnf
  repeat (refine And.intro (by omega) ?_; conv => whnf)
  refine And.intro ⟨by decide, by omega, by rw [Int.toNat_natCast]; exact h⟩ ?_
  conv => whnf
  rw [Int.toNat_natCast, show wdK 2 = 1 from rfl, show IntKind.u64.wrap ((n1 : Nat) : Int) = n1 from wrapU (by omega) (by omega)]
  refine And.intro (by omega) ?_
  conv => whnf
  rw [← l1]
  repeat' (first | exact trivial | exact rfl | (refine And.intro ?_ ?_) | ((conv => whnf); done) | ((conv => whnf); (first | rfl | (refine congrArg (fun b => T.v (Value.bool b)) ?_; first | rfl | exact (decide_eq_true (by omega)).symm | exact (decide_eq_false (by omega)).symm | exact decide_eq_decide.2 (by omega)) | (refine congrArg (fun b => T.v (Value.int _ b)) ?_; first | rfl | omega) | omega)) | (first | rfl | (refine congrArg (fun b => T.v (Value.bool b)) ?_; first | rfl | exact (decide_eq_true (by omega)).symm | exact (decide_eq_false (by omega)).symm | exact decide_eq_decide.2 (by omega)) | (refine congrArg (fun b => T.v (Value.int _ b)) ?_; first | rfl | omega) | omega))
set_option maxHeartbeats 1000000 in
set_option maxRecDepth 100000 in
theorem enc2_pure (p : Int) (m n1 n2 : Nat) (ks vs : List Int) (h : TabV 3 m ks vs) (hf : fitsB 3 p m = true) (l1 : ks.length = n1) (l2 : vs.length = n2) : Pure Tryz.prog glR 13 [.agg [.v (.int .i64 3), .v (.int .i64 p), .v (.int .i64 m)], ST 0 n1 ks n2 vs 0 [] false] (.tup [.ow 0 1 (1 + 2 * m * 2), .v (.int .i64 0)]) [(0, .fl [.u64] (encT 2 m ks vs))] := by
  have hk : KV 2 3 := by simp [KV]
  have hm := fitsK hf
  have hn1 := h.len
  have hvl := h.vlen
  have hvb := hk.val
  have el := h.enc_len hk
  have hr := h.right hf
  refine pure_of (C := ctxEn10 Tryz.prog) ctxEn10_good Tryz.func13 (c := bodyOf Tryz.f13) (by rfl) (Nat.le_of_ble_eq_true (by rfl)) 4 1 [0, 1, 2, 3, 4, 5, 6, 7, 10, 14, 21, 22, 27, 35, 43] ?_
  conv => whnf
  refine And.intro hf ?_
  conv => whnf
  refine And.intro ⟨⟨hk.kd, h.u1, by omega, by split at hvl <;> omega⟩, hr⟩ ?_
  conv => whnf
  repeat (refine And.intro (by omega) ?_; conv => whnf)
  refine And.intro ⟨by decide, by omega, by rw [Int.toNat_natCast]; exact h⟩ ?_
  conv => whnf
  rw [Int.toNat_natCast, show wdK 3 = 2 from rfl, show IntKind.u64.wrap ((n1 : Nat) : Int) = n1 from wrapU (by omega) (by omega)]
  refine And.intro (by omega) ?_
  conv => whnf
  rw [← l1]
  repeat' (first | exact trivial | exact rfl | (refine And.intro ?_ ?_) | ((conv => whnf); done) | ((conv => whnf); (first | rfl | (refine congrArg (fun b => T.v (Value.bool b)) ?_; first | rfl | exact (decide_eq_true (by omega)).symm | exact (decide_eq_false (by omega)).symm | exact decide_eq_decide.2 (by omega)) | (refine congrArg (fun b => T.v (Value.int _ b)) ?_; first | rfl | omega) | omega)) | (first | rfl | (refine congrArg (fun b => T.v (Value.bool b)) ?_; first | rfl | exact (decide_eq_true (by omega)).symm | exact (decide_eq_false (by omega)).symm | exact decide_eq_decide.2 (by omega)) | (refine congrArg (fun b => T.v (Value.int _ b)) ?_; first | rfl | omega) | omega))
noncomputable def eEnc10 : Entry := ⟨13, 6, fun l => match l.map fixS with
  | [.agg [.v (.int .i64 k), .v (.int .i64 p), .v (.int .i64 n)], .agg [.v (.int .u64 r), .fl [.u64] n1 ks, .fl [.u64] n2 vs, .fl [.i64] n3 ws, .v (.bool c)]] =>
    some (some ((k = 2 ∨ k = 3) ∧ fitsB k p n = true ∧ TabV k n.toNat ks vs ∧ (r = 0 ∧ ws = [] ∧ c = false)), .tup [.ow 0 1 (1 + 2 * n.toNat * wdK k), .v (.int .i64 0)], [(0, .fl [.u64] (encT (wdK k) n.toNat ks vs))])
  | _ => none⟩
theorem eEnc10_ok : eEnc10.ok Tryz.prog glR := ⟨Am.enters_of Tryz.func13 (by kernel_rfl) (by kernel_rfl), by
  intro args c t bs h hc
  simp only [eEnc10] at h
  split at h <;> cases h
  rename_i k p n r n1 ks n2 vs n3 ws c heq
  obtain ⟨hk, hf, hv, rfl, rfl, rfl⟩ := hc _ rfl
  have hm := fitsK hf
  obtain ⟨m, rfl⟩ := Int.eq_ofNat_of_zero_le (a := n) (by omega)
  rw [Int.toNat_natCast] at hv
  refine pure_fixS ?_
  rw [heq]
  refine pure_wf fun hw => ?_
  obtain ⟨-, ⟨-, ⟨w1, -⟩, ⟨w2, -⟩, ⟨w3, -⟩, -, -⟩, -⟩ := hw
  simp only [List.length_cons, List.length_nil, Nat.zero_add, Nat.mul_one] at w1 w2 w3
  subst w3
  rcases hk with rfl | rfl
  · exact enc1_pure p m n1 n2 ks vs hv hf w1 w2
  · exact enc2_pure p m n1 n2 ks vs hv hf w1 w2⟩
end Go.Proofs.YtnplgklnkcjmnaaGreatDoor.DcT
namespace Go.Proofs.YtnplgklnkcjmnaaGreatDoor.DcT
open Go.RowKit Go.Proofs.YtnplgklnkcjmnaaGreatDoor.Am Go.Proofs.YtnplgklnkcjmnaaGreatDoor Go.Proofs.YtnplgklnkcjmnaaGreatDoor.PrT
set_option linter.unusedVariables false
set_option linter.unusedSimpArgs false


theorem lst_len (v : Int) (t : List Int) : (lstP v t).length ≤ t.length := by
  unfold lstP
  split
  · rw [sortI_len]
    refine Nat.le_trans (nzs_len _) ?_
    rw [recs_len]
    unfold shN
    split
    · exact Nat.div_le_self _ _
    · exact Nat.zero_le _
  · exact Nat.zero_le _
theorem lst_mem {v : Int} {t : List Int} (hu : AllU t) {r : R} (h : r ∈ lstP v t) : U64 r.1 ∧ U64 r.2 ∧ r.1 ≠ 0 := by
  unfold lstP at h
  split at h
  · rw [sortI_mem] at h
    have := nzs_mem.1 h
    exact ⟨(recs_u hu r this.1).1, (recs_u hu r this.1).2, this.2⟩
  · cases h
attribute [local irreducible] lstP
/-! ### Dec -/
noncomputable def dKs (v m : Nat) (w : List Int) : List Int := if okD v m w = true then ksD v w else []
noncomputable def dVs (v m : Nat) (w : List Int) : List Int := if okD v m w = true then vsD v w else []
noncomputable def dE (v m : Nat) (w : List Int) : Int := if okD v m w = true then 0 else 2
theorem d_yes {v m : Nat} {w : List Int} (h : okD v m w = true) : dKs v m w = ksD v w ∧ dVs v m w = vsD v w ∧ dE v m w = 0 := by
  unfold dKs dVs dE; rw [if_pos h, if_pos h, if_pos h]; exact ⟨rfl, rfl, rfl⟩
theorem d_no {v m : Nat} {w : List Int} (h : okD v m w = false) : dKs v m w = [] ∧ dVs v m w = [] ∧ dE v m w = 2 := by
  unfold dKs dVs dE; rw [h]; exact ⟨rfl, rfl, rfl⟩
theorem home_v {v m : Nat} {k : Int} (hk : KV v k) : homeI k m = ((1 + 2 * m * v : Nat) : Int) := by
  rcases hk with ⟨rfl, rfl⟩ | ⟨rfl, rfl⟩
  · unfold homeI; rw [if_neg (by decide), if_pos rfl]; omega
  · unfold homeI; rw [if_neg (by decide), if_neg (by decide), if_pos rfl]; omega
attribute [local irreducible] fitsB rightT ksD vsD okD encT homeI tabT
end Go.Proofs.YtnplgklnkcjmnaaGreatDoor.DcT
namespace Go.Proofs.YtnplgklnkcjmnaaGreatDoor.DcT
open Go.RowKit Go.Proofs.YtnplgklnkcjmnaaGreatDoor.Am Go.Proofs.YtnplgklnkcjmnaaGreatDoor Go.Proofs.YtnplgklnkcjmnaaGreatDoor.PrT
set_option linter.unusedVariables false
set_option linter.unusedSimpArgs false
section
variable {v m : Nat} {k : Int} {ks vs : List Int}
theorem tabD_mk (hk : KV v k) {code x val : Int} (hc : code ≠ 9) (hx : x ≤ 4611686018427387904) : tabD k m ks vs code x val = plcD k m ks vs code x val := by
  unfold tabD
  rw [if_neg hc, hk.mb, if_neg (by rw [decide_eq_true hx]; exact Bool.noConfusion), hk.mv]
theorem tabD_bad (hk : KV v k) {code x val : Int} (hc : code ≠ 9) (hx : ¬ x ≤ 4611686018427387904) : tabD k m ks vs code x val = (ks, vs, 10, 0) := by
  unfold tabD
  rw [if_neg hc, hk.mb, if_pos (decide_eq_false hx)]
theorem tabD_count {code x val : Int} (hc : code = 9) : tabD k m ks vs code x val = (ks, vs, 0, (ks.length : Int)) := by unfold tabD; rw [if_pos hc]
theorem kv2 : KV 2 3 := .inr ⟨rfl, rfl⟩
theorem dfnd (h : TabV 3 m ks vs) (hm0 : 0 < m) (hm : m ≤ 256) (x : Int) (hx : x + 1 ≠ 0) :
    (hereK 3 ks x = true → ∃ p : Nat, p < 2 * m ∧ fndP 2 (tabT 2 m ks vs) (x + 1) = p ∧ (tabT 2 m ks vs).getD (p * 2 + 1) 0 = vs.getD (atK 3 ks x) 0) ∧
    (hereK 3 ks x = false → fndP 2 (tabT 2 m ks vs) (x + 1) = -1) := by
  obtain ⟨h1, h2⟩ := h.fnd kv2 hm0 hm x hx
  exact ⟨fun q => by obtain ⟨p, a, b, c, d⟩ := h1 q; exact ⟨p, a, b, d rfl⟩, h2⟩
/-- A dict's put. -/
theorem put_here (h : TabV 3 m ks vs) (hm0 : 0 < m) (hm : m ≤ 256) {x val : Int} (hx : 0 ≤ x ∧ x ≤ 4611686018427387904) (hv : U64 val) (hh : hereK 3 ks x = true) :
    tabD 3 m ks vs 11 x val = (ks, vs.set (atK 3 ks x) val, 0, vs.getD (atK 3 ks x) 0) ∧ TabV 3 m ks (vs.set (atK 3 ks x) val) ∧ putL 2 (tabT 2 m ks vs) (x + 1) val = tabT 2 m ks (vs.set (atK 3 ks x) val) := by
  have e : tabD 3 m ks vs 11 x val = (ks, vs.set (atK 3 ks x) val, 0, vs.getD (atK 3 ks x) 0) := by
    rw [tabD_mk kv2 (by decide) hx.2, plcTT (by decide) hh]; simp
  have hT := tabD_v h (key := x) (v := val) (code := 11) (by unfold U64; omega) hv
  rw [e] at hT
  exact ⟨e, hT, (h.put kv2 hm0 hm hx hv (fun q => by cases q) hT (mem_set h kv2 rfl hh)).2⟩
theorem put_new (h : TabV 3 m ks vs) (hm0 : 0 < m) (hm : m ≤ 256) {x val : Int} (hx : 0 ≤ x ∧ x ≤ 4611686018427387904) (hv : U64 val) (hh : hereK 3 ks x = false) (hl : ks.length ≠ m) :
    tabD 3 m ks vs 11 x val = (insK ks (atK 3 ks x) x, insK vs (atK 3 ks x) val, 0, 0) ∧ TabV 3 m (insK ks (atK 3 ks x) x) (insK vs (atK 3 ks x) val) ∧ putL 2 (tabT 2 m ks vs) (x + 1) val = tabT 2 m (insK ks (atK 3 ks x) x) (insK vs (atK 3 ks x) val) := by
  have e : tabD 3 m ks vs 11 x val = (insK ks (atK 3 ks x) x, insK vs (atK 3 ks x) val, 0, 0) := by
    rw [tabD_mk kv2 (by decide) hx.2, plcTF (by decide) hh]
    rw [if_neg (by decide), if_neg (by decide), if_neg (by decide), if_pos rfl, if_neg (by omega)]
  have hT := tabD_v h (key := x) (v := val) (code := 11) (by unfold U64; omega) hv
  rw [e] at hT
  exact ⟨e, hT, (h.put kv2 hm0 hm hx hv (fun q => by cases q) hT (mem_ins h kv2 hh (fun q => by cases q) _ (fun _ => rfl))).2⟩
theorem put_full (h : TabV 3 m ks vs) {x val : Int} (hx : 0 ≤ x ∧ x ≤ 4611686018427387904) (hh : hereK 3 ks x = false) (hl : ks.length = m) : tabD 3 m ks vs 11 x val = (ks, vs, 11, 0) := by
  rw [tabD_mk kv2 (by decide) hx.2, plcTF (by decide) hh]
  rw [if_neg (by decide), if_neg (by decide), if_neg (by decide), if_pos rfl, if_pos (by omega)]
theorem get_here (h : TabV 3 m ks vs) {x val : Int} (hx : x ≤ 4611686018427387904) (hh : hereK 3 ks x = true) : tabD 3 m ks vs 10 x val = (ks, vs, 0, vs.getD (atK 3 ks x) 0) := by
  rw [tabD_mk kv2 (by decide) hx, plcTT (by decide) hh]; simp
theorem get_no (h : TabV 3 m ks vs) {x val : Int} (hx : x ≤ 4611686018427387904) (hh : hereK 3 ks x = false) : tabD 3 m ks vs 10 x val = (ks, vs, 12, 0) := by
  rw [tabD_mk kv2 (by decide) hx, plcTF (by decide) hh]; simp
theorem del_here (h : TabV 3 m ks vs) (hm0 : 0 < m) (hm : m ≤ 256) {x val : Int} (hx : 0 ≤ x ∧ x ≤ 4611686018427387904) (hv : U64 val) (hh : hereK 3 ks x = true) :
    tabD 3 m ks vs 7 x val = (delK ks (atK 3 ks x), delK vs (atK 3 ks x), 0, vs.getD (atK 3 ks x) 0) ∧ TabV 3 m (delK ks (atK 3 ks x)) (delK vs (atK 3 ks x)) ∧ delL 2 (tabT 2 m ks vs) (x + 1) = tabT 2 m (delK ks (atK 3 ks x)) (delK vs (atK 3 ks x)) := by
  have e : tabD 3 m ks vs 7 x val = (delK ks (atK 3 ks x), delK vs (atK 3 ks x), 0, vs.getD (atK 3 ks x) 0) := by
    rw [tabD_mk kv2 (by decide) hx.2, plcTT (by decide) hh]; simp
  have hT := tabD_v h (key := x) (v := val) (code := 7) (by unfold U64; omega) hv
  rw [e] at hT
  exact ⟨e, hT, (h.dele kv2 hm0 hm hx.1 hh hT (mem_del h kv2 hh _ (fun _ => rfl))).2⟩
theorem del_no (hk : KV v k) {x val : Int} (hx : x ≤ 4611686018427387904) (hh : hereK k ks x = false) : tabD k m ks vs 7 x val = (ks, vs, 12, 0) := by
  rw [tabD_mk hk (by decide) hx]
  unfold plcD
  rw [if_pos rfl, if_neg (by rw [hh]; exact Bool.false_ne_true)]
theorem next_is (hk : KV v k) {x val : Int} (hx : x ≤ 4611686018427387904) : tabD k m ks vs 8 x val = if nxK k ks x val = ks.length then (ks, vs, 12, 0) else (ks, vs, 0, ks.getD (nxK k ks x val) 0) := by
  rw [tabD_mk hk (by decide) hx]
  unfold plcD
  rw [if_neg (by decide), if_pos rfl]
/-- Where next stands: all ahead are less, or the key itself. -/
theorem nx_lo (h : TabV k m ks vs) (hk : KV v k) {x val : Int} {i : Nat} (hi : i < nxK k ks x val) (hl : i < ks.length) : ¬ (ks.getD i 0 > x ∨ (ks.getD i 0 = x ∧ val = 0)) := by
  unfold nxK at hi
  split at hi
  · rename_i q
    obtain ⟨a1, a2⟩ := hereK_t q.1
    by_cases e : i = atK k ks x
    · subst e; rw [a2]; rintro (q2 | q2)
      · omega
      · exact q.2 q2.2
    · have := h.k_lt hk (i := i) (j := atK k ks x) (by omega) a1
      rintro (q2 | q2) <;> omega
  · have := atK_lo (ks := ks) hi
    rw [hk.rk, hk.rk] at this
    rintro (q2 | q2) <;> omega
theorem nx_hi (h : TabV k m ks vs) (hk : KV v k) {x val : Int} (hl : nxK k ks x val < ks.length) : ks.getD (nxK k ks x val) 0 > x ∨ (ks.getD (nxK k ks x val) 0 = x ∧ val = 0) := by
  have h1 := atK_hi h (x := x) (i := nxK k ks x val) (by unfold nxK; split <;> omega) hl
  rw [hk.rk, hk.rk] at h1
  by_cases e : ks.getD (nxK k ks x val) 0 = x
  · refine .inr ⟨e, ?_⟩
    have hh : hereK k ks x = true := (here_iff h hk x).2 ⟨_, hl, e⟩
    by_cases v0 : val = 0
    · exact v0
    · exfalso
      have hn : nxK k ks x val = atK k ks x + 1 := by unfold nxK; rw [if_pos ⟨hh, v0⟩]
      obtain ⟨a1, a2⟩ := hereK_t hh
      have := h.k_inj hk hl a1 (by rw [e, a2])
      omega
  · exact .inl (by omega)
theorem nx_is (h : TabV k m ks vs) (hk : KV v k) {x val : Int} {j : Nat} (hj : j ≤ ks.length) (h1 : ∀ i, i < j → ¬ (ks.getD i 0 > x ∨ (ks.getD i 0 = x ∧ val = 0))) (h2 : j < ks.length → (ks.getD j 0 > x ∨ (ks.getD j 0 = x ∧ val = 0))) : nxK k ks x val = j := by
  have hle : nxK k ks x val ≤ ks.length := by
    have := atK_le k ks x
    unfold nxK
    split
    · rename_i q; have := (hereK_t q.1).1; omega
    · exact this
  rcases Nat.lt_trichotomy (nxK k ks x val) j with q | q | q
  · exact absurd (nx_hi h hk (by omega)) (h1 _ q)
  · exact q
  · exact absurd (h2 (by omega)) (nx_lo h hk q (by omega))
end
end Go.Proofs.YtnplgklnkcjmnaaGreatDoor.DcT
namespace Go.Proofs.YtnplgklnkcjmnaaGreatDoor.DcT
open Go.RowKit Go.Proofs.YtnplgklnkcjmnaaGreatDoor.Am Go.Proofs.YtnplgklnkcjmnaaGreatDoor Go.Proofs.YtnplgklnkcjmnaaGreatDoor.PrT
set_option linter.unusedVariables false
set_option linter.unusedSimpArgs false


/-- Is a configuration one of this kind? -/
def cfB (kk k p n : Int) : Bool := fitsB k p n && decide (k = kk)
theorem cfB_t {kk k p n : Int} (h : cfB kk k p n = true) : fitsB k p n = true ∧ k = kk := by
  unfold cfB at h; rw [Bool.and_eq_true] at h; exact ⟨h.1, of_decide_eq_true h.2⟩
noncomputable def opK (v : Nat) (kk k p n : Int) (w : List Int) : List Int := if cfB kk k p n = true then dKs v n.toNat w else []
noncomputable def opV (v : Nat) (kk k p n : Int) (w : List Int) : List Int := if cfB kk k p n = true then dVs v n.toNat w else []
noncomputable def opE (v : Nat) (kk k p n : Int) (w : List Int) : Int := if cfB kk k p n = true then dE v n.toNat w else 5
theorem op_yes {v : Nat} {kk k p n : Int} {w : List Int} (h : cfB kk k p n = true) : opK v kk k p n w = dKs v n.toNat w ∧ opV v kk k p n w = dVs v n.toNat w ∧ opE v kk k p n w = dE v n.toNat w := by
  unfold opK opV opE; rw [if_pos h, if_pos h, if_pos h]; exact ⟨rfl, rfl, rfl⟩
theorem op_no {v : Nat} {kk k p n : Int} {w : List Int} (h : cfB kk k p n = false) : opK v kk k p n w = [] ∧ opV v kk k p n w = [] ∧ opE v kk k p n w = 5 := by
  unfold opK opV opE; rw [h]; exact ⟨rfl, rfl, rfl⟩
/-- What opened words are. -/
theorem op_facts {v : Nat} {kk : Int} (hk : KV v kk) (k p n : Int) {w : List Int} (hu : AllU w) :
    (opE v kk k p n w = 0 ∧ k = kk ∧ fitsB k p n = true ∧ TabV kk n.toNat (opK v kk k p n w) (opV v kk k p n w) ∧ w = encT v n.toNat (opK v kk k p n w) (opV v kk k p n w) ∧ okD v n.toNat w = true) ∨
    ((opE v kk k p n w = 2 ∨ opE v kk k p n w = 5) ∧ opK v kk k p n w = [] ∧ opV v kk k p n w = [] ∧ (cfB kk k p n = true → okD v n.toNat w = false)) := by
  cases hc : cfB kk k p n
  · obtain ⟨e1, e2, e3⟩ := op_no (v := v) (w := w) hc
    exact .inr ⟨.inr e3, e1, e2, fun q => (by cases q)⟩
  · obtain ⟨e1, e2, e3⟩ := op_yes (v := v) (w := w) hc
    obtain ⟨hf, rfl⟩ := cfB_t hc
    have hm := fitsK hf
    cases ho : okD v n.toNat w
    · obtain ⟨d1, d2, d3⟩ := d_no ho
      exact .inr ⟨.inl (e3.trans d3), e1.trans d1, e2.trans d2, fun _ => rfl⟩
    · obtain ⟨d1, d2, d3⟩ := d_yes ho
      obtain ⟨g1, g2⟩ := okD_enc hk (show 0 < n.toNat by omega) (by omega) hu ho
      rw [e1, e2, e3, d1, d2, d3]
      exact .inl ⟨rfl, rfl, hf, g1, g2, rfl⟩
attribute [local irreducible] fitsB rightT ksD vsD okD encT homeI tabT dKs dVs dE
/-- Pairs of keys and values. -/
def prD (ks vs : List Int) : List R := (List.range ks.length).map fun i => (ks.getD i 0, vs.getD i 0)
theorem prD_len (ks vs : List Int) : (prD ks vs).length = ks.length := by simp [prD]
theorem prD_get {ks : List Int} (vs : List Int) {i : Nat} (h : i < ks.length) : gR (prD ks vs) i = (ks.getD i 0, vs.getD i 0) := by
  unfold gR prD; rw [List.getD_eq_getElem?_getD, List.getElem?_map, List.getElem?_range h]; rfl
theorem prD_take {ks : List Int} (vs : List Int) {j : Nat} (h : j < ks.length) : (prD ks vs).take (j + 1) = (prD ks vs).take j ++ [(ks.getD j 0, vs.getD j 0)] := by
  rw [take_snocR (by rw [prD_len]; exact h), prD_get vs h]
attribute [local irreducible] opK opV opE prD
end Go.Proofs.YtnplgklnkcjmnaaGreatDoor.DcT
namespace Go.Proofs.YtnplgklnkcjmnaaGreatDoor.DcT
open Go.RowKit Go.Proofs.YtnplgklnkcjmnaaGreatDoor.Am Go.Proofs.YtnplgklnkcjmnaaGreatDoor Go.Proofs.YtnplgklnkcjmnaaGreatDoor.PrT
set_option linter.unusedVariables false
set_option linter.unusedSimpArgs false


/-- A put, if there is room. -/
def putO (m : Int) (s : List Int × List Int) (p : R) : Option (List Int × List Int) := if (tabD 3 m s.1 s.2 11 p.1 p.2).2.2.1 = 0 then some ((tabD 3 m s.1 s.2 11 p.1 p.2).1, (tabD 3 m s.1 s.2 11 p.1 p.2).2.1) else none
def upS (m : Int) (s : List Int × List Int) (l : List R) : Option (List Int × List Int) := l.foldl (fun o p => o.bind fun s => putO m s p) (some s)
theorem upS_nil (m : Int) (s : List Int × List Int) : upS m s [] = some s := rfl
theorem upS_snoc (m : Int) (s : List Int × List Int) (l : List R) (p : R) : upS m s (l ++ [p]) = (upS m s l).bind fun s => putO m s p := by unfold upS; rw [List.foldl_append]; rfl
theorem upS_none (m : Int) (s : List Int × List Int) (l l' : List R) (h : upS m s l = none) : upS m s (l ++ l') = none := by
  unfold upS at *
  rw [List.foldl_append, h]
  induction l' with
  | nil => rfl
  | cons a l' ih => exact ih
theorem snocI {α : Type} {p : List α → Prop} (h0 : p []) (h1 : ∀ l a, p l → p (l ++ [a])) (l : List α) : p l := by
  have : ∀ n, ∀ l : List α, l.length = n → p l := by
    intro n
    induction n with
    | zero => intro l h; rw [List.eq_nil_of_length_eq_zero h]; exact h0
    | succ n ih =>
      intro l h
      have hne : l ≠ [] := fun e => by rw [e] at h; cases h
      rw [← List.dropLast_concat_getLast hne]
      exact h1 _ _ (ih _ (by rw [List.length_dropLast]; omega))
  exact this _ l rfl
theorem upS_v {m : Nat} {s s' : List Int × List Int} {l : List R} (h : TabV 3 m s.1 s.2) (hl : ∀ r ∈ l, U64 r.1 ∧ U64 r.2) (hu : upS m s l = some s') : TabV 3 m s'.1 s'.2 := by
  revert s'
  refine fun {s'} hu => (snocI (p := fun l => (∀ r ∈ l, U64 r.1 ∧ U64 r.2) → ∀ s', upS m s l = some s' → TabV 3 m s'.1 s'.2) ?_ ?_ l hl) s' hu
  · intro _ s' e; cases e; exact h
  · intro l p ih hl s' e
    rw [upS_snoc] at e
    cases h1 : upS m s l with
    | none => rw [h1] at e; cases e
    | some s1 =>
      rw [h1] at e
      have hT := ih (fun r hr => hl r (List.mem_append_left _ hr)) s1 h1
      have hp := hl p (by simp)
      have e : putO m s1 p = some s' := e
      unfold putO at e
      split at e
      · cases e; exact tabD_v hT hp.1 hp.2
      · cases e
open Classical in
noncomputable def updE (k p n : Int) (w : List Int) (l : List R) : Int := if opE 2 3 k p n w ≠ 0 then opE 2 3 k p n w else if ∃ r ∈ l, r.1 > 4611686018427387904 then 1 else if upS n (opK 2 3 k p n w, opV 2 3 k p n w) l = none then 11 else 0
noncomputable def updS (k p n : Int) (w : List Int) (l : List R) : List Int × List Int := (upS n (opK 2 3 k p n w, opV 2 3 k p n w) l).getD ([], [])
noncomputable def updL (k p n : Int) (w : List Int) (l : List R) : List Int := if updE k p n w l = 0 then encT 2 n.toNat (updS k p n w l).1 (updS k p n w l).2 else []
attribute [local irreducible] fitsB rightT okD encT homeI tabT opK opV opE prD tabD upS recs
/-! ### Apply -/
noncomputable def apL (v : Nat) (kk k p n : Int) (w : List Int) (code key val : Int) : List Int := if opE v kk k p n w = 0 then encT v n.toNat (tabD kk n (opK v kk k p n w) (opV v kk k p n w) code key val).1 (tabD kk n (opK v kk k p n w) (opV v kk k p n w) code key val).2.1 else []
noncomputable def apR (v : Nat) (kk k p n : Int) (w : List Int) (code key val : Int) : Int := if opE v kk k p n w = 0 then (tabD kk n (opK v kk k p n w) (opV v kk k p n w) code key val).2.2.1 else 0
noncomputable def apV (v : Nat) (kk k p n : Int) (w : List Int) (code key val : Int) : Int := if opE v kk k p n w = 0 then (tabD kk n (opK v kk k p n w) (opV v kk k p n w) code key val).2.2.2 else 0
theorem ap_yes {v : Nat} {kk k p n : Int} {w : List Int} {code key val : Int} (h : opE v kk k p n w = 0) : apL v kk k p n w code key val = encT v n.toNat (tabD kk n (opK v kk k p n w) (opV v kk k p n w) code key val).1 (tabD kk n (opK v kk k p n w) (opV v kk k p n w) code key val).2.1 ∧ apR v kk k p n w code key val = (tabD kk n (opK v kk k p n w) (opV v kk k p n w) code key val).2.2.1 ∧ apV v kk k p n w code key val = (tabD kk n (opK v kk k p n w) (opV v kk k p n w) code key val).2.2.2 := by
  unfold apL apR apV; rw [if_pos h, if_pos h, if_pos h]; exact ⟨rfl, rfl, rfl⟩
theorem ap_no {v : Nat} {kk k p n : Int} {w : List Int} {code key val : Int} (h : opE v kk k p n w ≠ 0) : apL v kk k p n w code key val = [] ∧ apR v kk k p n w code key val = 0 ∧ apV v kk k p n w code key val = 0 := by
  unfold apL apR apV; rw [if_neg h, if_neg h, if_neg h]; exact ⟨rfl, rfl, rfl⟩
attribute [local irreducible] apL apR apV
end Go.Proofs.YtnplgklnkcjmnaaGreatDoor.DcT
namespace Go.Proofs.YtnplgklnkcjmnaaGreatDoor.DcT
open Go.RowKit Go.Proofs.YtnplgklnkcjmnaaGreatDoor.Am Go.Proofs.YtnplgklnkcjmnaaGreatDoor Go.Proofs.YtnplgklnkcjmnaaGreatDoor.PrT
set_option linter.unusedVariables false
set_option linter.unusedSimpArgs false


noncomputable def iPairs : Inl := ⟨47, Tryz.f47, bodyOf Tryz.f47, [0, 1, 2]⟩
theorem iPairs_ok : iPairs.ok Tryz.prog := Inl.mk_ok Tryz.func47 (by rfl) (by kernel_rfl) (by kernel_rfl)
noncomputable def iPairs1 : Inl := ⟨85, Tryz.f85, bodyOf Tryz.f85, [0, 1, 4, 9, 10, 11, 12, 22]⟩
theorem iPairs1_ok : iPairs1.ok Tryz.prog := Inl.mk_ok Tryz.func85 (by rfl) (by kernel_rfl) (by kernel_rfl)
noncomputable def ctxOpD_inl : List Inl := [iPairs, iPairs1]
theorem ctxOpD_inlOk : InlOk Tryz.prog ctxOpD_inl := ⟨iPairs_ok, iPairs1_ok, trivial⟩
noncomputable def ctxOpD (P : Program) (h : InlOk P ctxOpD_inl) : Ctx := ctx P glM [eFits, eHome, Go.Proofs.YtnplgklnkcjmnaaGreatDoor.eClone, eRight, eList] [] (noEq P) ctxOpD_inl h.mem
theorem ctxOpD_good : (ctxOpD Tryz.prog ctxOpD_inlOk).good := ctx_good (by kernel_rfl) (AllOk.mem ⟨entry_lift eFits_ok, entry_lift eHome_ok, entry_lift Go.Proofs.YtnplgklnkcjmnaaGreatDoor.eClone_ok, eRight_ok, eList_ok, trivial⟩) glM_two
attribute [local irreducible] fitsB rightT ksD vsD okD encT homeI tabT dKs dVs dE rightB lstP rsK
set_option maxHeartbeats 2000000 in
set_option maxRecDepth 100000 in
theorem openY_pure (p : Int) (m q : Nat) (w ks vs : List Int) (hu : AllU w) (hf : fitsB 3 p m = true) (hT : TabV 3 m ks vs) (hw : w = encT 2 m ks vs) : Pure Tryz.prog glM 46 [.agg [.v (.int .i64 3), .v (.int .i64 p), .v (.int .i64 m)], .fl [.u64] q w] (.tup [.op 0 0 3 0 3, .v (.int .i64 0)]) [(0, .cs [.v (.int .u64 m), .v (.int .u64 ks.length), .ow 1 1 (4 * m)]), (1, .fl [.u64] (tabT 2 m ks vs))] := by
  refine pure_wf fun hww => ?_
  obtain ⟨-, ⟨w1, w2⟩, -⟩ := hww
  simp only [List.length_cons, List.length_nil, Nat.zero_add, Nat.mul_one] at w1
  have hm := fitsK hf
  have hh := home_v (m := m) kv2
  have hel := hT.enc_len kv2
  have htb := hT.tb kv2
  obtain ⟨hr, -, -⟩ := htb.facts (.inr rfl) (by omega) (by omega)
  have hls : lstP 2 (tabT 2 m ks vs) = rsK 2 ks vs := hT.lst kv2 (by omega) (by omega)
  have hd : w.drop 1 = tabT 2 m ks vs := by rw [hw]; unfold encT; rfl
  have h0 : w.getD 0 0 = ks.length := by rw [hw]; unfold encT; rfl
  rw [hw, hel] at w1
  have hkl := hT.len
  have hku : ∀ i, i < ks.length → 0 ≤ ks.getD i 0 ∧ ks.getD i 0 ≤ 4611686018427387904 := fun i hi => hT.k_u kv2 hi
  have htl : (tabT 2 m ks vs).length = 4 * m := by rw [htb.len]; omega
  have htu := htb.u
  have hrl := rsK_len 2 ks vs
  refine pure_of (C := ctxOpD Tryz.prog ctxOpD_inlOk) ctxOpD_good Tryz.func46 (c := bodyOf Tryz.f46) (by rfl) (Nat.le_of_ble_eq_true (by rfl)) 4 4 [0, 1, 2, 4, 5, 6, 7, 8, 17, 38, 39, 40, 49, 68] ?_
  conv => whnf
  rw [hf]
  conv => whnf
  refine And.intro hf ?_
  conv => whnf
  rw [hh, w1]
  refine ifB_f (by simp) ?_
  conv => whnf
  refine And.intro (by omega) ?_
  conv => whnf
  rw [show cutN (0 + 1) (some 1) none w = w.drop 1 from rfl, hd]
  refine And.intro ⟨by dsimp only [cutL]; omega, htu⟩ ?_
  conv => whnf
  rw [show rightB 2 (tabT 2 m ks vs) = true from hr]
  conv => whnf
  refine And.intro (by omega) ?_
  conv => whnf
  rw [show cutN (0 + 1) (some 1) none w = w.drop 1 from rfl, hd, show cutL q (some 1) none = 4 * m by dsimp only [cutL]; omega]
  repeat (refine And.intro (by first | omega | exact ⟨by omega, htu⟩) ?_; conv => whnf)
  intro l
  conv => whnf
  repeat (refine And.intro (by first | omega | exact ⟨by omega, htu⟩) ?_; conv => whnf)
  rw [hls, hrl]
  rw [show IntKind.u64.wrap ((m : Nat) : Int) = m from wrapU (by omega) (by omega)]
  refine TW.loopD ctxOpD_good 3 (base := 7000000) (lv := [0, 1, 4, 9, 10, 11, 12, 22]) [11] [144] [(144, 144)] (fun j : Nat => [.v (.int .i64 j)]) (fun j => [.cs [.v (.int .u64 m), .v (.int .u64 j), .ow 136 1 (4 * m)]]) (fun j => j ≤ ks.length) (fun j => ks.length - j) ?_
  conv => whnf
  refine ⟨⟨0, ⟨rfl, rfl, rfl⟩, Nat.zero_le _⟩, fun j hj => ?_⟩
  replace hj : j ≤ ks.length := hj
  conv => whnf
  refine ifB_dec (fun h => ?_) (fun h => ?_)
  · replace h : (j : Int) < ks.length := h
    obtain ⟨k1, k2⟩ := hku j (by omega)
    have E0 : (flat 2 (rsK 2 ks vs)).getD (0 + addN 0 (j : Int).toNat * (1 + 1) + 0) 0 = ks.getD j 0 + 1 := by
      rw [addN_eq, show 0 + (0 + (j : Int).toNat) * (1 + 1) + 0 = j * 2 by omega, flat_key (.inr rfl) _ (by rw [hrl]; omega)]
      unfold kR; rw [rsK_get 2 ks vs (by omega)]
    have e1 : IntKind.u64.wrap (ks.getD j 0 + 1 - 1) = ks.getD j 0 := by rw [wrapU (by omega) (by omega)]; omega
    conv => whnf
    repeat (first | (refine And.intro (by omega) ?_; conv => whnf))
    refine ifB_f (by show decide (IntKind.u64.wrap ((flat 2 (rsK 2 ks vs)).getD (0 + addN 0 (j : Int).toNat * (1 + 1) + 0) 0 - 1) > 4611686018427387904) = false; rw [E0, e1]; exact decide_eq_false (by omega)) ?_
    conv => whnf
    repeat (first | (refine And.intro (by first | rfl | omega) ?_; conv => whnf))
    rw [wsucc (j := j) (n := ks.length) (by omega) (by omega), show IntKind.u64.wrap ((j : Int) + 1) = ((j + 1 : Nat) : Int) by rw [wrapU (by omega) (by omega)]; omega]
    exact ⟨j + 1, [(144, 144)], ⟨rfl, rfl, rfl⟩, (by omega : j + 1 ≤ ks.length), by dsimp only; omega⟩
  · replace h : ¬ (j : Int) < ks.length := h
    obtain rfl : j = ks.length := by omega
    conv => whnf
    repeat (first | (refine And.intro (by first | rfl | omega) ?_; conv => whnf))
    refine ifB_f (by show ((ks.length : Int) != w.getD 0 0) = false; rw [h0]; simp) ?_
    conv => whnf
    refine ifB_f (show (bif false then true else decide ((ks.length : Int) > m)) = false from decide_eq_false (by omega)) ?_
    conv => whnf
    repeat' (first | exact trivial | exact rfl | (refine And.intro ?_ ?_) | ((conv => whnf); done) | ((conv => whnf); (first | rfl | (refine congrArg (fun b => T.v (Value.bool b)) ?_; first | rfl | exact (decide_eq_true (by omega)).symm | exact (decide_eq_false (by omega)).symm | exact decide_eq_decide.2 (by omega)) | (refine congrArg (fun b => T.v (Value.int _ b)) ?_; first | rfl | omega) | omega)) | (first | rfl | (refine congrArg (fun b => T.v (Value.bool b)) ?_; first | rfl | exact (decide_eq_true (by omega)).symm | exact (decide_eq_false (by omega)).symm | exact decide_eq_decide.2 (by omega)) | (refine congrArg (fun b => T.v (Value.int _ b)) ?_; first | rfl | omega) | omega))
set_option maxHeartbeats 4000000 in
set_option maxRecDepth 100000 in
theorem openN_pure (k p n : Int) (q : Nat) (w : List Int) (hu : AllU w) (hq : q ≤ 10000) (hN : opE 2 3 k p n w ≠ 0) : Pure Tryz.prog glM 46 [.agg [.v (.int .i64 k), .v (.int .i64 p), .v (.int .i64 n)], .fl [.u64] q w] (.tup [.v (.pointer none), .v (.int .i64 (opE 2 3 k p n w))]) := by
  refine pure_wf fun hww => ?_
  obtain ⟨-, ⟨w1, w2⟩, -⟩ := hww
  simp only [List.length_cons, List.length_nil, Nat.zero_add, Nat.mul_one] at w1
  rcases op_facts kv2 k p n hu with ⟨e0, -⟩ | ⟨-, -, -, hO⟩
  · exact absurd e0 hN
  cases hc : cfB 3 k p n
  · obtain ⟨-, -, e3⟩ := op_no (v := 2) (w := w) hc
    rw [e3]
    refine pure_of (C := ctxOpD Tryz.prog ctxOpD_inlOk) ctxOpD_good Tryz.func46 (c := bodyOf Tryz.f46) (by rfl) (Nat.le_of_ble_eq_true (by rfl)) 4 4 [0, 1, 2, 4, 5, 6, 7, 8, 17, 38, 39, 40, 49, 68] ?_
    conv => whnf
    cases hf : fitsB k p n
    · conv => whnf
      repeat' (first | exact trivial | exact rfl | (refine And.intro ?_ ?_) | ((conv => whnf); done) | ((conv => whnf); (first | rfl | (refine congrArg (fun b => T.v (Value.bool b)) ?_; first | rfl | exact (decide_eq_true (by omega)).symm | exact (decide_eq_false (by omega)).symm | exact decide_eq_decide.2 (by omega)) | (refine congrArg (fun b => T.v (Value.int _ b)) ?_; first | rfl | omega) | omega)) | (first | rfl | (refine congrArg (fun b => T.v (Value.bool b)) ?_; first | rfl | exact (decide_eq_true (by omega)).symm | exact (decide_eq_false (by omega)).symm | exact decide_eq_decide.2 (by omega)) | (refine congrArg (fun b => T.v (Value.int _ b)) ?_; first | rfl | omega) | omega))
    · have hk3 : k ≠ 3 := fun e => by unfold cfB at hc; rw [hf, e] at hc; cases hc
      conv => whnf
      refine ifB_t (show (bif false then true else (k != 3)) = true by simpa using hk3) ?_
      conv => whnf
      repeat' (first | exact trivial | exact rfl | (refine And.intro ?_ ?_) | ((conv => whnf); done) | ((conv => whnf); (first | rfl | (refine congrArg (fun b => T.v (Value.bool b)) ?_; first | rfl | exact (decide_eq_true (by omega)).symm | exact (decide_eq_false (by omega)).symm | exact decide_eq_decide.2 (by omega)) | (refine congrArg (fun b => T.v (Value.int _ b)) ?_; first | rfl | omega) | omega)) | (first | rfl | (refine congrArg (fun b => T.v (Value.bool b)) ?_; first | rfl | exact (decide_eq_true (by omega)).symm | exact (decide_eq_false (by omega)).symm | exact decide_eq_decide.2 (by omega)) | (refine congrArg (fun b => T.v (Value.int _ b)) ?_; first | rfl | omega) | omega))
  · have ho := hO hc
    obtain ⟨-, -, e3⟩ := op_yes (v := 2) (w := w) hc
    rw [(d_no ho).2.2] at e3
    rw [e3]
    obtain ⟨hf, rfl⟩ := cfB_t hc
    have hm := fitsK hf
    obtain ⟨m, rfl⟩ := Int.eq_ofNat_of_zero_le (a := n) (by omega)
    rw [Int.toNat_natCast] at ho
    have hh := home_v (m := m) kv2
    have htu : AllU (w.drop 1) := fun x hx => hu x (List.mem_of_mem_drop hx)
    have hll := lst_len ((2 : Nat) : Int) (w.drop 1)
    rw [List.length_drop] at hll
    have hlm := fun r hr => lst_mem (v := ((2 : Nat) : Int)) (r := r) htu hr
    by_cases hl : q = 1 + 2 * m * 2
    · cases hr : rightB 2 (w.drop 1)
      · refine pure_of (C := ctxOpD Tryz.prog ctxOpD_inlOk) ctxOpD_good Tryz.func46 (c := bodyOf Tryz.f46) (by rfl) (Nat.le_of_ble_eq_true (by rfl)) 4 4 [0, 1, 2, 4, 5, 6, 7, 8, 17, 38, 39, 40, 49, 68] ?_
        conv => whnf
        rw [hf]
        conv => whnf
        refine And.intro hf ?_
        conv => whnf
        rw [hh, ← hl]
        refine ifB_f (by simp) ?_
        conv => whnf
        refine And.intro (by omega) ?_
        conv => whnf
        rw [show cutN (0 + 1) (some 1) none w = w.drop 1 from rfl]
        refine And.intro ⟨by dsimp only [cutL]; omega, htu⟩ ?_
        conv => whnf
        rw [hr]
        conv => whnf
        repeat' (first | exact trivial | exact rfl | (refine And.intro ?_ ?_) | ((conv => whnf); done) | ((conv => whnf); (first | rfl | (refine congrArg (fun b => T.v (Value.bool b)) ?_; first | rfl | exact (decide_eq_true (by omega)).symm | exact (decide_eq_false (by omega)).symm | exact decide_eq_decide.2 (by omega)) | (refine congrArg (fun b => T.v (Value.int _ b)) ?_; first | rfl | omega) | omega)) | (first | rfl | (refine congrArg (fun b => T.v (Value.bool b)) ?_; first | rfl | exact (decide_eq_true (by omega)).symm | exact (decide_eq_false (by omega)).symm | exact decide_eq_decide.2 (by omega)) | (refine congrArg (fun b => T.v (Value.int _ b)) ?_; first | rfl | omega) | omega))
      · have hbad : (∀ r ∈ lstP 2 (w.drop 1), r.1 ≤ 4611686018427387905) → w.getD 0 0 = (lstP 2 (w.drop 1)).length → (lstP 2 (w.drop 1)).length ≤ m → False := fun h1 h2 h3 => by
          have : okD 2 m w = true := by
            unfold okD
            exact decide_eq_true ⟨by omega, hr, h1, h2, h3⟩
          rw [ho] at this; cases this
        rw [show (((2 : Nat) : Int)) = 2 from rfl] at hll hlm
        refine pure_of (C := ctxOpD Tryz.prog ctxOpD_inlOk) ctxOpD_good Tryz.func46 (c := bodyOf Tryz.f46) (by rfl) (Nat.le_of_ble_eq_true (by rfl)) 4 4 [0, 1, 2, 4, 5, 6, 7, 8, 17, 38, 39, 40, 49, 68] ?_
        conv => whnf
        rw [hf]
        conv => whnf
        refine And.intro hf ?_
        conv => whnf
        rw [hh, ← hl]
        refine ifB_f (by simp) ?_
        conv => whnf
        refine And.intro (by omega) ?_
        conv => whnf
        rw [show cutN (0 + 1) (some 1) none w = w.drop 1 from rfl]
        refine And.intro ⟨by dsimp only [cutL]; omega, htu⟩ ?_
        conv => whnf
        rw [hr]
        conv => whnf
        refine And.intro (by omega) ?_
        conv => whnf
        rw [show cutN (0 + 1) (some 1) none w = w.drop 1 from rfl, show cutL q (some 1) none = 4 * m by dsimp only [cutL]; omega]
        repeat (refine And.intro (by first | omega | exact ⟨by omega, htu⟩) ?_; conv => whnf)
        intro l
        conv => whnf
        repeat (refine And.intro (by first | omega | exact ⟨by omega, htu⟩) ?_; conv => whnf)
        generalize lstP 2 (w.drop 1) = L at *
        rw [show IntKind.u64.wrap ((m : Nat) : Int) = m from wrapU (by omega) (by omega)]
        refine TW.loopD ctxOpD_good 3 (base := 7000000) (lv := [0, 1, 4, 9, 10, 11, 12, 22]) [11] [144] [(144, 144)] (fun j : Nat => [.v (.int .i64 j)]) (fun j => [.cs [.v (.int .u64 m), .v (.int .u64 j), .ow 136 1 (4 * m)]]) (fun j => j ≤ L.length ∧ ∀ i, i < j → (gR L i).1 ≤ 4611686018427387905) (fun j => L.length - j) ?_
        conv => whnf
        refine ⟨⟨0, ⟨rfl, rfl, rfl⟩, Nat.zero_le _, fun i hi => by omega⟩, fun j ⟨hj, hg⟩ => ?_⟩
        conv => whnf
        refine ifB_dec (fun h => ?_) (fun h => ?_)
        · replace h : (j : Int) < L.length := h
          obtain ⟨⟨u1, u2⟩, -, u3⟩ := hlm _ (gR_mem (T := L) (j := j) (by omega))
          have E0 : (flat 2 L).getD (0 + addN 0 (j : Int).toNat * (1 + 1) + 0) 0 = (gR L j).1 := by
            rw [addN_eq, show 0 + (0 + (j : Int).toNat) * (1 + 1) + 0 = j * 2 by omega]; exact flat_key (.inr rfl) _ (by omega)
          have e1 : IntKind.u64.wrap ((gR L j).1 - 1) = (gR L j).1 - 1 := wrapU (by omega) (by omega)
          conv => whnf
          repeat (first | (refine And.intro (by omega) ?_; conv => whnf))
          by_cases hb : (gR L j).1 ≤ 4611686018427387905
          · refine ifB_f (by show decide (IntKind.u64.wrap ((flat 2 L).getD (0 + addN 0 (j : Int).toNat * (1 + 1) + 0) 0 - 1) > 4611686018427387904) = false; rw [E0, e1]; exact decide_eq_false (by omega)) ?_
            conv => whnf
            repeat (first | (refine And.intro (by first | rfl | omega) ?_; conv => whnf))
            rw [wsucc (j := j) (n := L.length) (by omega) (by omega), show IntKind.u64.wrap ((j : Int) + 1) = ((j + 1 : Nat) : Int) by rw [wrapU (by omega) (by omega)]; omega]
            refine ⟨j + 1, [(144, 144)], ⟨rfl, rfl, rfl⟩, ⟨(by omega : j + 1 ≤ L.length), fun i hi => ?_⟩, by dsimp only; omega⟩
            by_cases z : i = j
            · rw [z]; exact hb
            · exact hg i (by omega)
          · refine ifB_t (by show decide (IntKind.u64.wrap ((flat 2 L).getD (0 + addN 0 (j : Int).toNat * (1 + 1) + 0) 0 - 1) > 4611686018427387904) = true; rw [E0, e1]; exact decide_eq_true (by omega)) ?_
            conv => whnf
            repeat (first | (refine And.intro (by first | rfl | omega) ?_; conv => whnf))
            repeat' (first | exact trivial | exact rfl | (refine And.intro ?_ ?_) | ((conv => whnf); done) | ((conv => whnf); (first | rfl | (refine congrArg (fun b => T.v (Value.bool b)) ?_; first | rfl | exact (decide_eq_true (by omega)).symm | exact (decide_eq_false (by omega)).symm | exact decide_eq_decide.2 (by omega)) | (refine congrArg (fun b => T.v (Value.int _ b)) ?_; first | rfl | omega) | omega)) | (first | rfl | (refine congrArg (fun b => T.v (Value.bool b)) ?_; first | rfl | exact (decide_eq_true (by omega)).symm | exact (decide_eq_false (by omega)).symm | exact decide_eq_decide.2 (by omega)) | (refine congrArg (fun b => T.v (Value.int _ b)) ?_; first | rfl | omega) | omega))
        · replace h : ¬ (j : Int) < L.length := h
          obtain rfl : j = L.length := by omega
          have hall : ∀ r ∈ L, r.1 ≤ 4611686018427387905 := fun r hr => by
            obtain ⟨i, hi, rfl⟩ := List.getElem_of_mem hr
            have := hg i hi
            unfold gR at this; rw [List.getD_eq_getElem?_getD, List.getElem?_eq_getElem hi] at this
            exact this
          have hb2 := hbad hall
          conv => whnf
          repeat (first | (refine And.intro (by first | rfl | omega) ?_; conv => whnf))
          by_cases hz : w.getD 0 0 = L.length
          · refine ifB_f (by show ((L.length : Int) != w.getD 0 0) = false; rw [hz]; simp) ?_
            conv => whnf
            refine ifB_t (show (bif false then true else decide ((L.length : Int) > m)) = true from decide_eq_true (by have h9 : ¬ L.length ≤ m := hb2 hz; omega)) ?_
            conv => whnf
            repeat' (first | exact trivial | exact rfl | (refine And.intro ?_ ?_) | ((conv => whnf); done) | ((conv => whnf); (first | rfl | (refine congrArg (fun b => T.v (Value.bool b)) ?_; first | rfl | exact (decide_eq_true (by omega)).symm | exact (decide_eq_false (by omega)).symm | exact decide_eq_decide.2 (by omega)) | (refine congrArg (fun b => T.v (Value.int _ b)) ?_; first | rfl | omega) | omega)) | (first | rfl | (refine congrArg (fun b => T.v (Value.bool b)) ?_; first | rfl | exact (decide_eq_true (by omega)).symm | exact (decide_eq_false (by omega)).symm | exact decide_eq_decide.2 (by omega)) | (refine congrArg (fun b => T.v (Value.int _ b)) ?_; first | rfl | omega) | omega))
          · refine ifB_t (by show ((L.length : Int) != w.getD 0 0) = true; simp; exact fun e => hz e.symm) ?_
            conv => whnf
            repeat' (first | exact trivial | exact rfl | (refine And.intro ?_ ?_) | ((conv => whnf); done) | ((conv => whnf); (first | rfl | (refine congrArg (fun b => T.v (Value.bool b)) ?_; first | rfl | exact (decide_eq_true (by omega)).symm | exact (decide_eq_false (by omega)).symm | exact decide_eq_decide.2 (by omega)) | (refine congrArg (fun b => T.v (Value.int _ b)) ?_; first | rfl | omega) | omega)) | (first | rfl | (refine congrArg (fun b => T.v (Value.bool b)) ?_; first | rfl | exact (decide_eq_true (by omega)).symm | exact (decide_eq_false (by omega)).symm | exact decide_eq_decide.2 (by omega)) | (refine congrArg (fun b => T.v (Value.int _ b)) ?_; first | rfl | omega) | omega))
    · refine pure_of (C := ctxOpD Tryz.prog ctxOpD_inlOk) ctxOpD_good Tryz.func46 (c := bodyOf Tryz.f46) (by rfl) (Nat.le_of_ble_eq_true (by rfl)) 4 4 [0, 1, 2, 4, 5, 6, 7, 8, 17, 38, 39, 40, 49, 68] ?_
      conv => whnf
      rw [hf]
      conv => whnf
      refine And.intro hf ?_
      conv => whnf
      rw [hh]
      refine ifB_t (by simp; omega) ?_
      conv => whnf
      repeat' (first | exact trivial | exact rfl | (refine And.intro ?_ ?_) | ((conv => whnf); done) | ((conv => whnf); (first | rfl | (refine congrArg (fun b => T.v (Value.bool b)) ?_; first | rfl | exact (decide_eq_true (by omega)).symm | exact (decide_eq_false (by omega)).symm | exact decide_eq_decide.2 (by omega)) | (refine congrArg (fun b => T.v (Value.int _ b)) ?_; first | rfl | omega) | omega)) | (first | rfl | (refine congrArg (fun b => T.v (Value.bool b)) ?_; first | rfl | exact (decide_eq_true (by omega)).symm | exact (decide_eq_false (by omega)).symm | exact decide_eq_decide.2 (by omega)) | (refine congrArg (fun b => T.v (Value.int _ b)) ?_; first | rfl | omega) | omega))
noncomputable def eOpenDY : Entry := ⟨46, 6, fun l => match l with
  | [.agg [.v (.int .i64 k), .v (.int .i64 p), .v (.int .i64 n)], .fl [.u64] q w] => some (some (AllU w ∧ opE 2 3 k p n w = 0), .tup [.op 0 0 3 0 3, .v (.int .i64 0)], [(0, .cs [.v (.int .u64 n), .v (.int .u64 (opK 2 3 k p n w).length), .ow 1 1 (4 * n.toNat)]), (1, .fl [.u64] (tabT 2 n.toNat (opK 2 3 k p n w) (opV 2 3 k p n w)))])
  | _ => none⟩
theorem eOpenDY_ok : eOpenDY.ok Tryz.prog glM := ⟨Am.enters_of Tryz.func46 (by kernel_rfl) (by kernel_rfl), by
  intro args c t bs h hc
  simp only [eOpenDY] at h
  split at h <;> cases h
  rename_i k p n q w
  obtain ⟨hu, h0⟩ := hc _ rfl
  rcases op_facts kv2 k p n hu with ⟨-, rfl, hf, hT, hE, -⟩ | ⟨h1, -⟩
  · have hm := fitsK hf
    obtain ⟨m, rfl⟩ := Int.eq_ofNat_of_zero_le (a := n) (by omega)
    rw [Int.toNat_natCast] at hT hE
    exact openY_pure p m q w _ _ hu hf hT hE
  · omega⟩
noncomputable def eOpenDN : Entry := ⟨46, 6, fun l => match l with
  | [.agg [.v (.int .i64 k), .v (.int .i64 p), .v (.int .i64 n)], .fl [.u64] q w] => some (some (AllU w ∧ q ≤ 10000 ∧ opE 2 3 k p n w ≠ 0), .tup [.v (.pointer none), .v (.int .i64 (opE 2 3 k p n w))], [])
  | _ => none⟩
theorem eOpenDN_ok : eOpenDN.ok Tryz.prog glM := ⟨Am.enters_of Tryz.func46 (by kernel_rfl) (by kernel_rfl), by
  intro args c t bs h hc
  simp only [eOpenDN] at h
  split at h <;> cases h
  rename_i k p n q w
  obtain ⟨hu, hq, h0⟩ := hc _ rfl
  exact openN_pure k p n q w hu hq h0⟩
end Go.Proofs.YtnplgklnkcjmnaaGreatDoor.DcT
namespace Go.Proofs.YtnplgklnkcjmnaaGreatDoor.DcT
open Go.RowKit Go.Proofs.YtnplgklnkcjmnaaGreatDoor.Am Go.Proofs.YtnplgklnkcjmnaaGreatDoor Go.Proofs.YtnplgklnkcjmnaaGreatDoor.PrT
set_option linter.unusedVariables false
set_option linter.unusedSimpArgs false


noncomputable def ctxWdD (P : Program) : Ctx := ctx P glM [] [] (noEq P) [] (fun _ h => by cases h)
theorem ctxWdD_good : (ctxWdD Tryz.prog).good := ctx_good (by kernel_rfl) (fun _ h => by cases h) glM_two
set_option maxRecDepth 100000 in
theorem wordsD_pure (most cnt : Int) (n : Nat) (t : List Int) (hn : n ≤ 100000) : Pure Tryz.prog glM 52 [.sp [.v (.int .u64 most), .v (.int .u64 cnt), .fl [.u64] n t] 0] (.ow 0 1 (1 + n)) [(0, .fl [.u64] (cnt :: t))] := by
  refine pure_of (C := ctxWdD Tryz.prog) ctxWdD_good Tryz.func52 (c := bodyOf Tryz.f52) (by rfl) (Nat.le_of_ble_eq_true (by rfl)) 4 0 [0, 2] ?_
  conv => whnf
  repeat (refine And.intro (by omega) ?_; conv => whnf)
  repeat' (first | exact trivial | exact rfl | (refine And.intro ?_ ?_) | ((conv => whnf); done) | ((conv => whnf); (first | rfl | (refine congrArg (fun b => T.v (Value.bool b)) ?_; first | rfl | exact (decide_eq_true (by omega)).symm | exact (decide_eq_false (by omega)).symm | exact decide_eq_decide.2 (by omega)) | (refine congrArg (fun b => T.v (Value.int _ b)) ?_; first | rfl | omega) | omega)) | (first | rfl | (refine congrArg (fun b => T.v (Value.bool b)) ?_; first | rfl | exact (decide_eq_true (by omega)).symm | exact (decide_eq_false (by omega)).symm | exact decide_eq_decide.2 (by omega)) | (refine congrArg (fun b => T.v (Value.int _ b)) ?_; first | rfl | omega) | omega))
noncomputable def eWordsD : Entry := ⟨52, 4, fun l => match l with | [.sp [.v (.int .u64 most), .v (.int .u64 cnt), .fl [.u64] n t] 0] => some (some (n ≤ 100000), .ow 0 1 (1 + n), [(0, .fl [.u64] (List.cons cnt t))]) | _ => none⟩
theorem eWordsD_ok : eWordsD.ok Tryz.prog glM := ⟨Am.enters_of Tryz.func52 (by kernel_rfl) (by kernel_rfl), by
  intro args c t bs h hc
  simp only [eWordsD] at h
  split at h <;> cases h
  replace hc := hc _ rfl
  exact wordsD_pure _ _ _ _ hc⟩
noncomputable def iPut : Inl := ⟨51, Tryz.f51, bodyOf Tryz.f51, [0, 1, 2, 6, 7, 8, 9, 17, 26]⟩
theorem iPut_ok : iPut.ok Tryz.prog := Inl.mk_ok Tryz.func51 (by rfl) (by kernel_rfl) (by kernel_rfl)
noncomputable def iGet : Inl := ⟨88, Tryz.f88, bodyOf Tryz.f88, [0, 1, 4, 5, 6, 7, 19]⟩
theorem iGet_ok : iGet.ok Tryz.prog := Inl.mk_ok Tryz.func88 (by rfl) (by kernel_rfl) (by kernel_rfl)
noncomputable def iCon : Inl := ⟨49, Tryz.f49, bodyOf Tryz.f49, [0, 1, 4]⟩
theorem iCon_ok : iCon.ok Tryz.prog := Inl.mk_ok Tryz.func49 (by rfl) (by kernel_rfl) (by kernel_rfl)
noncomputable def iIdx : Inl := ⟨87, Tryz.f87, bodyOf Tryz.f87, [0, 1, 4, 5, 7, 8, 9, 16]⟩
theorem iIdx_ok : iIdx.ok Tryz.prog := Inl.mk_ok Tryz.func87 (by rfl) (by kernel_rfl) (by kernel_rfl)
noncomputable def iUp1 : Inl := ⟨50, Tryz.f50, bodyOf Tryz.f50, [0, 1, 2]⟩
theorem iUp1_ok : iUp1.ok Tryz.prog := Inl.mk_ok Tryz.func50 (by rfl) (by kernel_rfl) (by kernel_rfl)
noncomputable def ctxUpD_inl : List Inl := [iPut, iGet, iCon, iIdx, iUp1]
theorem ctxUpD_inlOk : InlOk Tryz.prog ctxUpD_inl := ⟨iPut_ok, iGet_ok, iCon_ok, iIdx_ok, iUp1_ok, trivial⟩
noncomputable def ctxUpD (P : Program) (h : InlOk P ctxUpD_inl) : Ctx := ctx P glM [eOpenDY, eWordsD, eFindP, ePut] [] (noEq P) ctxUpD_inl h.mem
theorem ctxUpD_good : (ctxUpD Tryz.prog ctxUpD_inlOk).good := ctx_good (by kernel_rfl) (AllOk.mem ⟨eOpenDY_ok, eWordsD_ok, eFindP_ok, ePut_ok, trivial⟩) glM_two
noncomputable def ctxUpN (P : Program) : Ctx := ctx P glM [eOpenDN] [] (noEq P) [] (fun _ h => by cases h)
theorem ctxUpN_good : (ctxUpN Tryz.prog).good := ctx_good (by kernel_rfl) (AllOk.mem ⟨eOpenDN_ok, trivial⟩) glM_two
attribute [local irreducible] fitsB rightT okD encT homeI tabT opK opV opE prD tabD upS recs fndP putL putE hereK atK insK
set_option maxHeartbeats 2000000 in
set_option maxRecDepth 100000 in
theorem update_pure (k p n : Int) (q c : Nat) (w xs : List Int) (hu : AllU w) (hx : AllU xs) (hq : q ≤ 10000) (hc : c ≤ 1000) : Pure Tryz.prog glM 19 [.agg [.v (.int .i64 k), .v (.int .i64 p), .v (.int .i64 n)], .fl [.u64] q w, .fl [.u64, .u64] c xs] (.tup [.ow 0 1 (updL k p n w (recs c 2 xs)).length, .v (.int .i64 (updE k p n w (recs c 2 xs)))]) [(0, .fl [.u64] (updL k p n w (recs c 2 xs)))] := by
  refine pure_wf fun hw => ?_
  obtain ⟨-, ⟨w1, w2⟩, ⟨w3, w4⟩, -⟩ := hw
  simp only [List.length_cons, List.length_nil, Nat.zero_add, Nat.mul_one] at w1 w3
  have hF := op_facts kv2 k p n hu
  have hLl : (recs c 2 xs).length = c := recs_len _ _ _
  have hLg : ∀ j, j < c → gR (recs c 2 xs) j = (xs.getD (j * 2) 0, xs.getD (j * 2 + 1) 0) := fun j hj => recs2_get hj
  have hLu := recs_u (n := c) (v := 2) hx
  generalize hL : recs c 2 xs = L at *
  rcases hF with ⟨e0, rfl, hf, hT, hE, hO⟩ | ⟨e0, -, -, -⟩
  · have hn := fitsK hf
    obtain ⟨m, rfl⟩ := Int.eq_ofNat_of_zero_le (a := n) (by omega)
    rw [Int.toNat_natCast] at hT
    have hex : (∃ r ∈ L, r.1 > 4611686018427387904) → updE 3 p m w L = 1 ∧ updL 3 p m w L = [] := fun h => by
      have : updE 3 p m w L = 1 := by unfold updE; rw [e0, if_neg (fun q => q rfl), if_pos h]
      exact ⟨this, by unfold updL; rw [this, if_neg (by decide)]⟩
    refine pure_of (C := ctxUpD Tryz.prog ctxUpD_inlOk) ctxUpD_good Tryz.func19 (c := bodyOf Tryz.f19) (by rfl) (Nat.le_of_ble_eq_true (by rfl)) 4 4 [0, 1, 2, 3, 6, 7, 8, 9, 11, 13, 21, 24, 25, 26, 27, 28, 41] ?_
    conv => whnf
    refine And.intro ⟨hu, e0⟩ ?_
    conv => whnf
    rw [Int.toNat_natCast]
    refine TW.loopD ctxUpD_good 4 (base := 70000000000) (lv := [0, 1, 4, 5, 7, 8, 9, 16]) [8] [] [] (fun j : Nat => [.v (.int .i64 j)]) (fun _ => []) (fun j => j ≤ c ∧ ∀ i, i < j → kR L i ≤ 4611686018427387904) (fun j => c - j) ?_
    conv => whnf
    refine ⟨⟨0, ⟨rfl, rfl, rfl⟩, Nat.zero_le _, fun i hi => by omega⟩, fun j ⟨hj, hg⟩ => ?_⟩
    conv => whnf
    refine ifB_dec (fun h => ?_) (fun h => ?_)
    · replace h : (j : Int) < c := h
      have E0 : xs.getD (0 + addN 0 (j : Int).toNat * (1 + 1) + 0) 0 = kR L j := by
        unfold kR; rw [hLg j (by omega), addN_eq, show 0 + (0 + (j : Int).toNat) * (1 + 1) + 0 = j * 2 by omega]
      conv => whnf
      repeat (refine And.intro (by omega) ?_; conv => whnf)
      by_cases hb : kR L j ≤ 4611686018427387904
      · refine ifB_f (by show decide (xs.getD (0 + addN 0 (j : Int).toNat * (1 + 1) + 0) 0 > 4611686018427387904) = false; rw [E0]; exact decide_eq_false (by omega)) ?_
        conv => whnf
        repeat (refine And.intro (by omega) ?_; conv => whnf)
        rw [wsucc (j := j) (n := c) (by omega) (by omega)]
        refine ⟨j + 1, [], ⟨rfl, rfl, rfl⟩, ⟨(by omega : j + 1 ≤ c), fun i hi => ?_⟩, by dsimp only; omega⟩
        by_cases z : i = j
        · rw [z]; exact hb
        · exact hg i (by omega)
      · obtain ⟨x1, x2⟩ := hex ⟨gR L j, gR_mem (by omega), by unfold kR at hb; omega⟩
        rw [x1, x2]
        refine ifB_t (by show decide (xs.getD (0 + addN 0 (j : Int).toNat * (1 + 1) + 0) 0 > 4611686018427387904) = true; rw [E0]; exact decide_eq_true (by omega)) ?_
        conv => whnf
        repeat' (first | exact trivial | exact rfl | (refine And.intro ?_ ?_) | ((conv => whnf); done) | ((conv => whnf); (first | rfl | (refine congrArg (fun b => T.v (Value.bool b)) ?_; first | rfl | exact (decide_eq_true (by omega)).symm | exact (decide_eq_false (by omega)).symm | exact decide_eq_decide.2 (by omega)) | (refine congrArg (fun b => T.v (Value.int _ b)) ?_; first | rfl | omega) | omega)) | (first | rfl | (refine congrArg (fun b => T.v (Value.bool b)) ?_; first | rfl | exact (decide_eq_true (by omega)).symm | exact (decide_eq_false (by omega)).symm | exact decide_eq_decide.2 (by omega)) | (refine congrArg (fun b => T.v (Value.int _ b)) ?_; first | rfl | omega) | omega))
    · replace h : ¬ (j : Int) < c := h
      obtain rfl : j = c := by omega
      have hok : ¬ ∃ r ∈ L, r.1 > 4611686018427387904 := by
        rintro ⟨r, hr, hb⟩
        obtain ⟨i, hi, rfl⟩ := List.getElem_of_mem hr
        have := hg i (by omega)
        have e : gR L i = L[i] := by unfold gR; rw [List.getD_eq_getElem?_getD, List.getElem?_eq_getElem hi]; rfl
        unfold kR at this; rw [e] at this
        omega
      have huE : updE 3 p m w L = if upS m (opK 2 3 3 p m w, opV 2 3 3 p m w) L = none then 11 else 0 := by
        unfold updE; rw [e0, if_neg (fun q => q rfl), if_neg hok]
      have huS : updS 3 p m w L = (upS m (opK 2 3 3 p m w, opV 2 3 3 p m w) L).getD ([], []) := rfl
      have huL : updL 3 p m w L = if updE 3 p m w L = 0 then encT 2 (m : Int).toNat (updS 3 p m w L).1 (updS 3 p m w L).2 else [] := rfl
      rw [Int.toNat_natCast] at huL
      conv => whnf
      generalize hk0 : opK 2 3 3 p m w = k0 at *
      generalize hv0 : opV 2 3 3 p m w = v0 at *
      refine TW.loopD ctxUpD_good 4 (base := 0) (lv := [0, 1, 2, 3, 6, 7, 8, 9, 11, 13, 21, 24, 25, 26, 27, 28, 41]) [27] [68, 69] [(68, 68), (69, 69)] (fun x : Nat × List Int × List Int => [.v (.int .i64 x.1)]) (fun x => [.cs [.v (.int .u64 m), .v (.int .u64 x.2.1.length), .ow 69 1 (4 * m)], .fl [.u64] (tabT 2 m x.2.1 x.2.2)]) (fun x => x.1 ≤ j ∧ upS m (k0, v0) (L.take x.1) = some (x.2.1, x.2.2)) (fun x => j - x.1) ?_
      conv => whnf
      refine ⟨⟨(0, k0, v0), ⟨rfl, rfl, rfl⟩, Nat.zero_le _, upS_nil _ _⟩, fun ⟨i, ks, vs⟩ ⟨hi, hs⟩ => ?_⟩
      replace hi : i ≤ j := hi
      replace hs : upS m (k0, v0) (L.take i) = some (ks, vs) := hs
      have hTi : TabV 3 m ks vs := upS_v (s := (k0, v0)) (s' := (ks, vs)) hT (fun r hr => hLu r (List.mem_of_mem_take hr)) hs
      have hkl := hTi.len
      have htb := hTi.tb kv2
      have htu := htb.u
      have htl : (tabT 2 m ks vs).length = 4 * m := by rw [htb.len]; omega
      have hen := hTi.enc_len kv2
      conv => whnf
      refine ifB_dec (fun h => ?_) (fun h => ?_)
      · replace h : (i : Int) < j := h
        obtain ⟨u1, u2⟩ := hLu _ (gR_mem (T := L) (j := i) (by omega))
        have hkm : (gR L i).1 ≤ 4611686018427387904 := hg i (by omega)
        have E0 : xs.getD (0 + addN 0 (i : Int).toNat * (1 + 1) + 0) 0 = (gR L i).1 := by
          rw [hLg i (by omega), addN_eq, show 0 + (0 + (i : Int).toNat) * (1 + 1) + 0 = i * 2 by omega]
        have E1 : xs.getD (0 + addN 0 (i : Int).toNat * (1 + 1) + (0 + 1)) 0 = (gR L i).2 := by
          rw [hLg i (by omega), addN_eq, show 0 + (0 + (i : Int).toNat) * (1 + 1) + (0 + 1) = i * 2 + 1 by omega]
        have hsn : upS m (k0, v0) (L.take (i + 1)) = putO m (ks, vs) (gR L i) := by
          rw [take_snocR (by omega), upS_snoc, hs]; rfl
        have hpu : putO m (ks, vs) (gR L i) = if (tabD 3 m ks vs 11 (gR L i).1 (gR L i).2).2.2.1 = 0 then some ((tabD 3 m ks vs 11 (gR L i).1 (gR L i).2).1, (tabD 3 m ks vs 11 (gR L i).1 (gR L i).2).2.1) else none := rfl
        conv => whnf
        repeat (refine And.intro (by omega) ?_; conv => whnf)
        refine And.intro ⟨by omega, htu⟩ ?_
        conv => whnf
        obtain ⟨f1, f2⟩ := dfnd hTi (by omega) (by omega) (gR L i).1 (by unfold U64 at u1; omega)
        obtain ⟨u1a, u1b⟩ := id u1
        have e1 : IntKind.u64.wrap ((gR L i).1 + 1) = (gR L i).1 + 1 := wrapU (by omega) (by omega)
        have G0 : IntKind.u64.wrap ((([0, 0].set (0 + 0 * (1 + 1) + 0) (xs.getD (0 + (i : Int).toNat * (1 + 1) + 0) 0)).set (0 + 0 * (1 + 1) + (0 + 1)) (xs.getD (0 + (i : Int).toNat * (1 + 1) + (0 + 1)) 0)).getD (0 + 0 * (1 + 1)) 0 + 1) = (gR L i).1 + 1 := by
          show IntKind.u64.wrap (xs.getD (0 + (i : Int).toNat * (1 + 1) + 0) 0 + 1) = _
          rw [show xs.getD (0 + (i : Int).toNat * (1 + 1) + 0) 0 = (gR L i).1 from E0, e1]
        have G1 : (([0, 0].set (0 + 0 * (1 + 1) + 0) (xs.getD (0 + (i : Int).toNat * (1 + 1) + 0) 0)).set (0 + 0 * (1 + 1) + (0 + 1)) (xs.getD (0 + (i : Int).toNat * (1 + 1) + (0 + 1)) 0)).getD (0 + 1 + 0 * (1 + 1)) 0 = (gR L i).2 := E1
        rw [show (((i, ks, vs) : Nat × List Int × List Int).1) = i from rfl, G0]
        cases hh : hereK 3 ks (gR L i).1
        · rw [f2 hh]
          conv => whnf
          by_cases hm2 : ks.length = m
          · have hd := put_full hTi ⟨u1a, hkm⟩ hh hm2 (val := (gR L i).2)
            have hpn : putO m (ks, vs) (gR L i) = none := by unfold putO; dsimp only; rw [hd]; rfl
            have hno : upS m (k0, v0) L = none := by
              rw [← List.take_append_drop (i + 1) L]
              exact upS_none _ _ _ _ (by rw [hsn, hpn])
            rw [hno] at huE
            rw [if_pos rfl] at huE
            rw [huE, if_neg (by decide)] at huL
            rw [huE, huL]
            refine ifB_t (show ((ks.length : Int) == m) = true by simp; omega) ?_
            conv => whnf
            repeat' (first | exact trivial | exact rfl | (refine And.intro ?_ ?_) | ((conv => whnf); done) | ((conv => whnf); (first | rfl | (refine congrArg (fun b => T.v (Value.bool b)) ?_; first | rfl | exact (decide_eq_true (by omega)).symm | exact (decide_eq_false (by omega)).symm | exact decide_eq_decide.2 (by omega)) | (refine congrArg (fun b => T.v (Value.int _ b)) ?_; first | rfl | omega) | omega)) | (first | rfl | (refine congrArg (fun b => T.v (Value.bool b)) ?_; first | rfl | exact (decide_eq_true (by omega)).symm | exact (decide_eq_false (by omega)).symm | exact decide_eq_decide.2 (by omega)) | (refine congrArg (fun b => T.v (Value.int _ b)) ?_; first | rfl | omega) | omega))
          · obtain ⟨hd, hT2, hP⟩ := put_new hTi (by omega) (by omega) ⟨u1a, hkm⟩ u2 hh hm2
            rw [hd, if_pos rfl] at hpu
            refine ifB_f (show ((ks.length : Int) == m) = false by simp; omega) ?_
            conv => whnf
            refine And.intro ⟨by omega, htu, by rw [G0]; unfold U64; omega⟩ ?_
            conv => whnf
            have htl2 : (tabT 2 m (insK ks (atK 3 ks (gR L i).1) (gR L i).1) (insK vs (atK 3 ks (gR L i).1) (gR L i).2)).length = 4 * m := by rw [(hT2.tb kv2).len]; omega
            have hil := insK_len (l := ks) (a := atK 3 ks (gR L i).1) (w := (gR L i).1) (atK_le _ _ _)
            rw [G0, G1, hP, htl2, wsucc (j := i) (n := j) (by omega) (by omega), show IntKind.u64.wrap ((((i, ks, vs) : Nat × List Int × List Int).2.1.length : Int) + 1) = ((insK ks (atK 3 ks (gR L i).1) (gR L i).1).length : Int) by rw [hil, wrapU (by omega) (by dsimp only; omega)]; dsimp only; omega]
            exact ⟨(i + 1, _, _), [(68, 68), (610484, 69)], ⟨rfl, rfl, rfl⟩, ⟨(by omega : i + 1 ≤ j), hsn.trans hpu⟩, by dsimp only; omega⟩
        · obtain ⟨pp, hp, hf1, hf3⟩ := f1 hh
          obtain ⟨hd, hT2, hP⟩ := put_here hTi (by omega) (by omega) ⟨u1a, hkm⟩ u2 hh
          rw [hd, if_pos rfl] at hpu
          have hi2 : IntKind.i64.wrap (IntKind.i64.wrap ((pp : Int) * 2) + 1) = ((pp * 2 + 1 : Nat) : Int) := by
            rw [wrap64 (a := (pp : Int) * 2) (by omega) (by omega), wrap64 (by omega) (by omega)]; omega
          rw [hf1]
          conv => whnf
          rw [if_neg (show ¬ (pp : Int) < 0 by omega), hi2]
          refine And.intro (by omega) ?_
          conv => whnf
          refine And.intro ⟨by omega, htu, by rw [G0]; unfold U64; omega⟩ ?_
          conv => whnf
          have htl2 : (tabT 2 m ks (vs.set (atK 3 ks (gR L i).1) (gR L i).2)).length = 4 * m := by rw [(hT2.tb kv2).len]; omega
          rw [G0, G1, hP, htl2, wsucc (j := i) (n := j) (by omega) (by omega)]
          exact ⟨(i + 1, ks, vs.set (atK 3 ks (gR L i).1) (gR L i).2), [(68, 68), (610484, 69)], ⟨rfl, rfl, rfl⟩, ⟨(by omega : i + 1 ≤ j), hsn.trans hpu⟩, by dsimp only; omega⟩
      · replace h : ¬ (i : Int) < j := h
        obtain rfl : i = j := by omega
        conv => whnf
        rw [List.take_of_length_le (by omega)] at hs
        rw [hs] at huE huS
        rw [if_neg (by simp)] at huE
        rw [huE, if_pos rfl, huS] at huL
        rw [huE, huL]
        simp only [Option.getD_some] at *
        rw [hen, show encT 2 m ks vs = (ks.length : Int) :: tabT 2 m ks vs by unfold encT; rfl, show 1 + 2 * m * 2 = 1 + 4 * m by omega]
        refine And.intro (by omega) ?_
        conv => whnf
        repeat' (first | exact trivial | exact rfl | (refine And.intro ?_ ?_) | ((conv => whnf); done) | ((conv => whnf); (first | rfl | (refine congrArg (fun b => T.v (Value.bool b)) ?_; first | rfl | exact (decide_eq_true (by omega)).symm | exact (decide_eq_false (by omega)).symm | exact decide_eq_decide.2 (by omega)) | (refine congrArg (fun b => T.v (Value.int _ b)) ?_; first | rfl | omega) | omega)) | (first | rfl | (refine congrArg (fun b => T.v (Value.bool b)) ?_; first | rfl | exact (decide_eq_true (by omega)).symm | exact (decide_eq_false (by omega)).symm | exact decide_eq_decide.2 (by omega)) | (refine congrArg (fun b => T.v (Value.int _ b)) ?_; first | rfl | omega) | omega))
  · have hne : opE 2 3 k p n w ≠ 0 := by omega
    have e1 : updE k p n w L = opE 2 3 k p n w := by unfold updE; rw [if_pos hne]
    have e2 : updL k p n w L = [] := by unfold updL; rw [e1, if_neg hne]
    rw [e1, e2]
    refine pure_of (C := ctxUpN Tryz.prog) ctxUpN_good Tryz.func19 (c := bodyOf Tryz.f19) (by rfl) (Nat.le_of_ble_eq_true (by rfl)) 4 0 [0, 1, 2, 3, 6, 7, 8, 9, 11, 13, 21, 24, 25, 26, 27, 28, 41] ?_
    conv => whnf
    refine And.intro ⟨hu, hq, hne⟩ ?_
    conv => whnf
    refine ifB_ne (fun h => ?_) (fun h => absurd h hne)
    conv => whnf
    repeat' (first | exact trivial | exact rfl | (refine And.intro ?_ ?_) | ((conv => whnf); done) | ((conv => whnf); (first | rfl | (refine congrArg (fun b => T.v (Value.bool b)) ?_; first | rfl | exact (decide_eq_true (by omega)).symm | exact (decide_eq_false (by omega)).symm | exact decide_eq_decide.2 (by omega)) | (refine congrArg (fun b => T.v (Value.int _ b)) ?_; first | rfl | omega) | omega)) | (first | rfl | (refine congrArg (fun b => T.v (Value.bool b)) ?_; first | rfl | exact (decide_eq_true (by omega)).symm | exact (decide_eq_false (by omega)).symm | exact decide_eq_decide.2 (by omega)) | (refine congrArg (fun b => T.v (Value.int _ b)) ?_; first | rfl | omega) | omega))
end Go.Proofs.YtnplgklnkcjmnaaGreatDoor.DcT
namespace Go.Proofs.YtnplgklnkcjmnaaGreatDoor.DcT
open Go.RowKit Go.Proofs.YtnplgklnkcjmnaaGreatDoor.Am Go.Proofs.YtnplgklnkcjmnaaGreatDoor Go.Proofs.YtnplgklnkcjmnaaGreatDoor.PrT
set_option linter.unusedVariables false
set_option linter.unusedSimpArgs false


noncomputable def eUpdate : Entry := ⟨19, 8, fun l => match l with
  | [.agg [.v (.int .i64 k), .v (.int .i64 p), .v (.int .i64 n)], .fl [.u64] q w, .fl [.u64, .u64] c xs] => some (some (AllU w ∧ AllU xs ∧ q ≤ 10000 ∧ c ≤ 1000), .tup [.ow 0 1 (updL k p n w (recs c 2 xs)).length, .v (.int .i64 (updE k p n w (recs c 2 xs)))], [(0, .fl [.u64] (updL k p n w (recs c 2 xs)))])
  | _ => none⟩
theorem eUpdate_ok : eUpdate.ok Tryz.prog glM := ⟨Am.enters_of Tryz.func19 (by kernel_rfl) (by kernel_rfl), by
  intro args c t bs h hc
  simp only [eUpdate] at h
  split at h <;> cases h
  obtain ⟨h1, h2, h3, h4⟩ := hc _ rfl
  exact update_pure _ _ _ _ _ _ _ h1 h2 h3 h4⟩
noncomputable def ctxPsD_inl : List Inl := [iPairs, iPairs1]
theorem ctxPsD_inlOk : InlOk Tryz.prog ctxPsD_inl := ⟨iPairs_ok, iPairs1_ok, trivial⟩
noncomputable def ctxPsD (P : Program) (h : InlOk P ctxPsD_inl) : Ctx := ctx P glM [eOpenDY, eList] [] (noEq P) ctxPsD_inl h.mem
theorem ctxPsD_good : (ctxPsD Tryz.prog ctxPsD_inlOk).good := ctx_good (by kernel_rfl) (AllOk.mem ⟨eOpenDY_ok, eList_ok, trivial⟩) glM_two
attribute [local irreducible] fitsB rightT okD encT homeI tabT opK opV opE prD lstP rsK
set_option maxHeartbeats 2000000 in
set_option maxRecDepth 100000 in
theorem pairs_pure (k p n : Int) (q : Nat) (w : List Int) (hu : AllU w) (hq : q ≤ 10000) : Pure Tryz.prog glM 16 [.agg [.v (.int .i64 k), .v (.int .i64 p), .v (.int .i64 n)], .fl [.u64] q w] (.tup [.ow 0 2 (opK 2 3 k p n w).length, .v (.int .i64 (opE 2 3 k p n w))]) [(0, .fl [.u64, .u64] (flat 2 (prD (opK 2 3 k p n w) (opV 2 3 k p n w))))] := by
  rcases op_facts kv2 k p n hu with ⟨e0, rfl, hf, hT, -, -⟩ | ⟨e0, e1, e2, -⟩
  · have hn := fitsK hf
    obtain ⟨m, rfl⟩ := Int.eq_ofNat_of_zero_le (a := n) (by omega)
    rw [Int.toNat_natCast] at hT
    refine pure_of (C := ctxPsD Tryz.prog ctxPsD_inlOk) ctxPsD_good Tryz.func16 (c := bodyOf Tryz.f16) (by rfl) (Nat.le_of_ble_eq_true (by rfl)) 4 4 [0, 1, 2, 4, 5, 6, 7, 8, 16, 19, 20, 21] ?_
    conv => whnf
    refine And.intro ⟨hu, e0⟩ ?_
    conv => whnf
    rw [Int.toNat_natCast, e0]
    generalize opK 2 3 3 p m w = ks at *
    generalize opV 2 3 3 p m w = vs at *
    have hkl := hT.len
    have hku : ∀ i, i < ks.length → 0 ≤ ks.getD i 0 ∧ ks.getD i 0 ≤ 4611686018427387904 := fun i hi => hT.k_u kv2 hi
    have htb := hT.tb kv2
    have htu := htb.u
    have hls : lstP 2 (tabT 2 m ks vs) = rsK 2 ks vs := hT.lst kv2 (by omega) (by omega)
    have hrl := rsK_len 2 ks vs
    intro l
    conv => whnf
    repeat (refine And.intro (by first | omega | exact ⟨by omega, htu⟩) ?_; conv => whnf)
    rw [hls, hrl]
    refine TW.nilOwnB 16 0 5000 2 _ (.fl [.u64, .u64] []) rfl rfl rfl (.inr ⟨_, _, rfl⟩) (by decide) ?_
    refine TW.loopD ctxPsD_good 4 (base := 7000000) (lv := [0, 1, 4, 9, 10, 11, 12, 22]) [11] [16, 5000] [(16, 16), (5000, 5000)] (fun j : Nat => [.v (.int .i64 j)]) (fun j => [.cs [.ow 5000 2 j], .fl [.u64, .u64] (flat 2 ((prD ks vs).take j))]) (fun j => j ≤ ks.length) (fun j => ks.length - j) ?_
    conv => whnf
    refine ⟨⟨0, ⟨rfl, rfl, rfl⟩, Nat.zero_le _⟩, fun j hj => ?_⟩
    replace hj : j ≤ ks.length := hj
    conv => whnf
    refine ifB_dec (fun h => ?_) (fun h => ?_)
    · replace h : (j : Int) < ks.length := h
      have hs := prD_take vs (ks := ks) (j := j) (by omega)
      obtain ⟨k1, k2⟩ := hku j (by omega)
      have E0 : (flat 2 (rsK 2 ks vs)).getD (0 + addN 0 (j : Int).toNat * (1 + 1) + 0) 0 = ks.getD j 0 + 1 := by
        rw [addN_eq, show 0 + (0 + (j : Int).toNat) * (1 + 1) + 0 = j * 2 by omega, flat_key (.inr rfl) _ (by rw [hrl]; omega)]
        unfold kR; rw [rsK_get 2 ks vs (by omega)]
      have E1 : (flat 2 (rsK 2 ks vs)).getD (0 + addN 0 (j : Int).toNat * (1 + 1) + (0 + 1)) 0 = vs.getD j 0 := by
        rw [addN_eq, show 0 + (0 + (j : Int).toNat) * (1 + 1) + (0 + 1) = j * 2 + 1 by omega, flat_val _ (by rw [hrl]; omega), rsK_get 2 ks vs (by omega)]
        rfl
      have e1 : IntKind.u64.wrap (ks.getD j 0 + 1 - 1) = ks.getD j 0 := by rw [wrapU (by omega) (by omega)]; omega
      conv => whnf
      repeat (refine And.intro (by first | rfl | omega | (show j + 1 ≤ 1099511627776; omega)) ?_; conv => whnf)
      rw [wsucc (j := j) (n := ks.length) (by omega) (by omega)]
      refine ⟨j + 1, [(16, 16), (28672348276, 5000)], ⟨rfl, rfl, ?_⟩, (by omega : j + 1 ≤ ks.length), by dsimp only; omega⟩
      have G : flat 2 ((prD ks vs).take (j + 1)) = flat 2 ((prD ks vs).take j) ++ [IntKind.u64.wrap ((flat 2 (rsK 2 ks vs)).getD (0 + addN 0 (j : Int).toNat * (1 + 1) + 0) 0 - 1), (flat 2 (rsK 2 ks vs)).getD (0 + addN 0 (j : Int).toNat * (1 + 1) + (0 + 1)) 0] := by
        rw [hs, flat_append, E0, E1, e1]; rfl
      show _ = (16, Blk.cs [Am.T.ow 5000 2 (j + 1)]) :: (5000, Blk.fl [.u64, .u64] (flat 2 ((prD ks vs).take (j + 1)))) :: _
      rw [G]; rfl
    · replace h : ¬ (j : Int) < ks.length := h
      obtain rfl : j = ks.length := by omega
      conv => whnf
      repeat (refine And.intro (by first | rfl | omega) ?_; conv => whnf)
      rw [List.take_of_length_le (by rw [prD_len]; exact Nat.le_refl _)]
      repeat' (first | exact trivial | exact rfl | (refine And.intro ?_ ?_) | ((conv => whnf); done) | ((conv => whnf); (first | rfl | (refine congrArg (fun b => T.v (Value.bool b)) ?_; first | rfl | exact (decide_eq_true (by omega)).symm | exact (decide_eq_false (by omega)).symm | exact decide_eq_decide.2 (by omega)) | (refine congrArg (fun b => T.v (Value.int _ b)) ?_; first | rfl | omega) | omega)) | (first | rfl | (refine congrArg (fun b => T.v (Value.bool b)) ?_; first | rfl | exact (decide_eq_true (by omega)).symm | exact (decide_eq_false (by omega)).symm | exact decide_eq_decide.2 (by omega)) | (refine congrArg (fun b => T.v (Value.int _ b)) ?_; first | rfl | omega) | omega))
  · have hne : opE 2 3 k p n w ≠ 0 := by omega
    rw [e1, e2]
    refine pure_of (C := ctxUpN Tryz.prog) ctxUpN_good Tryz.func16 (c := bodyOf Tryz.f16) (by rfl) (Nat.le_of_ble_eq_true (by rfl)) 4 0 [0, 1, 2, 4, 5, 6, 7, 8, 16, 19, 20, 21] ?_
    conv => whnf
    refine And.intro ⟨hu, hq, hne⟩ ?_
    conv => whnf
    refine ifB_ne (fun h => ?_) (fun h => absurd h hne)
    conv => whnf
    rw [show prD [] [] = [] by unfold prD; rfl]
    repeat' (first | exact trivial | exact rfl | (refine And.intro ?_ ?_) | ((conv => whnf); done) | ((conv => whnf); (first | rfl | (refine congrArg (fun b => T.v (Value.bool b)) ?_; first | rfl | exact (decide_eq_true (by omega)).symm | exact (decide_eq_false (by omega)).symm | exact decide_eq_decide.2 (by omega)) | (refine congrArg (fun b => T.v (Value.int _ b)) ?_; first | rfl | omega) | omega)) | (first | rfl | (refine congrArg (fun b => T.v (Value.bool b)) ?_; first | rfl | exact (decide_eq_true (by omega)).symm | exact (decide_eq_false (by omega)).symm | exact decide_eq_decide.2 (by omega)) | (refine congrArg (fun b => T.v (Value.int _ b)) ?_; first | rfl | omega) | omega))
end Go.Proofs.YtnplgklnkcjmnaaGreatDoor.DcT
