/- Texts put together: PrC, PrD, PrE, PrF. -/
import Derived.Test.YtnplgklnkcjmnaaGreatDoorDictUpdateM6
import Derived.Laws.Bits64
namespace Go.Proofs.YtnplgklnkcjmnaaGreatDoor.PrT
open Go.RowKit Go.Proofs.YtnplgklnkcjmnaaGreatDoor.Am Go.Proofs.YtnplgklnkcjmnaaGreatDoor
set_option linter.unusedVariables false
set_option linter.unusedSimpArgs false

theorem rMix_i (w : Int) : rMix w = iMix w := by
  unfold rMix iMix
  have e : mixR (mixR (mixR w 30 13787848793156543929) 27 10723151780598845931) 31 1 = IntKind.u64.wrap (mixF (mixR (mixR w 30 13787848793156543929) 27 10723151780598845931) 31 * 1) := rfl
  rw [e, Int.mul_one]
  obtain ⟨h1, h2⟩ := (show U64 (mixF (mixR (mixR w 30 13787848793156543929) 27 10723151780598845931) 31) from u64_bits _ _ _)
  exact (wrapU h1 h2).symm
theorem rmixI_pure (a : Int) : Pure Tryz.prog glR 169 [.v (.int .u64 a)] (.v (.int .u64 (iMix a))) := by
  rw [← rMix_i]
  exact rmixR_pure a
theorem fold_inj {X Y s : Nat} (hX : X < 18446744073709551616) (hY : Y < 18446744073709551616) (hs : 0 < s) (h : X ^^^ X / 2 ^ s = Y ^^^ Y / 2 ^ s) : X = Y := by
  have hb : ∀ (k i : Nat), 64 ≤ i + k → X.testBit i = Y.testBit i := by
    intro k
    induction k using Nat.strongRecOn with
    | _ k ih =>
      intro i hi
      by_cases h64 : 64 ≤ i
      · rw [Nat.testBit_lt_two_pow (Nat.lt_of_lt_of_le hX (by rw [show (18446744073709551616 : Nat) = 2 ^ 64 by rfl]; exact Nat.pow_le_pow_right (by decide) h64)), Nat.testBit_lt_two_pow (Nat.lt_of_lt_of_le hY (by rw [show (18446744073709551616 : Nat) = 2 ^ 64 by rfl]; exact Nat.pow_le_pow_right (by decide) h64))]
      · have h2 := ih (k - 1) (by omega) (i + s) (by omega)
        have h3 := congrArg (fun n => Nat.testBit n i) h
        simp only [Nat.testBit_xor, ← Nat.shiftRight_eq_div_pow, Nat.testBit_shiftRight] at h3
        rw [Nat.add_comm s i, h2] at h3
        revert h3
        cases X.testBit i <;> cases Y.testBit i <;> cases Y.testBit (i + s) <;> simp
  exact Nat.eq_of_testBit_eq fun i => hb 64 i (by omega)
theorem times_inj {X Y C D : Nat} (hX : X < 18446744073709551616) (hY : Y < 18446744073709551616) (hCD : C * D % 18446744073709551616 = 1) (h : X * C % 18446744073709551616 = Y * C % 18446744073709551616) : X = Y := by
  have key : ∀ Z, Z < 18446744073709551616 → (Z * C % 18446744073709551616) * D % 18446744073709551616 = Z := by
    intro Z hZ
    rw [Nat.mod_mul_mod, Nat.mul_assoc, Nat.mul_mod, hCD, Nat.mul_one, Nat.mod_mod, Nat.mod_eq_of_lt hZ]
  rw [← key X hX, ← key Y hY, h]
theorem mixF_nat {X : Nat} (s : Nat) (hs : s ≤ 64) (hX : X < 18446744073709551616) : mixF (X : Int) (s : Int) = ((X ^^^ X / 2 ^ s : Nat) : Int) := by
  unfold mixF
  rw [Int.toNat_natCast, Nat.min_eq_left (show s ≤ IntKind.u64.bits from hs), Int.fdiv_eq_ediv_of_nonneg _ (by exact_mod_cast Nat.zero_le _)]
  have := xorShift_u64 X (2 ^ s) hX
  rw [← this]; congr 2
theorem xor_lt {X : Nat} (s : Nat) (hX : X < 18446744073709551616) : X ^^^ X / 2 ^ s < 18446744073709551616 :=
  Nat.xor_lt_two_pow (n := 64) hX (Nat.lt_of_le_of_lt (Nat.div_le_self _ _) hX)
theorem mixR_nat {X : Nat} (s C : Nat) (hs : s ≤ 64) (hX : X < 18446744073709551616) : mixR (X : Int) (s : Int) (C : Int) = (((X ^^^ X / 2 ^ s) * C % 18446744073709551616 : Nat) : Int) := by
  unfold mixR
  rw [mixF_nat s hs hX, IntKind.wrap_u64, Int.natCast_emod, Int.natCast_mul]; rfl
theorem iMix_inj {a b : Int} (ha : U64 a) (hb : U64 b) (h : iMix a = iMix b) : a = b := by
  obtain ⟨X, rfl⟩ := Int.eq_ofNat_of_zero_le ha.1
  obtain ⟨Y, rfl⟩ := Int.eq_ofNat_of_zero_le hb.1
  have hX : X < 18446744073709551616 := by have := ha.2; omega
  have hY : Y < 18446744073709551616 := by have := hb.2; omega
  rw [← rMix_i, ← rMix_i] at h
  unfold rMix at h
  have m1 : ∀ Z : Nat, Z < 18446744073709551616 → mixR (Z : Int) 30 13787848793156543929 = (((Z ^^^ Z / 2 ^ 30) * 13787848793156543929 % 18446744073709551616 : Nat) : Int) := fun Z hZ => mixR_nat 30 13787848793156543929 (by omega) hZ
  have m2 : ∀ Z : Nat, Z < 18446744073709551616 → mixR (Z : Int) 27 10723151780598845931 = (((Z ^^^ Z / 2 ^ 27) * 10723151780598845931 % 18446744073709551616 : Nat) : Int) := fun Z hZ => mixR_nat 27 10723151780598845931 (by omega) hZ
  have m3 : ∀ Z : Nat, Z < 18446744073709551616 → mixF (Z : Int) 31 = ((Z ^^^ Z / 2 ^ 31 : Nat) : Int) := fun Z hZ => mixF_nat 31 (by omega) hZ
  have lt : ∀ A : Nat, A % 18446744073709551616 < 18446744073709551616 := fun A => Nat.mod_lt _ (by decide)
  rw [m1 X hX, m1 Y hY, m2 _ (lt _), m2 _ (lt _), m3 _ (lt _), m3 _ (lt _)] at h
  have h1 := fold_inj (lt _) (lt _) (by decide) (Int.ofNat.inj h)
  have h2 := times_inj (D := 3573116690164977347) (xor_lt 27 (lt _)) (xor_lt 27 (lt _)) (by decide +kernel) h1
  have h3 := fold_inj (lt _) (lt _) (by decide) h2
  have h4 := times_inj (D := 10871156337175269513) (xor_lt 30 hX) (xor_lt 30 hY) (by decide +kernel) h3
  rw [fold_inj hX hY (by decide) h4]

theorem iMix_u (w : Int) : U64 (iMix w) := by
  rw [← rMix_i]; unfold rMix; exact (show U64 (mixF (mixR (mixR w 30 13787848793156543929) 27 10723151780598845931) 31) from u64_bits _ _ _)
/-- Homes and weights, as they are. -/
def hsP : Hs where
  hm n k := (iMix k % n).toNat
  wt := iMix
  bf := bBefore
  U := U64
  hlt n k h := by
    have h1 := Int.emod_nonneg (iMix k) (b := (n : Int)) (by omega)
    have h2 := Int.emod_lt_of_pos (iMix k) (b := (n : Int)) (by omega)
    omega
  hbf a b := rfl
  inj a b ha hb h := iMix_inj ha hb h
  lo a _ := (iMix_u a).1
  hi a _ := (iMix_u a).2
/-- The same, that no walk may look into. -/
noncomputable def sP : Hs := Classical.choose (p := fun S => S = hsP) ⟨hsP, rfl⟩
theorem sP_eq : sP = hsP := Classical.choose_spec (p := fun S => S = hsP) ⟨hsP, rfl⟩
theorem sP_bf (a b : Int) : sP.bf a b = bBefore a b := by rw [sP_eq]; rfl
theorem sP_U (a : Int) : sP.U a = U64 a := by rw [sP_eq]; rfl
theorem sP_hm (n : Nat) (k : Int) (hn : 0 < n) : ((sP.hm n k : Nat) : Int) = iMix k % n := by
  rw [sP_eq]
  show (((iMix k % n).toNat : Nat) : Int) = _
  exact Int.toNat_of_nonneg (Int.emod_nonneg _ (by omega))


noncomputable def eRMix : Entry := ⟨169, 3, fun l => match l with | [.v (.int .u64 a)] => some (none, .v (.int .u64 (iMix a)), []) | _ => none⟩
theorem eRMix_ok : eRMix.ok Tryz.prog glR := ⟨Am.enters_of Tryz.func169 (by kernel_rfl) (by kernel_rfl), by
  intro args c t bs h hc
  simp only [eRMix] at h
  split at h <;> cases h
  exact rmixI_pure _⟩
noncomputable def ctxRMx (P : Program) : Ctx := ctx P glR [eRMix] [] (noEq P) [] (fun _ h => by cases h)
theorem ctxRMx_good : (ctxRMx Tryz.prog).good := ctx_good (by kernel_rfl) (AllOk.mem ⟨eRMix_ok, trivial⟩) glR_two
set_option maxRecDepth 100000 in
theorem rbefore_pure (a b : Int) : Pure Tryz.prog glR 137 [.v (.int .u64 a), .v (.int .u64 b)] (.v (.bool (sP.bf a b))) := by
  rw [sP_bf]
  refine pure_of (C := ctxRMx Tryz.prog) ctxRMx_good Tryz.func137 (c := bodyOf Tryz.f137) (by rfl) (Nat.le_of_ble_eq_true (by rfl)) 4 0 [0, 1, 4] ?_
  conv => whnf
  rfl
noncomputable def eRBf : Entry := ⟨137, 3, fun l => match l with | [.v (.int .u64 a), .v (.int .u64 b)] => some (none, .v (.bool (sP.bf a b)), []) | _ => none⟩
theorem eRBf_ok : eRBf.ok Tryz.prog glR := ⟨Am.enters_of Tryz.func137 (by kernel_rfl) (by kernel_rfl), by
  intro args c t bs h hc
  simp only [eRBf] at h
  split at h <;> cases h
  exact rbefore_pure _ _⟩
attribute [local irreducible] iMix
set_option maxRecDepth 100000 in
theorem rslot_pure (k : Int) (n : Nat) (h1 : 0 < n) (h2 : n ≤ 4096) : Pure Tryz.prog glR 136 [.v (.int .u64 k), .v (.int .i64 n)] (.v (.int .i64 ((sP.hm n k : Nat) : Int))) := by
  rw [sP_hm n k h1]
  obtain ⟨u1, u2⟩ := iMix_u k
  have e1 : IntKind.u64.wrap (n : Int) = n := wrapU (by omega) (by omega)
  have m1 := Int.emod_nonneg (iMix k) (b := (n : Int)) (by omega)
  have m2 := Int.emod_lt_of_pos (iMix k) (b := (n : Int)) (by omega)
  have e2 : IntKind.i64.wrap ((iMix k).tmod n) = iMix k % n := by rw [Int.tmod_eq_emod_of_nonneg u1]; exact wrap64 (by omega) (by omega)
  refine pure_of (C := ctxRMx Tryz.prog) ctxRMx_good Tryz.func136 (c := bodyOf Tryz.f136) (by rfl) (Nat.le_of_ble_eq_true (by rfl)) 4 0 [0, 1, 4, 6] ?_
  conv => whnf
  refine ifB_f (decide_eq_false (by omega)) ?_
  conv => whnf
  rw [e1]
  repeat (refine And.intro (by omega) ?_; conv => whnf)
  rw [e2]
  repeat' (first | exact trivial | exact rfl | (refine And.intro ?_ ?_) | ((conv => whnf); done) | ((conv => whnf); (first | rfl | (refine congrArg (fun b => T.v (Value.bool b)) ?_; first | rfl | exact (decide_eq_true (by omega)).symm | exact (decide_eq_false (by omega)).symm | exact decide_eq_decide.2 (by omega)) | (refine congrArg (fun b => T.v (Value.int _ b)) ?_; first | rfl | omega) | omega)) | (first | rfl | (refine congrArg (fun b => T.v (Value.bool b)) ?_; first | rfl | exact (decide_eq_true (by omega)).symm | exact (decide_eq_false (by omega)).symm | exact decide_eq_decide.2 (by omega)) | (refine congrArg (fun b => T.v (Value.int _ b)) ?_; first | rfl | omega) | omega))
noncomputable def eRSlot : Entry := ⟨136, 3, fun l => match l with | [.v (.int .u64 k), .v (.int .i64 n)] => some (some (0 < n ∧ n ≤ 4096), .v (.int .i64 ((sP.hm n.toNat k : Nat) : Int)), []) | _ => none⟩
theorem eRSlot_ok : eRSlot.ok Tryz.prog glR := ⟨Am.enters_of Tryz.func136 (by kernel_rfl) (by kernel_rfl), by
  intro args c t bs h hc
  simp only [eRSlot] at h
  split at h <;> cases h
  replace hc := hc _ rfl
  exact (by obtain ⟨m, rfl⟩ := Int.eq_ofNat_of_zero_le (Int.le_of_lt hc.1); exact rslot_pure _ m (by omega) (by omega))⟩

theorem pbefore_pure (a b : Int) : Pure Tryz.prog glM 153 [.v (.int .u64 a), .v (.int .u64 b)] (.v (.bool (sP.bf a b))) := by
  rw [sP_bf]; exact before_pure a b
noncomputable def eBf : Entry := ⟨153, 4, fun l => match l with | [.v (.int .u64 a), .v (.int .u64 b)] => some (none, .v (.bool (sP.bf a b)), []) | _ => none⟩
theorem eBf_ok : eBf.ok Tryz.prog glM := ⟨Am.enters_of Tryz.func153 (by kernel_rfl) (by kernel_rfl), by
  intro args c t bs h hc
  simp only [eBf] at h
  split at h <;> cases h
  exact pbefore_pure _ _⟩
noncomputable def ctxPMx (P : Program) : Ctx := ctx P glM [eMix] [] (noEq P) [] (fun _ h => by cases h)
theorem ctxPMx_good : (ctxPMx Tryz.prog).good := ctx_good (by kernel_rfl) (AllOk.mem ⟨eMix_ok, trivial⟩) glM_two
set_option maxRecDepth 100000 in
theorem slot_pure (k : Int) (n : Nat) (h1 : 0 < n) (h2 : n ≤ 4096) : Pure Tryz.prog glM 173 [.v (.int .u64 k), .v (.int .i64 n)] (.v (.int .i64 ((sP.hm n k : Nat) : Int))) := by
  rw [sP_hm n k h1]
  obtain ⟨u1, u2⟩ := iMix_u k
  have e1 : IntKind.u64.wrap (n : Int) = n := wrapU (by omega) (by omega)
  have m1 := Int.emod_nonneg (iMix k) (b := (n : Int)) (by omega)
  have m2 := Int.emod_lt_of_pos (iMix k) (b := (n : Int)) (by omega)
  have e2 : IntKind.i64.wrap ((iMix k).tmod n) = iMix k % n := by rw [Int.tmod_eq_emod_of_nonneg u1]; exact wrap64 (by omega) (by omega)
  refine pure_of (C := ctxPMx Tryz.prog) ctxPMx_good Tryz.func173 (c := bodyOf Tryz.f173) (by rfl) (Nat.le_of_ble_eq_true (by rfl)) 4 0 [0, 1, 4, 6] ?_
  conv => whnf
  refine ifB_f (decide_eq_false (by omega)) ?_
  conv => whnf
  rw [e1]
  repeat (refine And.intro (by omega) ?_; conv => whnf)
  rw [e2]
  repeat' (first | exact trivial | exact rfl | (refine And.intro ?_ ?_) | ((conv => whnf); done) | ((conv => whnf); (first | rfl | (refine congrArg (fun b => T.v (Value.bool b)) ?_; first | rfl | exact (decide_eq_true (by omega)).symm | exact (decide_eq_false (by omega)).symm | exact decide_eq_decide.2 (by omega)) | (refine congrArg (fun b => T.v (Value.int _ b)) ?_; first | rfl | omega) | omega)) | (first | rfl | (refine congrArg (fun b => T.v (Value.bool b)) ?_; first | rfl | exact (decide_eq_true (by omega)).symm | exact (decide_eq_false (by omega)).symm | exact decide_eq_decide.2 (by omega)) | (refine congrArg (fun b => T.v (Value.int _ b)) ?_; first | rfl | omega) | omega))
noncomputable def eSlot : Entry := ⟨173, 3, fun l => match l with | [.v (.int .u64 k), .v (.int .i64 n)] => some (some (0 < n ∧ n ≤ 4096), .v (.int .i64 ((sP.hm n.toNat k : Nat) : Int)), []) | _ => none⟩
theorem eSlot_ok : eSlot.ok Tryz.prog glM := ⟨Am.enters_of Tryz.func173 (by kernel_rfl) (by kernel_rfl), by
  intro args c t bs h hc
  simp only [eSlot] at h
  split at h <;> cases h
  replace hc := hc _ rfl
  exact (by obtain ⟨m, rfl⟩ := Int.eq_ofNat_of_zero_le (Int.le_of_lt hc.1); exact slot_pure _ m (by omega) (by omega))⟩
/-! ### numbers picked, slices copied and held against each other -/

def ipick (c n : Int) : Int := (if c < 0 then -(c + 1) else c) % n
theorem ipick_bounds (c : Int) {n : Int} (hn : 0 < n) : 0 ≤ ipick c n ∧ ipick c n < n := ⟨Int.emod_nonneg _ (by omega), Int.emod_lt_of_pos _ hn⟩
theorem ipick_val (c n : Int) (hc : I64 c) : (if c < 0 then IntKind.i64.wrap (0 - IntKind.i64.wrap (c + 1)) else c).tmod n = ipick c n := by
  obtain ⟨c1, c2⟩ := hc
  have e : (if c < 0 then IntKind.i64.wrap (0 - IntKind.i64.wrap (c + 1)) else c) = if c < 0 then -(c + 1) else c := by
    split
    · rw [wrap64 (a := c + 1) (by omega) (by omega), wrap64 (by omega) (by omega)]; omega
    · rfl
  rw [e]; unfold ipick
  exact Int.tmod_eq_emod_of_nonneg (by split <;> omega)
set_option maxRecDepth 100000 in
theorem clone_pure (n : Nat) (xs : List Int) (hn : n ≤ 1000000) : Pure Tryz.prog glR 84 [.fl [.u64] n xs] (.ow 0 1 n) [(0, .fl [.u64] xs)] := by
  refine pure_wf fun hw => ?_
  obtain ⟨⟨w1, w2⟩, -⟩ := hw
  refine pure_of (C := ctx0 Tryz.prog) ctx0_good Tryz.func84 (c := bodyOf Tryz.f84) (by rfl) (Nat.le_of_ble_eq_true (by rfl)) 4 0 [0, 2, 4] ?_
  conv => whnf
  intro b hb
  cases b
  · conv => whnf
    repeat' (first | (refine ifB_t (by assumption) ?_; conv => whnf) | (refine ifB_f (by assumption) ?_; conv => whnf) | (refine ifB_dec (fun h => ?_) (fun h => ?_) <;> (first | (exfalso; omega) | (conv => whnf))) | (refine ifB_eq (fun h => ?_) (fun h => ?_) <;> (first | (exfalso; omega) | (conv => whnf))) | (refine ifB_ne (fun h => ?_) (fun h => ?_) <;> (first | (exfalso; omega) | (conv => whnf))) | (refine ifB_not ?_; conv => whnf) | (refine ifB_and ?_; conv => whnf) | (refine ifB_or ?_; conv => whnf) | (refine And.intro ?_ ?_; (first | omega | assumption | (exact allU_getD (by assumption) _) | (simp only [cutL]; omega) | (refine And.intro ?_ ?_ <;> first | assumption | exact allU_getD (by assumption) _) | (simp only [cutL, IntKind.wrap_u64, IntKind.wrap_i64] at *; omega) | decide); conv => whnf))
    repeat' (first | exact trivial | exact rfl | (refine And.intro ?_ ?_) | ((conv => whnf); done) | ((conv => whnf); (first | rfl | (refine congrArg (fun b => T.v (Value.bool b)) ?_; first | rfl | exact (decide_eq_true (by omega)).symm | exact (decide_eq_false (by omega)).symm | exact decide_eq_decide.2 (by omega)) | (refine congrArg (fun b => T.v (Value.int _ b)) ?_; first | rfl | omega) | omega)) | (first | rfl | (refine congrArg (fun b => T.v (Value.bool b)) ?_; first | rfl | exact (decide_eq_true (by omega)).symm | exact (decide_eq_false (by omega)).symm | exact decide_eq_decide.2 (by omega)) | (refine congrArg (fun b => T.v (Value.int _ b)) ?_; first | rfl | omega) | omega))
  · have := hb rfl
    subst this
    obtain rfl : xs = [] := List.eq_nil_of_length_eq_zero (by simpa using w1)
    conv => whnf
    repeat' (first | exact trivial | exact rfl | (refine And.intro ?_ ?_) | ((conv => whnf); done) | ((conv => whnf); (first | rfl | (refine congrArg (fun b => T.v (Value.bool b)) ?_; first | rfl | exact (decide_eq_true (by omega)).symm | exact (decide_eq_false (by omega)).symm | exact decide_eq_decide.2 (by omega)) | (refine congrArg (fun b => T.v (Value.int _ b)) ?_; first | rfl | omega) | omega)) | (first | rfl | (refine congrArg (fun b => T.v (Value.bool b)) ?_; first | rfl | exact (decide_eq_true (by omega)).symm | exact (decide_eq_false (by omega)).symm | exact decide_eq_decide.2 (by omega)) | (refine congrArg (fun b => T.v (Value.int _ b)) ?_; first | rfl | omega) | omega))
set_option maxRecDepth 100000 in
theorem equal_pure (n m : Nat) (xs ys : List Int) : Pure Tryz.prog glR 146 [.fl [.u64] n xs, .fl [.u64] m ys] (.v (.bool (decide (xs = ys)))) := by
  refine pure_wf fun hw => ?_
  obtain ⟨⟨w1, w2⟩, ⟨w3, w4⟩, -⟩ := hw
  simp only [List.length_cons, List.length_nil, Nat.zero_add, Nat.mul_one] at w1 w3
  refine pure_of (C := ctx0 Tryz.prog) ctx0_good Tryz.func146 (c := bodyOf Tryz.f146) (by rfl) (Nat.le_of_ble_eq_true (by rfl)) 4 0 [0, 1, 4, 5, 10, 12, 13, 14, 24] ?_
  conv => whnf
  repeat' (first | (refine ifB_t (by assumption) ?_; conv => whnf) | (refine ifB_f (by assumption) ?_; conv => whnf) | (refine ifB_dec (fun h => ?_) (fun h => ?_) <;> (first | (exfalso; omega) | (conv => whnf))) | (refine ifB_eq (fun h => ?_) (fun h => ?_) <;> (first | (exfalso; omega) | (conv => whnf))) | (refine ifB_ne (fun h => ?_) (fun h => ?_) <;> (first | (exfalso; omega) | (conv => whnf))) | (refine ifB_not ?_; conv => whnf) | (refine ifB_and ?_; conv => whnf) | (refine ifB_or ?_; conv => whnf) | (refine And.intro ?_ ?_; (first | omega | assumption | (exact allU_getD (by assumption) _) | (simp only [cutL]; omega) | (refine And.intro ?_ ?_ <;> first | assumption | exact allU_getD (by assumption) _) | (simp only [cutL, IntKind.wrap_u64, IntKind.wrap_i64] at *; omega) | decide); conv => whnf))
  · exact congrArg (fun b => T.v (Value.bool b)) (decide_eq_false (fun e => by subst e; omega)).symm
  · refine TW.loopD ctx0_good 0 (base := 0) (lv := [0, 1, 4, 5, 10, 12, 13, 14, 24]) [13] [] [] (fun j : Nat => [.v (.int .i64 j)]) (fun _ => []) (fun j => j ≤ n ∧ xs.take j = ys.take j) (fun j => n - j) ?_
    conv => whnf
    refine ⟨⟨0, ⟨rfl, rfl, rfl⟩, by omega, rfl⟩, fun j ⟨hj, ht⟩ => ?_⟩
    conv => whnf
    repeat' (first | (refine ifB_t (by assumption) ?_; conv => whnf) | (refine ifB_f (by assumption) ?_; conv => whnf) | (refine ifB_dec (fun h => ?_) (fun h => ?_) <;> (first | (exfalso; omega) | (conv => whnf))) | (refine ifB_eq (fun h => ?_) (fun h => ?_) <;> (first | (exfalso; omega) | (conv => whnf))) | (refine ifB_ne (fun h => ?_) (fun h => ?_) <;> (first | (exfalso; omega) | (conv => whnf))) | (refine ifB_not ?_; conv => whnf) | (refine ifB_and ?_; conv => whnf) | (refine ifB_or ?_; conv => whnf) | (refine And.intro ?_ ?_; (first | omega | assumption | (exact allU_getD (by assumption) _) | (simp only [cutL]; omega) | (refine And.intro ?_ ?_ <;> first | assumption | exact allU_getD (by assumption) _) | (simp only [cutL, IntKind.wrap_u64, IntKind.wrap_i64] at *; omega) | decide); conv => whnf))
    · simp only [Nat.zero_add, Nat.mul_one, Int.toNat_natCast] at h
      exact congrArg (fun b => T.v (Value.bool b)) (decide_eq_false (fun e => by subst e; exact h rfl)).symm
    · simp only [Nat.zero_add, Nat.mul_one, Int.toNat_natCast] at h
      rw [wsucc (n := n) (by omega) w2]
      exact ⟨j + 1, [], ⟨rfl, rfl, rfl⟩, ⟨by omega, take_same (by omega) (by omega) ht h⟩, by (try dsimp only); omega⟩
    · have e : j = n := by omega
      rw [e, List.take_of_length_le (by omega), List.take_of_length_le (by omega)] at ht
      exact congrArg (fun b => T.v (Value.bool b)) (decide_eq_true ht).symm
noncomputable def eClone : Entry := ⟨84, 3, fun l => match l with | [.fl [.u64] n xs] => some (some (n ≤ 1000000), .ow 0 1 n, [(0, .fl [.u64] xs)]) | _ => none⟩
theorem eClone_ok : eClone.ok Tryz.prog glR := ⟨Am.enters_of Tryz.func84 (by kernel_rfl) (by kernel_rfl), by
  intro args c t bs h hc
  simp only [eClone] at h
  split at h <;> cases h
  replace hc := hc _ rfl
  exact clone_pure _ _ hc⟩
noncomputable def eEqual : Entry := ⟨146, 3, fun l => match l with | [.fl [.u64] n xs, .fl [.u64] m ys] => some (none, .v (.bool (decide (xs = ys))), []) | _ => none⟩
theorem eEqual_ok : eEqual.ok Tryz.prog glR := ⟨Am.enters_of Tryz.func146 (by kernel_rfl) (by kernel_rfl), by
  intro args c t bs h hc
  simp only [eEqual] at h
  split at h <;> cases h
  exact equal_pure _ _ _ _⟩
end Go.Proofs.YtnplgklnkcjmnaaGreatDoor.PrT
namespace Go.Proofs.YtnplgklnkcjmnaaGreatDoor.PrT
open Go.RowKit Go.Proofs.YtnplgklnkcjmnaaGreatDoor.Am Go.Proofs.YtnplgklnkcjmnaaGreatDoor
set_option linter.unusedVariables false
set_option linter.unusedSimpArgs false

/-- What a slot holds. -/
def ga (w : Nat) (ws : List Int) (i : Nat) : Int := ws.getD (i * w) 0
def gb (w : Nat) (ws : List Int) (i : Nat) : Int := if w = 1 then 0 else ws.getD (i * w + 1) 0
theorem drop_one {ws : List Int} {i : Nat} (h : i < ws.length) : ws.drop i = ws.getD i 0 :: ws.drop (i + 1) := by
  rw [List.drop_eq_getElem_cons h, List.getD_eq_getElem?_getD, List.getElem?_eq_getElem h]; rfl
theorem get1_row {m i : Nat} {ws : List Int} (hi : i < m) (hl : ws.length = m) : spl [0, 0] (mulN (loN none) (0 + 1)) (List.take (mulN (minN (cutL (cutL m (some (i : Int)) none) none (some 1)) (cutL 2 none none)) (0 + 1)) (cutN (0 + 1) none (some 1) (cutN (0 + 1) (some (i : Int)) none ws))) = [ga 1 ws i, gb 1 ws i] := by
  show spl [0, 0] 0 (((ws.drop i).take 1).take 1) = _
  rw [drop_one (by omega), show ga 1 ws i = ws.getD i 0 by unfold ga; rw [Nat.mul_one]]; rfl
theorem get2_row {m i : Nat} {ws : List Int} (hi : i < m) (hl : ws.length = m * 2) : spl [0, 0] (mulN (loN none) (0 + 1)) (List.take (mulN (minN (cutL (cutL (m * 2) (some ((i * 2 : Nat) : Int)) none) none (some 2)) (cutL 2 none none)) (0 + 1)) (cutN (0 + 1) none (some 2) (cutN (0 + 1) (some ((i * 2 : Nat) : Int)) none ws))) = [ga 2 ws i, gb 2 ws i] := by
  show spl [0, 0] 0 (((ws.drop (i * 2)).take 2).take 2) = _
  rw [drop_one (by omega), drop_one (by omega)]; rfl
set_option maxRecDepth 100000 in
theorem get1_pure (n i : Nat) (ws : List Int) (hi : i < n) (hn : n ≤ 4096) : Pure Tryz.prog glR 147 [.agg [.fl [.u64] n ws, .v (.int .i64 n), .v (.int .i64 1)], .v (.int .i64 i)] (.agg [.v (.int .u64 (ga 1 ws i)), .v (.int .u64 (gb 1 ws i))]) := by
  refine pure_wf fun hw => ?_
  obtain ⟨⟨⟨w1, w2⟩, -⟩, -⟩ := hw
  simp only [List.length_cons, List.length_nil, Nat.zero_add, Nat.mul_one] at w1
  refine pure_of (C := ctx0 Tryz.prog) ctx0_good Tryz.func147 (c := bodyOf Tryz.f147) (by rfl) (Nat.le_of_ble_eq_true (by rfl)) 4 0 [0, 1, 2, 4] ?_
  have e1 : IntKind.i64.wrap ((i : Int) * 1) = (i : Int) := by rw [Int.mul_one]; exact wrap64 (by omega) (by omega)
  conv => whnf
  rw [e1]
  repeat (refine And.intro (by first | omega | assumption | (exact allU_getD (by assumption) _) | (simp only [cutL]; omega) | (refine And.intro ?_ ?_ <;> first | assumption | exact allU_getD (by assumption) _) | (simp only [cutL, IntKind.wrap_u64, IntKind.wrap_i64] at *; omega) | decide) ?_; conv => whnf)
  rw [get1_row (by omega) w1]
  repeat' (first | exact trivial | exact rfl | (refine And.intro ?_ ?_) | ((conv => whnf); done) | ((conv => whnf); (first | rfl | (refine congrArg (fun b => T.v (Value.bool b)) ?_; first | rfl | exact (decide_eq_true (by omega)).symm | exact (decide_eq_false (by omega)).symm | exact decide_eq_decide.2 (by omega)) | (refine congrArg (fun b => T.v (Value.int _ b)) ?_; first | rfl | omega) | omega)) | (first | rfl | (refine congrArg (fun b => T.v (Value.bool b)) ?_; first | rfl | exact (decide_eq_true (by omega)).symm | exact (decide_eq_false (by omega)).symm | exact decide_eq_decide.2 (by omega)) | (refine congrArg (fun b => T.v (Value.int _ b)) ?_; first | rfl | omega) | omega))
set_option maxRecDepth 100000 in
theorem get2_pure (n i : Nat) (ws : List Int) (hi : i < n) (hn : n ≤ 4096) : Pure Tryz.prog glR 147 [.agg [.fl [.u64] (n * 2) ws, .v (.int .i64 n), .v (.int .i64 2)], .v (.int .i64 i)] (.agg [.v (.int .u64 (ga 2 ws i)), .v (.int .u64 (gb 2 ws i))]) := by
  refine pure_wf fun hw => ?_
  obtain ⟨⟨⟨w1, w2⟩, -⟩, -⟩ := hw
  simp only [List.length_cons, List.length_nil, Nat.zero_add, Nat.mul_one] at w1
  refine pure_of (C := ctx0 Tryz.prog) ctx0_good Tryz.func147 (c := bodyOf Tryz.f147) (by rfl) (Nat.le_of_ble_eq_true (by rfl)) 4 0 [0, 1, 2, 4] ?_
  have e1 : IntKind.i64.wrap ((i : Int) * 2) = ((i * 2 : Nat) : Int) := by rw [wrap64 (by omega) (by omega)]; omega
  conv => whnf
  rw [e1]
  repeat (refine And.intro (by first | omega | assumption | (exact allU_getD (by assumption) _) | (simp only [cutL]; omega) | (refine And.intro ?_ ?_ <;> first | assumption | exact allU_getD (by assumption) _) | (simp only [cutL, IntKind.wrap_u64, IntKind.wrap_i64] at *; omega) | decide) ?_; conv => whnf)
  rw [get2_row (by omega) w1]
  repeat' (first | exact trivial | exact rfl | (refine And.intro ?_ ?_) | ((conv => whnf); done) | ((conv => whnf); (first | rfl | (refine congrArg (fun b => T.v (Value.bool b)) ?_; first | rfl | exact (decide_eq_true (by omega)).symm | exact (decide_eq_false (by omega)).symm | exact decide_eq_decide.2 (by omega)) | (refine congrArg (fun b => T.v (Value.int _ b)) ?_; first | rfl | omega) | omega)) | (first | rfl | (refine congrArg (fun b => T.v (Value.bool b)) ?_; first | rfl | exact (decide_eq_true (by omega)).symm | exact (decide_eq_false (by omega)).symm | exact decide_eq_decide.2 (by omega)) | (refine congrArg (fun b => T.v (Value.int _ b)) ?_; first | rfl | omega) | omega))
theorem get_pure (n i w m : Nat) (ws : List Int) (hw : w = 1 ∨ w = 2) (hi : i < n) (hn : n ≤ 4096) (hm : m = n * w) : Pure Tryz.prog glR 147 [.agg [.fl [.u64] m ws, .v (.int .i64 n), .v (.int .i64 w)], .v (.int .i64 i)] (.agg [.v (.int .u64 (ga w ws i)), .v (.int .u64 (gb w ws i))]) := by
  rcases hw with rfl | rfl
  · rw [Nat.mul_one] at hm; subst hm; exact get1_pure m i ws hi hn
  · subst hm; exact get2_pure n i ws hi hn
noncomputable def eGet : Entry := ⟨147, 4, fun l => match l with | [.agg [.fl [.u64] m ws, .v (.int .i64 n), .v (.int .i64 w)], .v (.int .i64 i)] => some (some ((w = 1 ∨ w = 2) ∧ (0 ≤ i ∧ i < n) ∧ n ≤ 4096 ∧ (m : Int) = n * w), .agg [.v (.int .u64 (ga w.toNat ws i.toNat)), .v (.int .u64 (gb w.toNat ws i.toNat))], []) | _ => none⟩
theorem eGet_ok : eGet.ok Tryz.prog glR := ⟨Am.enters_of Tryz.func147 (by kernel_rfl) (by kernel_rfl), by
  intro args c t bs h hc
  simp only [eGet] at h
  split at h <;> cases h
  replace hc := hc _ rfl
  exact (by obtain ⟨h1, ⟨h2, h3⟩, h4, h5⟩ := hc; have h6 := Int.le_of_lt (Int.lt_of_le_of_lt h2 h3); obtain ⟨i, rfl⟩ := Int.eq_ofNat_of_zero_le h2; obtain ⟨n, rfl⟩ := Int.eq_ofNat_of_zero_le h6; rcases h1 with rfl | rfl; exact get_pure n i 1 _ _ (by omega) (by omega) (by omega) (by omega); exact get_pure n i 2 _ _ (by omega) (by omega) (by omega) (by omega))⟩
set_option maxRecDepth 100000 in
theorem next_pure (m : Nat) (ws : List Int) (n w i : Nat) (hi : i < n) (hn : n ≤ 4096) : Pure Tryz.prog glR 154 [.agg [.fl [.u64] m ws, .v (.int .i64 n), .v (.int .i64 w)], .v (.int .i64 i)] (.v (.int .i64 (nxt n i))) := by
  have e1 : IntKind.i64.wrap ((i : Int) + 1) = ((i + 1 : Nat) : Int) := by rw [wrap64 (by omega) (by omega)]; omega
  have e2 : ((i + 1 : Nat) : Int).tmod n = ((nxt n i : Nat) : Int) := by
    rw [Int.tmod_eq_emod_of_nonneg (by omega), ← Int.natCast_emod]
    have : (i + 1) % n = nxt n i := by
      unfold nxt; split
      · rename_i h; rw [h]; exact Nat.mod_self n
      · exact Nat.mod_eq_of_lt (by omega)
    rw [this]
  refine pure_of (C := ctx0 Tryz.prog) ctx0_good Tryz.func154 (c := bodyOf Tryz.f154) (by rfl) (Nat.le_of_ble_eq_true (by rfl)) 4 0 [0, 1, 2, 4] ?_
  conv => whnf
  rw [e1]
  repeat (refine And.intro (by first | omega | assumption | (exact allU_getD (by assumption) _) | (simp only [cutL]; omega) | (refine And.intro ?_ ?_ <;> first | assumption | exact allU_getD (by assumption) _) | (simp only [cutL, IntKind.wrap_u64, IntKind.wrap_i64] at *; omega) | decide) ?_; conv => whnf)
  rw [e2]
  repeat' (first | exact trivial | exact rfl | (refine And.intro ?_ ?_) | ((conv => whnf); done) | ((conv => whnf); (first | rfl | (refine congrArg (fun b => T.v (Value.bool b)) ?_; first | rfl | exact (decide_eq_true (by omega)).symm | exact (decide_eq_false (by omega)).symm | exact decide_eq_decide.2 (by omega)) | (refine congrArg (fun b => T.v (Value.int _ b)) ?_; first | rfl | omega) | omega)) | (first | rfl | (refine congrArg (fun b => T.v (Value.bool b)) ?_; first | rfl | exact (decide_eq_true (by omega)).symm | exact (decide_eq_false (by omega)).symm | exact decide_eq_decide.2 (by omega)) | (refine congrArg (fun b => T.v (Value.int _ b)) ?_; first | rfl | omega) | omega))
noncomputable def eNext : Entry := ⟨154, 4, fun l => match l with | [.agg [.fl [.u64] m ws, .v (.int .i64 n), .v (.int .i64 w)], .v (.int .i64 i)] => some (some ((0 ≤ i ∧ i < n) ∧ n ≤ 4096 ∧ 0 ≤ w), .v (.int .i64 (nxt n.toNat i.toNat)), []) | _ => none⟩
theorem eNext_ok : eNext.ok Tryz.prog glR := ⟨Am.enters_of Tryz.func154 (by kernel_rfl) (by kernel_rfl), by
  intro args c t bs h hc
  simp only [eNext] at h
  split at h <;> cases h
  replace hc := hc _ rfl
  exact (by obtain ⟨⟨h2, h3⟩, h4, h5⟩ := hc; have h6 := Int.le_of_lt (Int.lt_of_le_of_lt h2 h3); obtain ⟨i, rfl⟩ := Int.eq_ofNat_of_zero_le h2; obtain ⟨n, rfl⟩ := Int.eq_ofNat_of_zero_le h6; obtain ⟨w, rfl⟩ := Int.eq_ofNat_of_zero_le h5; exact next_pure _ _ n w i (by omega) (by omega))⟩
set_option maxRecDepth 100000 in
theorem far_pure (m : Nat) (ws : List Int) (n w a b : Nat) (ha : a < n) (hb : b < n) (hn : n ≤ 4096) : Pure Tryz.prog glR 155 [.agg [.fl [.u64] m ws, .v (.int .i64 n), .v (.int .i64 w)], .v (.int .i64 a), .v (.int .i64 b)] (.v (.int .i64 (dist n a b))) := by
  have e1 : IntKind.i64.wrap ((b : Int) - a) = (b : Int) - a := wrap64 (by omega) (by omega)
  have e3 : IntKind.i64.wrap ((b : Int) - a + n) = ((b + n - a : Nat) : Int) := by rw [wrap64 (by omega) (by omega)]; omega
  have e2 : ((b + n - a : Nat) : Int).tmod n = ((dist n a b : Nat) : Int) := by
    rw [Int.tmod_eq_emod_of_nonneg (by omega), ← Int.natCast_emod]
    have : (b + n - a) % n = dist n a b := by
      unfold dist; split
      · rw [show b + n - a = (b - a) + n by omega, Nat.add_mod_right, Nat.mod_eq_of_lt (by omega)]
      · exact Nat.mod_eq_of_lt (by omega)
    rw [this]
  refine pure_of (C := ctx0 Tryz.prog) ctx0_good Tryz.func155 (c := bodyOf Tryz.f155) (by rfl) (Nat.le_of_ble_eq_true (by rfl)) 4 0 [0, 1, 2, 3, 6] ?_
  conv => whnf
  rw [e1, e3]
  repeat (refine And.intro (by first | omega | assumption | (exact allU_getD (by assumption) _) | (simp only [cutL]; omega) | (refine And.intro ?_ ?_ <;> first | assumption | exact allU_getD (by assumption) _) | (simp only [cutL, IntKind.wrap_u64, IntKind.wrap_i64] at *; omega) | decide) ?_; conv => whnf)
  rw [e2]
  repeat' (first | exact trivial | exact rfl | (refine And.intro ?_ ?_) | ((conv => whnf); done) | ((conv => whnf); (first | rfl | (refine congrArg (fun b => T.v (Value.bool b)) ?_; first | rfl | exact (decide_eq_true (by omega)).symm | exact (decide_eq_false (by omega)).symm | exact decide_eq_decide.2 (by omega)) | (refine congrArg (fun b => T.v (Value.int _ b)) ?_; first | rfl | omega) | omega)) | (first | rfl | (refine congrArg (fun b => T.v (Value.bool b)) ?_; first | rfl | exact (decide_eq_true (by omega)).symm | exact (decide_eq_false (by omega)).symm | exact decide_eq_decide.2 (by omega)) | (refine congrArg (fun b => T.v (Value.int _ b)) ?_; first | rfl | omega) | omega))
noncomputable def eFar : Entry := ⟨155, 4, fun l => match l with | [.agg [.fl [.u64] m ws, .v (.int .i64 n), .v (.int .i64 w)], .v (.int .i64 a), .v (.int .i64 b)] => some (some ((0 ≤ a ∧ a < n) ∧ (0 ≤ b ∧ b < n) ∧ n ≤ 4096 ∧ 0 ≤ w), .v (.int .i64 (dist n.toNat a.toNat b.toNat)), []) | _ => none⟩
theorem eFar_ok : eFar.ok Tryz.prog glR := ⟨Am.enters_of Tryz.func155 (by kernel_rfl) (by kernel_rfl), by
  intro args c t bs h hc
  simp only [eFar] at h
  split at h <;> cases h
  replace hc := hc _ rfl
  exact (by obtain ⟨⟨h2, h3⟩, ⟨g2, g3⟩, h4, h5⟩ := hc; have h6 := Int.le_of_lt (Int.lt_of_le_of_lt h2 h3); obtain ⟨i, rfl⟩ := Int.eq_ofNat_of_zero_le h2; obtain ⟨j, rfl⟩ := Int.eq_ofNat_of_zero_le g2; obtain ⟨n, rfl⟩ := Int.eq_ofNat_of_zero_le h6; obtain ⟨w, rfl⟩ := Int.eq_ofNat_of_zero_le h5; exact far_pure _ _ n w i j (by omega) (by omega) (by omega))⟩

noncomputable def ctxPrH (P : Program) : Ctx := ctx P glM [eSlot] [] (noEq P) [] (fun _ h => by cases h)
theorem ctxPrH_good : (ctxPrH Tryz.prog).good := ctx_good (by kernel_rfl) (AllOk.mem ⟨eSlot_ok, trivial⟩) glM_two
set_option maxRecDepth 100000 in
theorem home_pure (m : Nat) (ws : List Int) (n w : Nat) (k : Int) (hn0 : 0 < n) (hn : n ≤ 4096) : Pure Tryz.prog glM 152 [.agg [.fl [.u64] m ws, .v (.int .i64 n), .v (.int .i64 w)], .v (.int .u64 k)] (.v (.int .i64 ((sP.hm n k : Nat) : Int))) := by
  refine pure_of (C := ctxPrH Tryz.prog) ctxPrH_good Tryz.func152 (c := bodyOf Tryz.f152) (by rfl) (Nat.le_of_ble_eq_true (by rfl)) 4 0 [0, 1, 2, 4] ?_
  conv => whnf
  repeat (refine And.intro (by first | omega | assumption | (exact allU_getD (by assumption) _) | (simp only [cutL]; omega) | (refine And.intro ?_ ?_ <;> first | assumption | exact allU_getD (by assumption) _) | (simp only [cutL, IntKind.wrap_u64, IntKind.wrap_i64] at *; omega) | decide) ?_; conv => whnf)
  rw [Int.toNat_natCast]
  repeat' (first | exact trivial | exact rfl | (refine And.intro ?_ ?_) | ((conv => whnf); done) | ((conv => whnf); (first | rfl | (refine congrArg (fun b => T.v (Value.bool b)) ?_; first | rfl | exact (decide_eq_true (by omega)).symm | exact (decide_eq_false (by omega)).symm | exact decide_eq_decide.2 (by omega)) | (refine congrArg (fun b => T.v (Value.int _ b)) ?_; first | rfl | omega) | omega)) | (first | rfl | (refine congrArg (fun b => T.v (Value.bool b)) ?_; first | rfl | exact (decide_eq_true (by omega)).symm | exact (decide_eq_false (by omega)).symm | exact decide_eq_decide.2 (by omega)) | (refine congrArg (fun b => T.v (Value.int _ b)) ?_; first | rfl | omega) | omega))
noncomputable def eHome : Entry := ⟨152, 4, fun l => match l with | [.agg [.fl [.u64] m ws, .v (.int .i64 n), .v (.int .i64 w)], .v (.int .u64 k)] => some (some (0 < n ∧ n ≤ 4096 ∧ 0 ≤ w), .v (.int .i64 ((sP.hm n.toNat k : Nat) : Int)), []) | _ => none⟩
theorem eHome_ok : eHome.ok Tryz.prog glM := ⟨Am.enters_of Tryz.func152 (by kernel_rfl) (by kernel_rfl), by
  intro args c t bs h hc
  simp only [eHome] at h
  split at h <;> cases h
  replace hc := hc _ rfl
  exact (by obtain ⟨h2, h3, h5⟩ := hc; obtain ⟨n, rfl⟩ := Int.eq_ofNat_of_zero_le (Int.le_of_lt h2); obtain ⟨w, rfl⟩ := Int.eq_ofNat_of_zero_le h5; exact home_pure _ _ n w _ (by omega) (by omega))⟩
end Go.Proofs.YtnplgklnkcjmnaaGreatDoor.PrT
namespace Go.Proofs.YtnplgklnkcjmnaaGreatDoor.PrT
open Go.RowKit Go.Proofs.YtnplgklnkcjmnaaGreatDoor.Am Go.Proofs.YtnplgklnkcjmnaaGreatDoor
set_option linter.unusedVariables false
set_option linter.unusedSimpArgs false

/-! ### a map of keys -/
theorem mputL_keys (es : List (Int × Int)) (k v x : Int) : x ∈ (mputL es k v).map (·.1) ↔ x = k ∨ x ∈ es.map (·.1) := by
  induction es with
  | nil => simp [mputL]
  | cons p es ih =>
    obtain ⟨a, b⟩ := p
    simp only [mputL]
    split
    · rename_i e; subst e; simp
    · simp only [List.map_cons, List.mem_cons, ih]
      constructor
      · rintro (h | h | h)
        · exact .inr (.inl h)
        · exact .inl h
        · exact .inr (.inr h)
      · rintro (h | h | h)
        · exact .inr (.inl h)
        · exact .inl h
        · exact .inr (.inr h)
theorem mputL_len (es : List (Int × Int)) (k v : Int) : (mputL es k v).length = if k ∈ es.map (·.1) then es.length else es.length + 1 := by
  induction es with
  | nil => simp [mputL]
  | cons p es ih =>
    obtain ⟨a, b⟩ := p
    simp only [mputL]
    split
    · rename_i e; subst e; simp
    · rename_i e
      simp only [List.length_cons, ih, List.map_cons, List.mem_cons]
      by_cases h : k ∈ es.map (·.1)
      · rw [if_pos h, if_pos (.inr h)]
      · rw [if_neg h, if_neg (fun q => q.elim e h)]
def mapF (l : List R) : List (Int × Int) := l.foldl (fun es r => mputL es r.1 0) []
theorem mapF_snoc (l : List R) (r : R) : mapF (l ++ [r]) = mputL (mapF l) r.1 0 := by unfold mapF; rw [List.foldl_append]; rfl
theorem mapF_facts (l : List R) : (∀ x, x ∈ (mapF l).map (·.1) ↔ x ∈ l.map (·.1)) ∧ (mapF l).length ≤ l.length ∧ ((mapF l).length = l.length ↔ l.Pairwise fun a b => a.1 ≠ b.1) := by
  have key : ∀ (q : Nat) (l : List R), l.length = q → (∀ x, x ∈ (mapF l).map (·.1) ↔ x ∈ l.map (·.1)) ∧ (mapF l).length ≤ l.length ∧ ((mapF l).length = l.length ↔ l.Pairwise fun a b => a.1 ≠ b.1) := by
    intro q
    induction q with
    | zero =>
      intro l hl
      obtain rfl := List.eq_nil_of_length_eq_zero hl
      exact ⟨fun x => by simp [mapF], by simp [mapF], by simp [mapF]⟩
    | succ q ih =>
      intro l hl
      obtain ⟨l', r, rfl⟩ : ∃ l' r, l = l' ++ [r] := ⟨l.dropLast, l.getLast (by intro e; subst e; simp at hl), (List.dropLast_concat_getLast _).symm⟩
      obtain ⟨h1, h2, h3⟩ := ih l' (by simpa using hl)
      rw [mapF_snoc]
      refine ⟨fun x => ?_, ?_, ?_⟩
      · rw [mputL_keys, h1, List.map_append, List.mem_append]; simp [or_comm]
      · rw [mputL_len, List.length_append]; split <;> simp <;> omega
      · rw [mputL_len, List.length_append, List.pairwise_append]
        have hm : r.1 ∈ (mapF l').map (·.1) ↔ ∃ a ∈ l', a.1 = r.1 := by rw [h1, List.mem_map]
        constructor
        · intro h
          split at h
          · simp at h; omega
          · rename_i hn
            refine ⟨h3.1 (by simp at h; omega), by simp, fun a ha b hb => ?_⟩
            rw [List.mem_singleton] at hb; subst hb
            exact fun e => hn (hm.2 ⟨a, ha, e⟩)
        · rintro ⟨g1, _, g3⟩
          rw [if_neg (fun h => by obtain ⟨a, ha, e⟩ := hm.1 h; exact g3 a ha r (List.mem_singleton.2 rfl) e), h3.2 g1]; simp
  exact key _ l rfl
theorem mapF_lt {l : List R} : (mapF l).length < l.length ↔ ¬ l.Pairwise fun a b => a.1 ≠ b.1 := by
  obtain ⟨-, h2, h3⟩ := mapF_facts l
  rw [← h3]; omega
/-! ### slots are set -/
theorem set_row {w n i : Nat} (hw : w = 1 ∨ w = 2) {T : List R} (hT : T.length = n) (hi : i < n) (r : R) :
    spl (flat w T) (i * w) ([r.1, r.2].take (minN 2 w)) = flat w (T.set i r) := by
  rw [flat_set hw T (by omega)]
  unfold spl
  rcases hw with rfl | rfl <;> rfl
theorem ga_flat {w n i : Nat} (hw : w = 1 ∨ w = 2) {T : List R} (hT : T.length = n) (hi : i < n) : ga w (flat w T) i = (gR T i).1 := flat_key hw T (by omega)
theorem gb_flat {w n i : Nat} (hw : w = 1 ∨ w = 2) {T : List R} (hT : T.length = n) (hi : i < n) (hv : Nv w T) : gb w (flat w T) i = (gR T i).2 := by
  unfold gb
  rcases hw with rfl | rfl
  · rw [if_pos rfl]; exact (hv rfl _ (gR_mem (by omega))).symm
  · rw [if_neg (by decide)]; exact flat_val T (by omega)
theorem Nv.set {w : Nat} {T : List R} (h : Nv w T) {r : R} (hr : w = 1 → r.2 = 0) (i : Nat) : Nv w (T.set i r) := fun hw x hx => by
  rcases List.mem_or_eq_of_mem_set hx with h1 | rfl
  · exact h hw x h1
  · exact hr hw
theorem Nv.at {w : Nat} {T : List R} (h : Nv w T) {i : Nat} (hi : i < T.length) : w = 1 → (gR T i).2 = 0 := fun hw => h hw _ (gR_mem hi)
noncomputable def iSet : Inl := ⟨124, Tryz.f124, bodyOf Tryz.f124, [0, 1, 2, 3, 5]⟩
theorem iSet_ok : iSet.ok Tryz.prog := Inl.mk_ok Tryz.func124 (by rfl) (by kernel_rfl) (by kernel_rfl)
noncomputable def iPut : Inl := ⟨126, Tryz.f126, bodyOf Tryz.f126, [0, 1, 2, 3, 4, 5, 11, 12, 18, 27]⟩
theorem iPut_ok : iPut.ok Tryz.prog := Inl.mk_ok Tryz.func126 (by rfl) (by kernel_rfl) (by kernel_rfl)
noncomputable def iRound : Inl := ⟨151, Tryz.f151, bodyOf Tryz.f151, [0, 1, 2, 3, 4]⟩
theorem iRound_ok : iRound.ok Tryz.prog := Inl.mk_ok Tryz.func151 (by rfl) (by kernel_rfl) (by kernel_rfl)
noncomputable def iRound1 : Inl := ⟨172, Tryz.f172, bodyOf Tryz.f172, [0, 1, 2, 4, 6, 7, 8, 18]⟩
theorem iRound1_ok : iRound1.ok Tryz.prog := Inl.mk_ok Tryz.func172 (by rfl) (by kernel_rfl) (by kernel_rfl)
noncomputable def ctxBd_inl : List Inl := [iPut, iSet, iRound, iRound1]
theorem ctxBd_inlOk : InlOk Tryz.prog ctxBd_inl := ⟨iPut_ok, iSet_ok, iRound_ok, iRound1_ok, trivial⟩
noncomputable def ctxBd (P : Program) (h : InlOk P ctxBd_inl) : Ctx := ctx P glM [eGet, eHome, eBf] [] (noEq P) ctxBd_inl h.mem
theorem ctxBd_good : (ctxBd Tryz.prog ctxBd_inlOk).good := ctx_good (by kernel_rfl) (AllOk.mem ⟨entry_lift eGet_ok, eHome_ok, eBf_ok, trivial⟩) glM_two
theorem take_snocR {T : List R} {j : Nat} (h : j < T.length) : T.take (j + 1) = T.take j ++ [gR T j] := by
  unfold gR
  rw [List.take_add_one, List.getD_eq_getElem?_getD, List.getElem?_eq_getElem h]; rfl
theorem flat_zero {w : Nat} (hw : w = 1 ∨ w = 2) (n : Nat) : List.replicate (n * w) 0 = flat w (List.replicate n ((0 : Int), (0 : Int))) := by
  induction n with
  | zero => simp [flat]
  | succ n ih =>
    rw [List.replicate_succ, flat_cons, ← ih]
    rcases hw with rfl | rfl
    · rw [show (n + 1) * 1 = 1 + n * 1 by omega, ← List.replicate_append_replicate]; rfl
    · rw [show (n + 1) * 2 = 2 + n * 2 by omega, ← List.replicate_append_replicate]; rfl
theorem nv_zero (w n : Nat) : Nv w (List.replicate n ((0 : Int), (0 : Int))) := fun _ r hr => by rw [(List.mem_replicate.1 hr).2]
theorem tmod_at {n h c : Nat} (hh : h < n) (hc : c < n) : ((h + c : Nat) : Int).tmod n = ((atN n h c : Nat) : Int) := by
  rw [Int.tmod_eq_emod_of_nonneg (by omega), ← Int.natCast_emod]
  have : (h + c) % n = atN n h c := by
    unfold atN; split
    · exact Nat.mod_eq_of_lt (by omega)
    · rw [show h + c = (h + c - n) + n by omega, Nat.add_mod_right, Nat.mod_eq_of_lt (by omega)]; omega
  rw [this]
theorem setX1 {n i : Nat} {U : List R} (hU : U.length = n) (hi : i < n) (ra rb : Int) : spl (flat 1 U) (mulN (addN (addN 0 (loN (some ((i * 1 : Nat) : Int)))) (loN none)) (0 + 1)) (List.take (mulN (minN (cutL 2 none none) (cutL (cutL (n * 1) (some ((i * 1 : Nat) : Int)) none) none (some 1))) (0 + 1)) (List.take (mulN (cutL 2 none none) (0 + 1)) (List.drop (mulN (loN none) (0 + 1)) [ra, rb]))) = flat 1 (U.set i (ra, rb)) := by
  rw [← set_row (.inl rfl) hU hi (ra, rb), addN_eq, addN_eq, mulN_eq, show 0 + loN (some ((i * 1 : Nat) : Int)) + loN none = i * 1 from Nat.zero_add _]
  congr 1
  exact Nat.mul_one _
theorem setX2 {n i : Nat} {U : List R} (hU : U.length = n) (hi : i < n) (ra rb : Int) : spl (flat 2 U) (mulN (addN (addN 0 (loN (some ((i * 2 : Nat) : Int)))) (loN none)) (0 + 1)) (List.take (mulN (minN (cutL 2 none none) (cutL (cutL (n * 2) (some ((i * 2 : Nat) : Int)) none) none (some 2))) (0 + 1)) (List.take (mulN (cutL 2 none none) (0 + 1)) (List.drop (mulN (loN none) (0 + 1)) [ra, rb]))) = flat 2 (U.set i (ra, rb)) := by
  rw [← set_row (.inr rfl) hU hi (ra, rb), addN_eq, addN_eq, mulN_eq, show 0 + loN (some ((i * 2 : Nat) : Int)) + loN none = i * 2 from Nat.zero_add _]
  congr 1
  exact Nat.mul_one _
/-! ### what Build tells -/
def badR (w : Int) (r : R) : Bool := r.1 == 0 || (w == 1 && r.2 != 0)
open Classical in
noncomputable def bldE (n w : Int) (l : List R) : Int := if n < 1 ∨ 1024 < n ∨ (w ≠ 1 ∧ w ≠ 2) then 1 else if (∃ r ∈ l, badR w r = true) ∨ ¬ l.Pairwise (fun a b => a.1 ≠ b.1) then 1 else if n < l.length then 11 else 0
noncomputable def bldW (n w : Int) (l : List R) : List Int := if bldE n w l = 0 then flat w.toNat (laid sP n.toNat l) else []
set_option maxHeartbeats 2000000 in
set_option maxRecDepth 100000 in
theorem build1_pure (n : Nat) (m : Nat) (xs : List Int) (hn0 : 0 < n) (hn : n ≤ 1024) (hm : m ≤ 1100) (hu : ∀ r ∈ recs m 2 xs, sP.U r.1) : Pure Tryz.prog glM 145 [.v (.int .i64 n), .v (.int .i64 1), .fl [.u64, .u64] m xs] (.tup [.ow 0 1 (bldW n 1 (recs m 2 xs)).length, .v (.int .i64 (bldE n 1 (recs m 2 xs)))]) [(0, .fl [.u64] (bldW n 1 (recs m 2 xs)))] := by
  refine pure_wf fun hw => ?_
  obtain ⟨-, -, ⟨w1, w2⟩, -⟩ := hw
  simp only [List.length_cons, List.length_nil, Nat.zero_add, Nat.mul_one] at w1
  refine pure_of (C := ctxBd Tryz.prog ctxBd_inlOk) ctxBd_good Tryz.func145 (c := bodyOf Tryz.f145) (by rfl) (Nat.le_of_ble_eq_true (by rfl)) 4 4 [0, 1, 2, 6, 7, 8, 10, 11, 13, 27, 29, 30, 31, 32, 46, 52, 58, 70, 71, 72, 73] ?_
  conv => whnf
  repeat' (first | (refine ifB_t (by assumption) ?_; conv => whnf) | (refine ifB_f (by assumption) ?_; conv => whnf) | (refine ifB_dec (fun h => ?_) (fun h => ?_) <;> (first | (exfalso; omega) | (conv => whnf))) | (refine ifB_eq (fun h => ?_) (fun h => ?_) <;> (first | (exfalso; omega) | (conv => whnf))) | (refine ifB_ne (fun h => ?_) (fun h => ?_) <;> (first | (exfalso; omega) | (conv => whnf))) | (refine ifB_not ?_; conv => whnf) | (refine ifB_and ?_; conv => whnf) | (refine ifB_or ?_; conv => whnf) | (refine And.intro ?_ ?_; (first | omega | assumption | (exact allU_getD (by assumption) _) | (simp only [cutL]; omega) | (refine And.intro ?_ ?_ <;> first | assumption | exact allU_getD (by assumption) _) | (simp only [cutL, IntKind.wrap_u64, IntKind.wrap_i64] at *; omega) | decide); conv => whnf))
  generalize hL : recs m 2 xs = L at *
  have hLl : L.length = m := by rw [← hL]; exact recs_len _ _ _
  have hLg : ∀ j, j < m → gR L j = (xs.getD (j * 2) 0, xs.getD (j * 2 + 1) 0) := fun j hj => by rw [← hL, recs_get xs hj]; rfl
  refine TW.loopD ctxBd_good 0 (base := 0) (lv := [0, 1, 2, 6, 7, 8, 10, 11, 13, 27, 29, 30, 31, 32, 46, 52, 58, 70, 71, 72, 73]) [31] [112] [(112, 112)] (fun j : Nat => [.v (.int .i64 j)]) (fun j => [.mp .u64 .none (mapF (L.take j))]) (fun j => j ≤ m ∧ ∀ i, i < j → badR 1 (gR L i) = false) (fun j => m - j) ?_
  conv => whnf
  refine ⟨⟨0, ⟨rfl, rfl, rfl⟩, by omega, fun i h => by omega⟩, fun j ⟨hj, hg⟩ => ?_⟩
  conv => whnf
  refine ifB_dec (fun h => ?_) (fun h => ?_)
  · conv => whnf
    repeat (refine And.intro (by omega) ?_; conv => whnf)
    have E1 : 0 + (j : Int).toNat * (1 + 1) + 0 = j * 2 := by omega
    have E2 : 0 + (j : Int).toNat * (1 + 1) + (0 + 1) = j * 2 + 1 := by omega
    rw [E1, E2]
    have hLj := hLg j (by omega)
    have hLm : gR L j ∈ L := gR_mem (by omega)
    have hLs : L.take (j + 1) = L.take j ++ [gR L j] := take_snocR (by omega)
    generalize xs.getD (j * 2) 0 = a at *
    generalize xs.getD (j * 2 + 1) 0 = b at *
    have bad : badR 1 (gR L j) = true → bldE n 1 L = 1 ∧ bldW n 1 L = [] := fun hb => by
      have e : bldE n 1 L = 1 := by unfold bldE; rw [if_neg (by omega), if_pos (.inl ⟨_, hLm, hb⟩)]
      exact ⟨e, by unfold bldW; rw [e, if_neg (by decide)]⟩
    refine ifB_eq (x := a) (y := 0) (fun ha => ?_) (fun ha => ?_)
    · obtain ⟨e0, e1⟩ := bad (by rw [hLj]; simp [badR, ha])
      conv => whnf
      rw [e0, e1]
      repeat' (first | exact trivial | exact rfl | (refine And.intro ?_ ?_) | ((conv => whnf); done) | ((conv => whnf); (first | rfl | (refine congrArg (fun b => T.v (Value.bool b)) ?_; first | rfl | exact (decide_eq_true (by omega)).symm | exact (decide_eq_false (by omega)).symm | exact decide_eq_decide.2 (by omega)) | (refine congrArg (fun b => T.v (Value.int _ b)) ?_; first | rfl | omega) | omega)) | (first | rfl | (refine congrArg (fun b => T.v (Value.bool b)) ?_; first | rfl | exact (decide_eq_true (by omega)).symm | exact (decide_eq_false (by omega)).symm | exact decide_eq_decide.2 (by omega)) | (refine congrArg (fun b => T.v (Value.int _ b)) ?_; first | rfl | omega) | omega))
    · conv => whnf
      repeat (refine And.intro (by omega) ?_; conv => whnf)
      try refine ifB_ne (x := b) (y := 0) (fun hb => by
        obtain ⟨e0, e1⟩ := bad (by rw [hLj]; simp [badR, ha, hb])
        conv => whnf
        rw [e0, e1]
        repeat' (first | exact trivial | exact rfl | (refine And.intro ?_ ?_) | ((conv => whnf); done) | ((conv => whnf); (first | rfl | (refine congrArg (fun b => T.v (Value.bool b)) ?_; first | rfl | exact (decide_eq_true (by omega)).symm | exact (decide_eq_false (by omega)).symm | exact decide_eq_decide.2 (by omega)) | (refine congrArg (fun b => T.v (Value.int _ b)) ?_; first | rfl | omega) | omega)) | (first | rfl | (refine congrArg (fun b => T.v (Value.bool b)) ?_; first | rfl | exact (decide_eq_true (by omega)).symm | exact (decide_eq_false (by omega)).symm | exact decide_eq_decide.2 (by omega)) | (refine congrArg (fun b => T.v (Value.int _ b)) ?_; first | rfl | omega) | omega))) (fun hb => ?_)
      try conv => whnf
      repeat (refine And.intro (by omega) ?_; conv => whnf)
      rw [wsucc (j := j) (n := m) (by omega) w2]
      refine ⟨j + 1, [(112, 112)], ⟨rfl, rfl, ?_⟩, ⟨by omega, fun i hi => ?_⟩, by dsimp only; omega⟩
      · show _ = [(112, Blk.mp .u64 .none (mapF (L.take (j + 1))))]
        rw [hLs, mapF_snoc, hLj]
        rfl
      · by_cases e : i = j
        · subst e; rw [hLj]; simp [badR, *]
        · exact hg i (by omega)
  · conv => whnf
    obtain rfl : j = m := by omega
    have hgood : ¬ ∃ r ∈ L, badR 1 r = true := by
      rintro ⟨r, hr, hb⟩
      obtain ⟨i, hi, rfl⟩ := List.getElem_of_mem hr
      have := hg i (by omega)
      unfold gR at this
      rw [List.getD_eq_getElem?_getD, List.getElem?_eq_getElem hi] at this
      rw [show ((some L[i]).getD (0, 0)) = L[i] from rfl, hb] at this
      cases this
    rw [List.take_of_length_le (by omega : L.length ≤ j)]
    refine ifB_dec (fun hd => ?_) (fun hd => ?_)
    · have hnd := mapF_lt.1 (show (mapF L).length < L.length by omega)
      have e0 : bldE n 1 L = 1 := by unfold bldE; rw [if_neg (by omega), if_pos (.inr hnd)]
      have e1 : bldW n 1 L = [] := by unfold bldW; rw [e0, if_neg (by decide)]
      conv => whnf
      rw [e0, e1]
      repeat' (first | exact trivial | exact rfl | (refine And.intro ?_ ?_) | ((conv => whnf); done) | ((conv => whnf); (first | rfl | (refine congrArg (fun b => T.v (Value.bool b)) ?_; first | rfl | exact (decide_eq_true (by omega)).symm | exact (decide_eq_false (by omega)).symm | exact decide_eq_decide.2 (by omega)) | (refine congrArg (fun b => T.v (Value.int _ b)) ?_; first | rfl | omega) | omega)) | (first | rfl | (refine congrArg (fun b => T.v (Value.bool b)) ?_; first | rfl | exact (decide_eq_true (by omega)).symm | exact (decide_eq_false (by omega)).symm | exact decide_eq_decide.2 (by omega)) | (refine congrArg (fun b => T.v (Value.int _ b)) ?_; first | rfl | omega) | omega))
    · have hnd : L.Pairwise fun a b => a.1 ≠ b.1 := Classical.byContradiction fun q => by have := mapF_lt.2 q; omega
      conv => whnf
      refine ifB_dec (fun hf => ?_) (fun hf => ?_)
      · have e0 : bldE n 1 L = 11 := by unfold bldE; rw [if_neg (by omega), if_neg (fun q => q.elim hgood (fun q => q hnd)), if_pos (by omega)]
        have e1 : bldW n 1 L = [] := by unfold bldW; rw [e0, if_neg (by decide)]
        conv => whnf
        rw [e0, e1]
        repeat' (first | exact trivial | exact rfl | (refine And.intro ?_ ?_) | ((conv => whnf); done) | ((conv => whnf); (first | rfl | (refine congrArg (fun b => T.v (Value.bool b)) ?_; first | rfl | exact (decide_eq_true (by omega)).symm | exact (decide_eq_false (by omega)).symm | exact decide_eq_decide.2 (by omega)) | (refine congrArg (fun b => T.v (Value.int _ b)) ?_; first | rfl | omega) | omega)) | (first | rfl | (refine congrArg (fun b => T.v (Value.bool b)) ?_; first | rfl | exact (decide_eq_true (by omega)).symm | exact (decide_eq_false (by omega)).symm | exact decide_eq_decide.2 (by omega)) | (refine congrArg (fun b => T.v (Value.int _ b)) ?_; first | rfl | omega) | omega))
      · have e0 : bldE n 1 L = 0 := by unfold bldE; rw [if_neg (by omega), if_neg (fun q => q.elim hgood (fun q => q hnd)), if_neg (by omega)]
        have e1 : bldW n 1 L = flat 1 (laid sP n L) := by unfold bldW; rw [e0, if_pos rfl]; rfl
        have hrec : Recs sP L := ⟨hu, fun r hr h0 => hgood ⟨r, hr, by simp [badR, h0]⟩, hnd⟩
        rw [← built_laid hrec (by omega)] at e1
        have e3 : IntKind.i64.wrap ((n : Int) * 1) = ((n * 1 : Nat) : Int) := by rw [wrap64 (by omega) (by omega)]; omega
        conv => whnf
        rw [e3]
        repeat (refine And.intro (by omega) ?_; conv => whnf)
        have hz : List.replicate (mulN ((n * 1 : Nat) : Int).toNat (0 + 1)) 0 = flat 1 (List.replicate n ((0 : Int), (0 : Int))) := by
          rw [mulN_eq, Int.toNat_natCast]; exact (congrArg (fun z => List.replicate z (0 : Int)) (Nat.mul_one _)).trans (flat_zero (w := 1) (by decide) n)
        have hz2 : (((n * 1 : Nat) : Int).toNat) = n * 1 := Int.toNat_natCast _
        rw [hz, hz2]
        refine TW.loopD ctxBd_good 5 (base := 0) (lv := [0, 1, 2, 6, 7, 8, 10, 11, 13, 27, 29, 30, 31, 32, 46, 52, 58, 70, 71, 72, 73]) [72] [264] [(264, 264)] (fun x : Nat × List R => [.v (.int .i64 x.1)]) (fun x => [.fl [.u64] (flat 1 x.2)]) (fun x => x.1 ≤ j ∧ (x.2.length = n ∧ Nv 1 x.2) ∧ x.2 = (L.take x.1).foldl (putA sP n) (List.replicate n (0, 0))) (fun x => j - x.1) ?_
        conv => whnf
        refine ⟨⟨(0, List.replicate n (0, 0)), ⟨rfl, rfl, rfl⟩, Nat.zero_le _, ⟨List.length_replicate, nv_zero _ _⟩, rfl⟩, fun ⟨q, T⟩ ⟨hq, hTw, hT⟩ => ?_⟩
        replace hq : q ≤ j := hq
        replace hTw : T.length = n ∧ Nv 1 T := hTw
        replace hT : T = (L.take q).foldl (putA sP n) (List.replicate n (0, 0)) := hT
        conv => whnf
        refine ifB_dec (fun h => ?_) (fun h => ?_)
        · conv => whnf
          repeat (refine And.intro (by omega) ?_; conv => whnf)
          have E1 : 0 + (((q, T).1 : Nat) : Int).toNat * (1 + 1) + 0 = q * 2 := by dsimp only; omega
          have E2 : 0 + (((q, T).1 : Nat) : Int).toNat * (1 + 1) + (0 + 1) = q * 2 + 1 := by dsimp only; omega
          rw [E1, E2]
          have hLj := hLg q (by omega)
          have hLm : gR L q ∈ L := gR_mem (by omega)
          have hLs : L.take (q + 1) = L.take q ++ [gR L q] := take_snocR (by omega)
          have hgq := hg q (by omega)
          generalize xs.getD (q * 2) 0 = a at *
          generalize xs.getD (q * 2 + 1) 0 = b at *
          have e4 : (([0, 0].set (0 + 0 * (1 + 1) + 0) a).set (0 + 0 * (1 + 1) + (0 + 1)) b).getD (0 + 0 * (1 + 1) + 0) 0 = a := rfl
          have e5 : (([0, 0].set (0 + 0 * (1 + 1) + 0) a).set (0 + 0 * (1 + 1) + (0 + 1)) b).getD (0 + 0 * (1 + 1) + (0 + 1)) 0 = b := rfl
          have e6 : [a, b].getD (0 + 0 * ([Am.T.v (Value.int IntKind.u64 b)].length + 1)) 0 = a := rfl
          rw [e4, e5]
          intro l
          conv => whnf
          have hTl : T.length = n := hTw.1
          have hTv : Nv 1 T := hTw.2
          have hh := sP.hlt n a hn0
          have en : ((n : Int)).toNat = n := Int.toNat_natCast n
          have hrv : 1 = 1 → b = 0 := fun e => by first | exact absurd e (by decide) | (rw [hLj] at hgq; simp [badR] at hgq; exact hgq.2)
          rw [e6, en]
          generalize hH : sP.hm n a = hm at *
          refine TW.loopD ctxBd_good 4 (base := 7000000) (lv := [0, 1, 2, 4, 6, 7, 8, 18]) [7] [1282068, 264] [(1282068, 1282068), (264, 264)] (fun x : Nat × List R × R => [.v (.int .i64 x.1)]) (fun x => [.fl [.u64] [x.2.2.1, x.2.2.2], .fl [.u64] (flat 1 x.2.1)]) (fun x => x.1 ≤ n ∧ (x.2.1.length = n ∧ Nv 1 x.2.1) ∧ (1 = 1 → x.2.2.2 = 0) ∧ putF sP n (n - x.1) (atN n hm x.1) x.2.1 x.2.2 = putA sP n T (gR L q)) (fun x => n - x.1) ?_
          conv => whnf
          refine ⟨⟨(0, T, (a, b)), ⟨rfl, rfl, rfl⟩, Nat.zero_le _, ⟨hTl, hTv⟩, hrv, ?_⟩, fun ⟨c, U, ra, rb⟩ ⟨hc, ⟨hUl, hUv⟩, hrb, hU⟩ => ?_⟩
          · rw [hLj]; unfold putA; dsimp only
            rw [hH, Nat.sub_zero, show atN n hm 0 = hm by have := atN_c n hm 0; omega]
          replace hc : c ≤ n := hc
          replace hUl : U.length = n := hUl
          replace hUv : Nv 1 U := hUv
          replace hrb : 1 = 1 → rb = 0 := hrb
          replace hU : putF sP n (n - c) (atN n hm c) U (ra, rb) = putA sP n T (gR L q) := hU
          conv => whnf
          refine ifB_dec (fun hcn => ?_) (fun hcn => ?_)
          · replace hcn : (c : Int) < n := hcn
            have hat := atN_c n hm c
            have hi : atN n hm c < n := by omega
            have ew : IntKind.i64.wrap ((hm : Int) + (((c, U, ra, rb) : Nat × List R × R).1 : Nat)) = ((hm + c : Nat) : Int) := by rw [wrap64 (by dsimp only; omega) (by dsimp only; omega)]; dsimp only; omega
            have em : ((hm + c : Nat) : Int).tmod n = ((atN n hm c : Nat) : Int) := tmod_at hh (by omega)
            have hnx : nxt n (atN n hm c) = atN n hm (c + 1) := by have := nxt_c n (atN n hm c); have := atN_c n hm (c + 1); omega
            generalize hI : atN n hm c = i at *
            have hga : ga 1 (flat 1 U) i = (gR U i).1 := ga_flat (by decide) hUl hi
            have hgb : gb 1 (flat 1 U) i = (gR U i).2 := gb_flat (by decide) hUl hi hUv
            have hst : putF sP n (n - c) i U (ra, rb) = if gR U i = (0, 0) then U.set i (ra, rb) else if sP.bf ra (kR U i) = true then putF sP n (n - (c + 1)) (nxt n i) (U.set i (ra, rb)) (gR U i) else putF sP n (n - (c + 1)) (nxt n i) U (ra, rb) := by
              rw [show n - c = n - (c + 1) + 1 by omega]; rfl
            have ei : IntKind.i64.wrap ((i : Int) * 1) = ((i * 1 : Nat) : Int) := by rw [wrap64 (by omega) (by omega)]; omega
            have hUat := hUv.at (i := i) (by omega)
            unfold kR at hst
            generalize gR U i = g at *
            obtain ⟨A, B⟩ := g
            have hga' : ga (Int.toNat 1) (flat 1 ((c, U, ra, rb) : Nat × List R × R).2.1) ((i : Nat) : Int).toNat = A := hga
            have hgb' : gb (Int.toNat 1) (flat 1 ((c, U, ra, rb) : Nat × List R × R).2.1) ((i : Nat) : Int).toNat = B := hgb
            have e7 : (([0, 0].set (0 + 0 * (1 + 1) + 0) A).set (0 + 0 * (1 + 1) + (0 + 1)) B).getD (0 + 0 * (1 + 1) + 0) 0 = A := rfl
            have e8 : (([0, 0].set (0 + 0 * (1 + 1) + 0) A).set (0 + 0 * (1 + 1) + (0 + 1)) B).getD (0 + 0 * (1 + 1) + (0 + 1)) 0 = B := rfl
            conv => whnf
            rw [ew]
            repeat (refine And.intro (by omega) ?_; conv => whnf)
            rw [em]
            rw [hga', hgb', e7, e8]
            by_cases hz : A = 0 ∧ B = 0
            · rw [if_pos (by rw [hz.1, hz.2])] at hst
              refine ifB_t (by rw [hz.1, hz.2]; rfl) ?_
              conv => whnf
              rw [ei]
              repeat (refine And.intro (by first | omega | assumption | (exact allU_getD (by assumption) _) | (simp only [cutL]; omega) | (refine And.intro ?_ ?_ <;> first | assumption | exact allU_getD (by assumption) _) | (simp only [cutL, IntKind.wrap_u64, IntKind.wrap_i64] at *; omega) | decide) ?_; conv => whnf)
              rw [wsucc (j := q) (n := j) (by omega) w2]
              refine ⟨(q + 1, U.set i (ra, rb)), [(264, 264)], ⟨rfl, rfl, ?_⟩, ⟨(by omega : q + 1 ≤ j), ⟨by dsimp only; rw [List.length_set]; exact hUl, hUv.set hrb i⟩, ?_⟩, by dsimp only; omega⟩
              · show _ = [((264 : Nat), Blk.fl [.u64] (flat 1 (U.set i (ra, rb)))), _, _]
                rw [← setX1 hUl hi ra rb]
                rfl
              · dsimp only
                rw [hLs, List.foldl_append, ← hT, ← hst, hU]; rfl
            · have hz2 : ¬ (A, B) = ((0 : Int), (0 : Int)) := fun e => hz ⟨congrArg Prod.fst e, congrArg Prod.snd e⟩
              rw [if_neg hz2] at hst
              refine ifB_f (by by_cases h1 : A = 0 <;> by_cases h2 : B = 0 <;> simp_all) ?_
              conv => whnf
              repeat (refine And.intro (by omega) ?_; conv => whnf)
              refine ifB_mk (fun hb => ?_) (fun hb => ?_)
              · replace hb : sP.bf ra A = true := hb
                rw [if_pos hb] at hst
                conv => whnf
                rw [ei]
                repeat (refine And.intro (by first | omega | assumption | (exact allU_getD (by assumption) _) | (simp only [cutL]; omega) | (refine And.intro ?_ ?_ <;> first | assumption | exact allU_getD (by assumption) _) | (simp only [cutL, IntKind.wrap_u64, IntKind.wrap_i64] at *; omega) | decide) ?_; conv => whnf)
                rw [wsucc (j := c) (n := n) (by omega) (by omega)]
                refine ⟨(c + 1, U.set i (ra, rb), (A, B)), [(1282068, 1282068), (264, 264)], ⟨rfl, rfl, ?_⟩, ⟨(by omega : c + 1 ≤ n), ⟨by dsimp only; rw [List.length_set]; exact hUl, hUv.set hrb i⟩, hUat, ?_⟩, by dsimp only; omega⟩
                · show _ = ((1282068 : Nat), Blk.fl [.u64] [A, B]) :: ((264 : Nat), Blk.fl [.u64] (flat 1 (U.set i (ra, rb)))) :: _
                  rw [← setX1 hUl hi ra rb]
                  rfl
                · dsimp only
                  rw [← hU, hst, hnx]
              · replace hb : sP.bf ra A = false := hb
                rw [hb, if_neg (by decide)] at hst
                conv => whnf
                repeat (refine And.intro (by first | omega | assumption | (exact allU_getD (by assumption) _) | (simp only [cutL]; omega) | (refine And.intro ?_ ?_ <;> first | assumption | exact allU_getD (by assumption) _) | (simp only [cutL, IntKind.wrap_u64, IntKind.wrap_i64] at *; omega) | decide) ?_; conv => whnf)
                rw [wsucc (j := c) (n := n) (by omega) (by omega)]
                refine ⟨(c + 1, U, (ra, rb)), [(1282068, 1282068), (264, 264)], ⟨rfl, rfl, rfl⟩, ⟨(by omega : c + 1 ≤ n), ⟨hUl, hUv⟩, hrb, ?_⟩, by dsimp only; omega⟩
                dsimp only
                rw [← hU, hst, hnx]
          · replace hcn : ¬ (c : Int) < n := hcn
            have hcn : c = n := by omega
            subst hcn
            rw [Nat.sub_self] at hU
            replace hU : U = putA sP c T (gR L q) := hU
            conv => whnf
            repeat (refine And.intro (by first | rfl | omega) ?_; conv => whnf)
            rw [wsucc (j := q) (n := j) (by omega) w2]
            refine ⟨(q + 1, U), [(264, 264)], ⟨rfl, rfl, rfl⟩, ⟨(by omega : q + 1 ≤ j), ⟨hUl, hUv⟩, ?_⟩, by dsimp only; omega⟩
            dsimp only
            rw [hLs, List.foldl_append, ← hT, hU]; rfl
        · replace h : ¬ (q : Int) < j := h
          have hqj : q = j := by omega
          subst hqj
          conv => whnf
          have e8 : flat 1 T = bldW n 1 L := by rw [e1, hT, List.take_of_length_le (by omega)]; rfl
          have e9 : (bldW n 1 L).length = n * 1 := by rw [← e8, flat_len (by decide), hTw.1]
          rw [e0, e9, ← e8]
          repeat' (first | exact trivial | exact rfl | (refine And.intro ?_ ?_) | ((conv => whnf); done) | ((conv => whnf); (first | rfl | (refine congrArg (fun b => T.v (Value.bool b)) ?_; first | rfl | exact (decide_eq_true (by omega)).symm | exact (decide_eq_false (by omega)).symm | exact decide_eq_decide.2 (by omega)) | (refine congrArg (fun b => T.v (Value.int _ b)) ?_; first | rfl | omega) | omega)) | (first | rfl | (refine congrArg (fun b => T.v (Value.bool b)) ?_; first | rfl | exact (decide_eq_true (by omega)).symm | exact (decide_eq_false (by omega)).symm | exact decide_eq_decide.2 (by omega)) | (refine congrArg (fun b => T.v (Value.int _ b)) ?_; first | rfl | omega) | omega))
set_option maxHeartbeats 2000000 in
set_option maxRecDepth 100000 in
theorem build2_pure (n : Nat) (m : Nat) (xs : List Int) (hn0 : 0 < n) (hn : n ≤ 1024) (hm : m ≤ 1100) (hu : ∀ r ∈ recs m 2 xs, sP.U r.1) : Pure Tryz.prog glM 145 [.v (.int .i64 n), .v (.int .i64 2), .fl [.u64, .u64] m xs] (.tup [.ow 0 1 (bldW n 2 (recs m 2 xs)).length, .v (.int .i64 (bldE n 2 (recs m 2 xs)))]) [(0, .fl [.u64] (bldW n 2 (recs m 2 xs)))] := by
  refine pure_wf fun hw => ?_
  obtain ⟨-, -, ⟨w1, w2⟩, -⟩ := hw
  simp only [List.length_cons, List.length_nil, Nat.zero_add, Nat.mul_one] at w1
  refine pure_of (C := ctxBd Tryz.prog ctxBd_inlOk) ctxBd_good Tryz.func145 (c := bodyOf Tryz.f145) (by rfl) (Nat.le_of_ble_eq_true (by rfl)) 4 4 [0, 1, 2, 6, 7, 8, 10, 11, 13, 27, 29, 30, 31, 32, 46, 52, 58, 70, 71, 72, 73] ?_
  conv => whnf
  repeat' (first | (refine ifB_t (by assumption) ?_; conv => whnf) | (refine ifB_f (by assumption) ?_; conv => whnf) | (refine ifB_dec (fun h => ?_) (fun h => ?_) <;> (first | (exfalso; omega) | (conv => whnf))) | (refine ifB_eq (fun h => ?_) (fun h => ?_) <;> (first | (exfalso; omega) | (conv => whnf))) | (refine ifB_ne (fun h => ?_) (fun h => ?_) <;> (first | (exfalso; omega) | (conv => whnf))) | (refine ifB_not ?_; conv => whnf) | (refine ifB_and ?_; conv => whnf) | (refine ifB_or ?_; conv => whnf) | (refine And.intro ?_ ?_; (first | omega | assumption | (exact allU_getD (by assumption) _) | (simp only [cutL]; omega) | (refine And.intro ?_ ?_ <;> first | assumption | exact allU_getD (by assumption) _) | (simp only [cutL, IntKind.wrap_u64, IntKind.wrap_i64] at *; omega) | decide); conv => whnf))
  generalize hL : recs m 2 xs = L at *
  have hLl : L.length = m := by rw [← hL]; exact recs_len _ _ _
  have hLg : ∀ j, j < m → gR L j = (xs.getD (j * 2) 0, xs.getD (j * 2 + 1) 0) := fun j hj => by rw [← hL, recs_get xs hj]; rfl
  refine TW.loopD ctxBd_good 0 (base := 0) (lv := [0, 1, 2, 6, 7, 8, 10, 11, 13, 27, 29, 30, 31, 32, 46, 52, 58, 70, 71, 72, 73]) [31] [112] [(112, 112)] (fun j : Nat => [.v (.int .i64 j)]) (fun j => [.mp .u64 .none (mapF (L.take j))]) (fun j => j ≤ m ∧ ∀ i, i < j → badR 2 (gR L i) = false) (fun j => m - j) ?_
  conv => whnf
  refine ⟨⟨0, ⟨rfl, rfl, rfl⟩, by omega, fun i h => by omega⟩, fun j ⟨hj, hg⟩ => ?_⟩
  conv => whnf
  refine ifB_dec (fun h => ?_) (fun h => ?_)
  · conv => whnf
    repeat (refine And.intro (by omega) ?_; conv => whnf)
    have E1 : 0 + (j : Int).toNat * (1 + 1) + 0 = j * 2 := by omega
    have E2 : 0 + (j : Int).toNat * (1 + 1) + (0 + 1) = j * 2 + 1 := by omega
    rw [E1, E2]
    have hLj := hLg j (by omega)
    have hLm : gR L j ∈ L := gR_mem (by omega)
    have hLs : L.take (j + 1) = L.take j ++ [gR L j] := take_snocR (by omega)
    generalize xs.getD (j * 2) 0 = a at *
    generalize xs.getD (j * 2 + 1) 0 = b at *
    have bad : badR 2 (gR L j) = true → bldE n 2 L = 1 ∧ bldW n 2 L = [] := fun hb => by
      have e : bldE n 2 L = 1 := by unfold bldE; rw [if_neg (by omega), if_pos (.inl ⟨_, hLm, hb⟩)]
      exact ⟨e, by unfold bldW; rw [e, if_neg (by decide)]⟩
    refine ifB_eq (x := a) (y := 0) (fun ha => ?_) (fun ha => ?_)
    · obtain ⟨e0, e1⟩ := bad (by rw [hLj]; simp [badR, ha])
      conv => whnf
      rw [e0, e1]
      repeat' (first | exact trivial | exact rfl | (refine And.intro ?_ ?_) | ((conv => whnf); done) | ((conv => whnf); (first | rfl | (refine congrArg (fun b => T.v (Value.bool b)) ?_; first | rfl | exact (decide_eq_true (by omega)).symm | exact (decide_eq_false (by omega)).symm | exact decide_eq_decide.2 (by omega)) | (refine congrArg (fun b => T.v (Value.int _ b)) ?_; first | rfl | omega) | omega)) | (first | rfl | (refine congrArg (fun b => T.v (Value.bool b)) ?_; first | rfl | exact (decide_eq_true (by omega)).symm | exact (decide_eq_false (by omega)).symm | exact decide_eq_decide.2 (by omega)) | (refine congrArg (fun b => T.v (Value.int _ b)) ?_; first | rfl | omega) | omega))
    · conv => whnf
      repeat (refine And.intro (by omega) ?_; conv => whnf)
      try refine ifB_ne (x := b) (y := 0) (fun hb => by
        obtain ⟨e0, e1⟩ := bad (by rw [hLj]; simp [badR, ha, hb])
        conv => whnf
        rw [e0, e1]
        repeat' (first | exact trivial | exact rfl | (refine And.intro ?_ ?_) | ((conv => whnf); done) | ((conv => whnf); (first | rfl | (refine congrArg (fun b => T.v (Value.bool b)) ?_; first | rfl | exact (decide_eq_true (by omega)).symm | exact (decide_eq_false (by omega)).symm | exact decide_eq_decide.2 (by omega)) | (refine congrArg (fun b => T.v (Value.int _ b)) ?_; first | rfl | omega) | omega)) | (first | rfl | (refine congrArg (fun b => T.v (Value.bool b)) ?_; first | rfl | exact (decide_eq_true (by omega)).symm | exact (decide_eq_false (by omega)).symm | exact decide_eq_decide.2 (by omega)) | (refine congrArg (fun b => T.v (Value.int _ b)) ?_; first | rfl | omega) | omega))) (fun hb => ?_)
      try conv => whnf
      repeat (refine And.intro (by omega) ?_; conv => whnf)
      rw [wsucc (j := j) (n := m) (by omega) w2]
      refine ⟨j + 1, [(112, 112)], ⟨rfl, rfl, ?_⟩, ⟨by omega, fun i hi => ?_⟩, by dsimp only; omega⟩
      · show _ = [(112, Blk.mp .u64 .none (mapF (L.take (j + 1))))]
        rw [hLs, mapF_snoc, hLj]
        rfl
      · by_cases e : i = j
        · subst e; rw [hLj]; simp [badR, *]
        · exact hg i (by omega)
  · conv => whnf
    obtain rfl : j = m := by omega
    have hgood : ¬ ∃ r ∈ L, badR 2 r = true := by
      rintro ⟨r, hr, hb⟩
      obtain ⟨i, hi, rfl⟩ := List.getElem_of_mem hr
      have := hg i (by omega)
      unfold gR at this
      rw [List.getD_eq_getElem?_getD, List.getElem?_eq_getElem hi] at this
      rw [show ((some L[i]).getD (0, 0)) = L[i] from rfl, hb] at this
      cases this
    rw [List.take_of_length_le (by omega : L.length ≤ j)]
    refine ifB_dec (fun hd => ?_) (fun hd => ?_)
    · have hnd := mapF_lt.1 (show (mapF L).length < L.length by omega)
      have e0 : bldE n 2 L = 1 := by unfold bldE; rw [if_neg (by omega), if_pos (.inr hnd)]
      have e1 : bldW n 2 L = [] := by unfold bldW; rw [e0, if_neg (by decide)]
      conv => whnf
      rw [e0, e1]
      repeat' (first | exact trivial | exact rfl | (refine And.intro ?_ ?_) | ((conv => whnf); done) | ((conv => whnf); (first | rfl | (refine congrArg (fun b => T.v (Value.bool b)) ?_; first | rfl | exact (decide_eq_true (by omega)).symm | exact (decide_eq_false (by omega)).symm | exact decide_eq_decide.2 (by omega)) | (refine congrArg (fun b => T.v (Value.int _ b)) ?_; first | rfl | omega) | omega)) | (first | rfl | (refine congrArg (fun b => T.v (Value.bool b)) ?_; first | rfl | exact (decide_eq_true (by omega)).symm | exact (decide_eq_false (by omega)).symm | exact decide_eq_decide.2 (by omega)) | (refine congrArg (fun b => T.v (Value.int _ b)) ?_; first | rfl | omega) | omega))
    · have hnd : L.Pairwise fun a b => a.1 ≠ b.1 := Classical.byContradiction fun q => by have := mapF_lt.2 q; omega
      conv => whnf
      refine ifB_dec (fun hf => ?_) (fun hf => ?_)
      · have e0 : bldE n 2 L = 11 := by unfold bldE; rw [if_neg (by omega), if_neg (fun q => q.elim hgood (fun q => q hnd)), if_pos (by omega)]
        have e1 : bldW n 2 L = [] := by unfold bldW; rw [e0, if_neg (by decide)]
        conv => whnf
        rw [e0, e1]
        repeat' (first | exact trivial | exact rfl | (refine And.intro ?_ ?_) | ((conv => whnf); done) | ((conv => whnf); (first | rfl | (refine congrArg (fun b => T.v (Value.bool b)) ?_; first | rfl | exact (decide_eq_true (by omega)).symm | exact (decide_eq_false (by omega)).symm | exact decide_eq_decide.2 (by omega)) | (refine congrArg (fun b => T.v (Value.int _ b)) ?_; first | rfl | omega) | omega)) | (first | rfl | (refine congrArg (fun b => T.v (Value.bool b)) ?_; first | rfl | exact (decide_eq_true (by omega)).symm | exact (decide_eq_false (by omega)).symm | exact decide_eq_decide.2 (by omega)) | (refine congrArg (fun b => T.v (Value.int _ b)) ?_; first | rfl | omega) | omega))
      · have e0 : bldE n 2 L = 0 := by unfold bldE; rw [if_neg (by omega), if_neg (fun q => q.elim hgood (fun q => q hnd)), if_neg (by omega)]
        have e1 : bldW n 2 L = flat 2 (laid sP n L) := by unfold bldW; rw [e0, if_pos rfl]; rfl
        have hrec : Recs sP L := ⟨hu, fun r hr h0 => hgood ⟨r, hr, by simp [badR, h0]⟩, hnd⟩
        rw [← built_laid hrec (by omega)] at e1
        have e3 : IntKind.i64.wrap ((n : Int) * 2) = ((n * 2 : Nat) : Int) := by rw [wrap64 (by omega) (by omega)]; omega
        conv => whnf
        rw [e3]
        repeat (refine And.intro (by omega) ?_; conv => whnf)
        have hz : List.replicate (mulN ((n * 2 : Nat) : Int).toNat (0 + 1)) 0 = flat 2 (List.replicate n ((0 : Int), (0 : Int))) := by
          rw [mulN_eq, Int.toNat_natCast]; exact (congrArg (fun z => List.replicate z (0 : Int)) (Nat.mul_one _)).trans (flat_zero (w := 2) (by decide) n)
        have hz2 : (((n * 2 : Nat) : Int).toNat) = n * 2 := Int.toNat_natCast _
        rw [hz, hz2]
        refine TW.loopD ctxBd_good 5 (base := 0) (lv := [0, 1, 2, 6, 7, 8, 10, 11, 13, 27, 29, 30, 31, 32, 46, 52, 58, 70, 71, 72, 73]) [72] [264] [(264, 264)] (fun x : Nat × List R => [.v (.int .i64 x.1)]) (fun x => [.fl [.u64] (flat 2 x.2)]) (fun x => x.1 ≤ j ∧ (x.2.length = n ∧ Nv 2 x.2) ∧ x.2 = (L.take x.1).foldl (putA sP n) (List.replicate n (0, 0))) (fun x => j - x.1) ?_
        conv => whnf
        refine ⟨⟨(0, List.replicate n (0, 0)), ⟨rfl, rfl, rfl⟩, Nat.zero_le _, ⟨List.length_replicate, nv_zero _ _⟩, rfl⟩, fun ⟨q, T⟩ ⟨hq, hTw, hT⟩ => ?_⟩
        replace hq : q ≤ j := hq
        replace hTw : T.length = n ∧ Nv 2 T := hTw
        replace hT : T = (L.take q).foldl (putA sP n) (List.replicate n (0, 0)) := hT
        conv => whnf
        refine ifB_dec (fun h => ?_) (fun h => ?_)
        · conv => whnf
          repeat (refine And.intro (by omega) ?_; conv => whnf)
          have E1 : 0 + (((q, T).1 : Nat) : Int).toNat * (1 + 1) + 0 = q * 2 := by dsimp only; omega
          have E2 : 0 + (((q, T).1 : Nat) : Int).toNat * (1 + 1) + (0 + 1) = q * 2 + 1 := by dsimp only; omega
          rw [E1, E2]
          have hLj := hLg q (by omega)
          have hLm : gR L q ∈ L := gR_mem (by omega)
          have hLs : L.take (q + 1) = L.take q ++ [gR L q] := take_snocR (by omega)
          have hgq := hg q (by omega)
          generalize xs.getD (q * 2) 0 = a at *
          generalize xs.getD (q * 2 + 1) 0 = b at *
          have e4 : (([0, 0].set (0 + 0 * (1 + 1) + 0) a).set (0 + 0 * (1 + 1) + (0 + 1)) b).getD (0 + 0 * (1 + 1) + 0) 0 = a := rfl
          have e5 : (([0, 0].set (0 + 0 * (1 + 1) + 0) a).set (0 + 0 * (1 + 1) + (0 + 1)) b).getD (0 + 0 * (1 + 1) + (0 + 1)) 0 = b := rfl
          have e6 : [a, b].getD (0 + 0 * ([Am.T.v (Value.int IntKind.u64 b)].length + 1)) 0 = a := rfl
          rw [e4, e5]
          intro l
          conv => whnf
          have hTl : T.length = n := hTw.1
          have hTv : Nv 2 T := hTw.2
          have hh := sP.hlt n a hn0
          have en : ((n : Int)).toNat = n := Int.toNat_natCast n
          have hrv : 2 = 1 → b = 0 := fun e => by first | exact absurd e (by decide) | (rw [hLj] at hgq; simp [badR] at hgq; exact hgq.2)
          rw [e6, en]
          generalize hH : sP.hm n a = hm at *
          refine TW.loopD ctxBd_good 4 (base := 7000000) (lv := [0, 1, 2, 4, 6, 7, 8, 18]) [7] [1282068, 264] [(1282068, 1282068), (264, 264)] (fun x : Nat × List R × R => [.v (.int .i64 x.1)]) (fun x => [.fl [.u64] [x.2.2.1, x.2.2.2], .fl [.u64] (flat 2 x.2.1)]) (fun x => x.1 ≤ n ∧ (x.2.1.length = n ∧ Nv 2 x.2.1) ∧ (2 = 1 → x.2.2.2 = 0) ∧ putF sP n (n - x.1) (atN n hm x.1) x.2.1 x.2.2 = putA sP n T (gR L q)) (fun x => n - x.1) ?_
          conv => whnf
          refine ⟨⟨(0, T, (a, b)), ⟨rfl, rfl, rfl⟩, Nat.zero_le _, ⟨hTl, hTv⟩, hrv, ?_⟩, fun ⟨c, U, ra, rb⟩ ⟨hc, ⟨hUl, hUv⟩, hrb, hU⟩ => ?_⟩
          · rw [hLj]; unfold putA; dsimp only
            rw [hH, Nat.sub_zero, show atN n hm 0 = hm by have := atN_c n hm 0; omega]
          replace hc : c ≤ n := hc
          replace hUl : U.length = n := hUl
          replace hUv : Nv 2 U := hUv
          replace hrb : 2 = 1 → rb = 0 := hrb
          replace hU : putF sP n (n - c) (atN n hm c) U (ra, rb) = putA sP n T (gR L q) := hU
          conv => whnf
          refine ifB_dec (fun hcn => ?_) (fun hcn => ?_)
          · replace hcn : (c : Int) < n := hcn
            have hat := atN_c n hm c
            have hi : atN n hm c < n := by omega
            have ew : IntKind.i64.wrap ((hm : Int) + (((c, U, ra, rb) : Nat × List R × R).1 : Nat)) = ((hm + c : Nat) : Int) := by rw [wrap64 (by dsimp only; omega) (by dsimp only; omega)]; dsimp only; omega
            have em : ((hm + c : Nat) : Int).tmod n = ((atN n hm c : Nat) : Int) := tmod_at hh (by omega)
            have hnx : nxt n (atN n hm c) = atN n hm (c + 1) := by have := nxt_c n (atN n hm c); have := atN_c n hm (c + 1); omega
            generalize hI : atN n hm c = i at *
            have hga : ga 2 (flat 2 U) i = (gR U i).1 := ga_flat (by decide) hUl hi
            have hgb : gb 2 (flat 2 U) i = (gR U i).2 := gb_flat (by decide) hUl hi hUv
            have hst : putF sP n (n - c) i U (ra, rb) = if gR U i = (0, 0) then U.set i (ra, rb) else if sP.bf ra (kR U i) = true then putF sP n (n - (c + 1)) (nxt n i) (U.set i (ra, rb)) (gR U i) else putF sP n (n - (c + 1)) (nxt n i) U (ra, rb) := by
              rw [show n - c = n - (c + 1) + 1 by omega]; rfl
            have ei : IntKind.i64.wrap ((i : Int) * 2) = ((i * 2 : Nat) : Int) := by rw [wrap64 (by omega) (by omega)]; omega
            have hUat := hUv.at (i := i) (by omega)
            unfold kR at hst
            generalize gR U i = g at *
            obtain ⟨A, B⟩ := g
            have hga' : ga (Int.toNat 2) (flat 2 ((c, U, ra, rb) : Nat × List R × R).2.1) ((i : Nat) : Int).toNat = A := hga
            have hgb' : gb (Int.toNat 2) (flat 2 ((c, U, ra, rb) : Nat × List R × R).2.1) ((i : Nat) : Int).toNat = B := hgb
            have e7 : (([0, 0].set (0 + 0 * (1 + 1) + 0) A).set (0 + 0 * (1 + 1) + (0 + 1)) B).getD (0 + 0 * (1 + 1) + 0) 0 = A := rfl
            have e8 : (([0, 0].set (0 + 0 * (1 + 1) + 0) A).set (0 + 0 * (1 + 1) + (0 + 1)) B).getD (0 + 0 * (1 + 1) + (0 + 1)) 0 = B := rfl
            conv => whnf
            rw [ew]
            repeat (refine And.intro (by omega) ?_; conv => whnf)
            rw [em]
            rw [hga', hgb', e7, e8]
            by_cases hz : A = 0 ∧ B = 0
            · rw [if_pos (by rw [hz.1, hz.2])] at hst
              refine ifB_t (by rw [hz.1, hz.2]; rfl) ?_
              conv => whnf
              rw [ei]
              repeat (refine And.intro (by first | omega | assumption | (exact allU_getD (by assumption) _) | (simp only [cutL]; omega) | (refine And.intro ?_ ?_ <;> first | assumption | exact allU_getD (by assumption) _) | (simp only [cutL, IntKind.wrap_u64, IntKind.wrap_i64] at *; omega) | decide) ?_; conv => whnf)
              rw [wsucc (j := q) (n := j) (by omega) w2]
              refine ⟨(q + 1, U.set i (ra, rb)), [(264, 264)], ⟨rfl, rfl, ?_⟩, ⟨(by omega : q + 1 ≤ j), ⟨by dsimp only; rw [List.length_set]; exact hUl, hUv.set hrb i⟩, ?_⟩, by dsimp only; omega⟩
              · show _ = [((264 : Nat), Blk.fl [.u64] (flat 2 (U.set i (ra, rb)))), _, _]
                rw [← setX2 hUl hi ra rb]
                rfl
              · dsimp only
                rw [hLs, List.foldl_append, ← hT, ← hst, hU]; rfl
            · have hz2 : ¬ (A, B) = ((0 : Int), (0 : Int)) := fun e => hz ⟨congrArg Prod.fst e, congrArg Prod.snd e⟩
              rw [if_neg hz2] at hst
              refine ifB_f (by by_cases h1 : A = 0 <;> by_cases h2 : B = 0 <;> simp_all) ?_
              conv => whnf
              repeat (refine And.intro (by omega) ?_; conv => whnf)
              refine ifB_mk (fun hb => ?_) (fun hb => ?_)
              · replace hb : sP.bf ra A = true := hb
                rw [if_pos hb] at hst
                conv => whnf
                rw [ei]
                repeat (refine And.intro (by first | omega | assumption | (exact allU_getD (by assumption) _) | (simp only [cutL]; omega) | (refine And.intro ?_ ?_ <;> first | assumption | exact allU_getD (by assumption) _) | (simp only [cutL, IntKind.wrap_u64, IntKind.wrap_i64] at *; omega) | decide) ?_; conv => whnf)
                rw [wsucc (j := c) (n := n) (by omega) (by omega)]
                refine ⟨(c + 1, U.set i (ra, rb), (A, B)), [(1282068, 1282068), (264, 264)], ⟨rfl, rfl, ?_⟩, ⟨(by omega : c + 1 ≤ n), ⟨by dsimp only; rw [List.length_set]; exact hUl, hUv.set hrb i⟩, hUat, ?_⟩, by dsimp only; omega⟩
                · show _ = ((1282068 : Nat), Blk.fl [.u64] [A, B]) :: ((264 : Nat), Blk.fl [.u64] (flat 2 (U.set i (ra, rb)))) :: _
                  rw [← setX2 hUl hi ra rb]
                  rfl
                · dsimp only
                  rw [← hU, hst, hnx]
              · replace hb : sP.bf ra A = false := hb
                rw [hb, if_neg (by decide)] at hst
                conv => whnf
                repeat (refine And.intro (by first | omega | assumption | (exact allU_getD (by assumption) _) | (simp only [cutL]; omega) | (refine And.intro ?_ ?_ <;> first | assumption | exact allU_getD (by assumption) _) | (simp only [cutL, IntKind.wrap_u64, IntKind.wrap_i64] at *; omega) | decide) ?_; conv => whnf)
                rw [wsucc (j := c) (n := n) (by omega) (by omega)]
                refine ⟨(c + 1, U, (ra, rb)), [(1282068, 1282068), (264, 264)], ⟨rfl, rfl, rfl⟩, ⟨(by omega : c + 1 ≤ n), ⟨hUl, hUv⟩, hrb, ?_⟩, by dsimp only; omega⟩
                dsimp only
                rw [← hU, hst, hnx]
          · replace hcn : ¬ (c : Int) < n := hcn
            have hcn : c = n := by omega
            subst hcn
            rw [Nat.sub_self] at hU
            replace hU : U = putA sP c T (gR L q) := hU
            conv => whnf
            repeat (refine And.intro (by first | rfl | omega) ?_; conv => whnf)
            rw [wsucc (j := q) (n := j) (by omega) w2]
            refine ⟨(q + 1, U), [(264, 264)], ⟨rfl, rfl, rfl⟩, ⟨(by omega : q + 1 ≤ j), ⟨hUl, hUv⟩, ?_⟩, by dsimp only; omega⟩
            dsimp only
            rw [hLs, List.foldl_append, ← hT, hU]; rfl
        · replace h : ¬ (q : Int) < j := h
          have hqj : q = j := by omega
          subst hqj
          conv => whnf
          have e8 : flat 2 T = bldW n 2 L := by rw [e1, hT, List.take_of_length_le (by omega)]; rfl
          have e9 : (bldW n 2 L).length = n * 2 := by rw [← e8, flat_len (by decide), hTw.1]
          rw [e0, e9, ← e8]
          repeat' (first | exact trivial | exact rfl | (refine And.intro ?_ ?_) | ((conv => whnf); done) | ((conv => whnf); (first | rfl | (refine congrArg (fun b => T.v (Value.bool b)) ?_; first | rfl | exact (decide_eq_true (by omega)).symm | exact (decide_eq_false (by omega)).symm | exact decide_eq_decide.2 (by omega)) | (refine congrArg (fun b => T.v (Value.int _ b)) ?_; first | rfl | omega) | omega)) | (first | rfl | (refine congrArg (fun b => T.v (Value.bool b)) ?_; first | rfl | exact (decide_eq_true (by omega)).symm | exact (decide_eq_false (by omega)).symm | exact decide_eq_decide.2 (by omega)) | (refine congrArg (fun b => T.v (Value.int _ b)) ?_; first | rfl | omega) | omega))
set_option maxRecDepth 100000 in
theorem build0_pure (n w : Int) (m : Nat) (xs : List Int) (h0 : n < 1 ∨ 1024 < n ∨ (w ≠ 1 ∧ w ≠ 2)) : Pure Tryz.prog glM 145 [.v (.int .i64 n), .v (.int .i64 w), .fl [.u64, .u64] m xs] (.tup [.ow 0 1 (bldW n w (recs m 2 xs)).length, .v (.int .i64 (bldE n w (recs m 2 xs)))]) [(0, .fl [.u64] (bldW n w (recs m 2 xs)))] := by
  have e0 : bldE n w (recs m 2 xs) = 1 := by unfold bldE; rw [if_pos h0]
  have e1 : bldW n w (recs m 2 xs) = [] := by unfold bldW; rw [e0, if_neg (by decide)]
  refine pure_of (C := ctxBd Tryz.prog ctxBd_inlOk) ctxBd_good Tryz.func145 (c := bodyOf Tryz.f145) (by rfl) (Nat.le_of_ble_eq_true (by rfl)) 4 4 [0, 1, 2, 6, 7, 8, 10, 11, 13, 27, 29, 30, 31, 32, 46, 52, 58, 70, 71, 72, 73] ?_
  conv => whnf
  rw [e0, e1]
  repeat' (first | (refine ifB_t (by assumption) ?_; conv => whnf) | (refine ifB_f (by assumption) ?_; conv => whnf) | (refine ifB_dec (fun h => ?_) (fun h => ?_) <;> (first | (exfalso; omega) | (conv => whnf))) | (refine ifB_eq (fun h => ?_) (fun h => ?_) <;> (first | (exfalso; omega) | (conv => whnf))) | (refine ifB_ne (fun h => ?_) (fun h => ?_) <;> (first | (exfalso; omega) | (conv => whnf))) | (refine ifB_not ?_; conv => whnf) | (refine ifB_and ?_; conv => whnf) | (refine ifB_or ?_; conv => whnf) | (refine And.intro ?_ ?_; (first | omega | assumption | (exact allU_getD (by assumption) _) | (simp only [cutL]; omega) | (refine And.intro ?_ ?_ <;> first | assumption | exact allU_getD (by assumption) _) | (simp only [cutL, IntKind.wrap_u64, IntKind.wrap_i64] at *; omega) | decide); conv => whnf))
  all_goals repeat' (first | exact trivial | exact rfl | (refine And.intro ?_ ?_) | ((conv => whnf); done) | ((conv => whnf); (first | rfl | (refine congrArg (fun b => T.v (Value.bool b)) ?_; first | rfl | exact (decide_eq_true (by omega)).symm | exact (decide_eq_false (by omega)).symm | exact decide_eq_decide.2 (by omega)) | (refine congrArg (fun b => T.v (Value.int _ b)) ?_; first | rfl | omega) | omega)) | (first | rfl | (refine congrArg (fun b => T.v (Value.bool b)) ?_; first | rfl | exact (decide_eq_true (by omega)).symm | exact (decide_eq_false (by omega)).symm | exact decide_eq_decide.2 (by omega)) | (refine congrArg (fun b => T.v (Value.int _ b)) ?_; first | rfl | omega) | omega))
theorem build_pure (n w : Int) (m : Nat) (xs : List Int) (hm : m ≤ 1100) (hu : ∀ r ∈ recs m 2 xs, sP.U r.1) : Pure Tryz.prog glM 145 [.v (.int .i64 n), .v (.int .i64 w), .fl [.u64, .u64] m xs] (.tup [.ow 0 1 (bldW n w (recs m 2 xs)).length, .v (.int .i64 (bldE n w (recs m 2 xs)))]) [(0, .fl [.u64] (bldW n w (recs m 2 xs)))] := by
  by_cases h0 : n < 1 ∨ 1024 < n ∨ (w ≠ 1 ∧ w ≠ 2)
  · exact build0_pure n w m xs h0
  · obtain ⟨k, rfl⟩ := Int.eq_ofNat_of_zero_le (a := n) (by omega)
    have hw : w = 1 ∨ w = 2 := by omega
    rcases hw with rfl | rfl
    · exact build1_pure k m xs (by omega) (by omega) hm hu
    · exact build2_pure k m xs (by omega) (by omega) hm hu
theorem pure_nilL {P : Program} {gl : Nat → T} {f : FuncId} {pre : List T} {t : T} {ks : List IntKind} {bs : Hp} (h : Pure P gl f (pre ++ [.fl ks 0 []]) t bs) : Pure P gl f (pre ++ [.v (.slice none 0 0)]) t bs := by
  intro w vs hg ha
  refine h w vs hg ?_
  have key : ∀ {pre : List T} {vs : List Value}, TVs w (fun _ => True) noM noL (pre ++ [.v (.slice none 0 0)]) vs → TVs w (fun _ => True) noM noL (pre ++ [.fl ks 0 []]) vs := by
    intro pre
    induction pre with
    | nil =>
      intro vs ha
      cases ha with
      | cons h1 h2 =>
        cases h1 with
        | v hp => exact .cons .fl0 h2
    | cons p pre ih =>
      intro vs ha
      cases ha with
      | cons h1 h2 => exact .cons h1 (ih h2)
  exact key ha
noncomputable def eBuild : Entry := ⟨145, 4, fun l => match l with
  | [.v (.int .i64 n), .v (.int .i64 w), .fl [.u64, .u64] m xs] => some (some (m ≤ 1100 ∧ ∀ r ∈ recs m 2 xs, sP.U r.1), .tup [.ow 0 1 (bldW n w (recs m 2 xs)).length, .v (.int .i64 (bldE n w (recs m 2 xs)))], [(0, .fl [.u64] (bldW n w (recs m 2 xs)))])
  | [.v (.int .i64 n), .v (.int .i64 w), .v (.slice none 0 0)] => some (none, .tup [.ow 0 1 (bldW n w []).length, .v (.int .i64 (bldE n w []))], [(0, .fl [.u64] (bldW n w []))])
  | _ => none⟩
theorem eBuild_ok : eBuild.ok Tryz.prog glM := ⟨Am.enters_of Tryz.func145 (by kernel_rfl) (by kernel_rfl), by
  intro args c t bs h hc
  simp only [eBuild] at h
  split at h <;> cases h
  · replace hc := hc _ rfl
    exact build_pure _ _ _ _ hc.1 hc.2
  · exact pure_nilL (pre := [_, _]) (ks := [.u64, .u64]) (build_pure _ _ 0 [] (by omega) (fun r hr => by cases hr))⟩
end Go.Proofs.YtnplgklnkcjmnaaGreatDoor.PrT
namespace Go.Proofs.YtnplgklnkcjmnaaGreatDoor.PrT
open Go.RowKit Go.Proofs.YtnplgklnkcjmnaaGreatDoor.Am Go.Proofs.YtnplgklnkcjmnaaGreatDoor
set_option linter.unusedVariables false
set_option linter.unusedSimpArgs false

def fullB (n w : Nat) (ws : List Int) : Bool := (List.range n).all fun j => ga w ws j != 0
theorem fullB_true {n w : Nat} {ws : List Int} (h : ∀ i, i < n → ga w ws i ≠ 0) : fullB n w ws = true := by
  unfold fullB; rw [List.all_eq_true]; intro j hj; simpa using h j (List.mem_range.1 hj)
theorem fullB_false {n w j : Nat} {ws : List Int} (hj : j < n) (h : ga w ws j = 0) : fullB n w ws = false := by
  unfold fullB; rw [List.all_eq_false]; exact ⟨j, List.mem_range.2 hj, by simp [h]⟩
noncomputable def ctxPrF (P : Program) : Ctx := ctx P glR [eGet] [] (noEq P) [] (fun _ h => by cases h)
theorem ctxPrF_good : (ctxPrF Tryz.prog).good := ctx_good (by kernel_rfl) (AllOk.mem ⟨eGet_ok, trivial⟩) glR_two
set_option maxRecDepth 100000 in
theorem full_pure (n w m : Nat) (ws : List Int) (hw : w = 1 ∨ w = 2) (hn0 : 0 < n) (hn : n ≤ 4096) (hm : m = n * w) : Pure Tryz.prog glR 125 [.agg [.fl [.u64] m ws, .v (.int .i64 n), .v (.int .i64 w)]] (.v (.bool (fullB n w ws))) := by
  refine pure_of (C := ctxPrF Tryz.prog) ctxPrF_good Tryz.func125 (c := bodyOf Tryz.f125) (by rfl) (Nat.le_of_ble_eq_true (by rfl)) 4 0 [0, 1, 2, 3, 5, 6, 7, 13] ?_
  conv => whnf
  refine TW.loopD ctxPrF_good 0 (base := 0) (lv := [0, 1, 2, 3, 5, 6, 7, 13]) [6] [] [] (fun j : Nat => [.v (.int .i64 j)]) (fun j => []) (fun j => j ≤ n ∧ ∀ i, i < j → ga w ws i ≠ 0) (fun j => n - j) ?_
  conv => whnf
  refine ⟨⟨0, ⟨rfl, rfl, rfl⟩, by omega, fun i h => by omega⟩, fun j ⟨hj, hg⟩ => ?_⟩
  conv => whnf
  refine ifB_dec (fun h => ?_) (fun h => ?_)
  · conv => whnf
    refine And.intro ⟨by omega, by omega, by omega, by rw [hm]; exact Int.natCast_mul _ _⟩ ?_
    conv => whnf
    repeat (refine And.intro (by omega) ?_; conv => whnf)
    rw [Int.toNat_natCast, Int.toNat_natCast]
    refine ifB_eq (x := ga w ws j) (y := 0) (fun ha => ?_) (fun ha => ?_)
    · conv => whnf
      rw [fullB_false (by omega) ha]
      repeat' (first | exact trivial | exact rfl | (refine And.intro ?_ ?_) | ((conv => whnf); done) | ((conv => whnf); (first | rfl | (refine congrArg (fun b => T.v (Value.bool b)) ?_; first | rfl | exact (decide_eq_true (by omega)).symm | exact (decide_eq_false (by omega)).symm | exact decide_eq_decide.2 (by omega)) | (refine congrArg (fun b => T.v (Value.int _ b)) ?_; first | rfl | omega) | omega)) | (first | rfl | (refine congrArg (fun b => T.v (Value.bool b)) ?_; first | rfl | exact (decide_eq_true (by omega)).symm | exact (decide_eq_false (by omega)).symm | exact decide_eq_decide.2 (by omega)) | (refine congrArg (fun b => T.v (Value.int _ b)) ?_; first | rfl | omega) | omega))
    · conv => whnf
      rw [wsucc (j := j) (n := n) (by omega) (by omega)]
      refine ⟨j + 1, [], ⟨rfl, rfl, rfl⟩, ⟨by omega, fun i hi => ?_⟩, by dsimp only; omega⟩
      by_cases e : i = j
      · subst e; exact ha
      · exact hg i (by omega)
  · have : j = n := by omega
    subst this
    conv => whnf
    rw [fullB_true hg]
    repeat' (first | exact trivial | exact rfl | (refine And.intro ?_ ?_) | ((conv => whnf); done) | ((conv => whnf); (first | rfl | (refine congrArg (fun b => T.v (Value.bool b)) ?_; first | rfl | exact (decide_eq_true (by omega)).symm | exact (decide_eq_false (by omega)).symm | exact decide_eq_decide.2 (by omega)) | (refine congrArg (fun b => T.v (Value.int _ b)) ?_; first | rfl | omega) | omega)) | (first | rfl | (refine congrArg (fun b => T.v (Value.bool b)) ?_; first | rfl | exact (decide_eq_true (by omega)).symm | exact (decide_eq_false (by omega)).symm | exact decide_eq_decide.2 (by omega)) | (refine congrArg (fun b => T.v (Value.int _ b)) ?_; first | rfl | omega) | omega))
noncomputable def eFull : Entry := ⟨125, 4, fun l => match l with | [.agg [.fl [.u64] m ws, .v (.int .i64 n), .v (.int .i64 w)]] => some (some ((w = 1 ∨ w = 2) ∧ 0 < n ∧ n ≤ 4096 ∧ (m : Int) = n * w), .v (.bool (fullB n.toNat w.toNat ws)), []) | _ => none⟩
theorem eFull_ok : eFull.ok Tryz.prog glR := ⟨Am.enters_of Tryz.func125 (by kernel_rfl) (by kernel_rfl), by
  intro args c t bs h hc
  simp only [eFull] at h
  split at h <;> cases h
  replace hc := hc _ rfl
  exact (by obtain ⟨h1, h2, h4, h5⟩ := hc; obtain ⟨n, rfl⟩ := Int.eq_ofNat_of_zero_le (Int.le_of_lt h2); rcases h1 with rfl | rfl; exact full_pure n 1 _ _ (.inl rfl) (by omega) (by omega) (by omega); exact full_pure n 2 _ _ (.inr rfl) (by omega) (by omega) (by omega))⟩

noncomputable def ctxFd_inl : List Inl := [iRound, iRound1]
theorem ctxFd_inlOk : InlOk Tryz.prog ctxFd_inl := ⟨iRound_ok, iRound1_ok, trivial⟩
noncomputable def ctxFd (P : Program) (h : InlOk P ctxFd_inl) : Ctx := ctx P glM [eGet, eHome, eBf] [] (noEq P) ctxFd_inl h.mem
theorem ctxFd_good : (ctxFd Tryz.prog ctxFd_inlOk).good := ctx_good (by kernel_rfl) (AllOk.mem ⟨entry_lift eGet_ok, eHome_ok, eBf_ok, trivial⟩) glM_two
set_option maxHeartbeats 1000000 in
set_option maxRecDepth 100000 in
theorem find_pure (n w m : Nat) (ws : List Int) (key : Int) (hw : w = 1 ∨ w = 2) (hn0 : 0 < n) (hn : n ≤ 1024) (hm : m = n * w) : Pure Tryz.prog glM 123 [.agg [.fl [.u64] m ws, .v (.int .i64 n), .v (.int .i64 w)], .v (.int .u64 key)] (.v (.int .i64 (findF sP n (recs n w ws) key n (sP.hm n key)))) := by
  refine pure_of (C := ctxFd Tryz.prog ctxFd_inlOk) ctxFd_good Tryz.func123 (c := bodyOf Tryz.f123) (by rfl) (Nat.le_of_ble_eq_true (by rfl)) 4 4 [0, 1, 2, 3, 4, 5, 6, 11, 12, 16, 22] ?_
  conv => whnf
  repeat (refine And.intro (by omega) ?_; conv => whnf)
  intro l
  conv => whnf
  have hh := sP.hlt n key hn0
  have en : ((n : Int)).toNat = n := Int.toNat_natCast n
  have e6 : [key].getD (0 + 0 * (0 + 1)) 0 = key := rfl
  rw [en]
  generalize hH : sP.hm n key = hm at *
  refine TW.loopD ctxFd_good 4 (base := 7000000) (lv := [0, 1, 2, 4, 6, 7, 8, 18]) [7] [] [] (fun c : Nat => [.v (.int .i64 c)]) (fun c => []) (fun c => c ≤ n ∧ findF sP n (recs n w ws) key (n - c) (atN n hm c) = findF sP n (recs n w ws) key n hm) (fun c => n - c) ?_
  conv => whnf
  refine ⟨⟨0, ⟨rfl, rfl, rfl⟩, Nat.zero_le _, by rw [Nat.sub_zero, show atN n hm 0 = hm by have := atN_c n hm 0; omega]⟩, fun c ⟨hc, hF⟩ => ?_⟩
  conv => whnf
  refine ifB_dec (fun hcn => ?_) (fun hcn => ?_)
  · have hat := atN_c n hm c
    have hi : atN n hm c < n := by omega
    have ew : IntKind.i64.wrap ((hm : Int) + (c : Nat)) = ((hm + c : Nat) : Int) := by rw [wrap64 (by omega) (by omega)]; omega
    have em : ((hm + c : Nat) : Int).tmod n = ((atN n hm c : Nat) : Int) := tmod_at hh (by omega)
    have hnx : nxt n (atN n hm c) = atN n hm (c + 1) := by have := nxt_c n (atN n hm c); have := atN_c n hm (c + 1); omega
    generalize hI : atN n hm c = i at *
    have hst : findF sP n (recs n w ws) key (n - c) i = if ga w ws i = key then (i : Int) else if ga w ws i = 0 ∨ sP.bf key (ga w ws i) = true then -1 else findF sP n (recs n w ws) key (n - (c + 1)) (nxt n i) := by
      rw [show n - c = n - (c + 1) + 1 by omega, show ga w ws i = kR (recs n w ws) i by unfold kR; rw [recs_get ws hi]; rfl]; rfl
    conv => whnf
    rw [ew]
    refine And.intro (by omega) ?_
    conv => whnf
    rw [em]
    repeat (refine And.intro (by first | rfl | omega) ?_; conv => whnf)
    rw [Int.toNat_natCast, Int.toNat_natCast]
    refine ifB_eq (x := ga w ws i) (y := key) (fun ha => ?_) (fun ha => ?_)
    · rw [if_pos ha] at hst
      conv => whnf
      repeat (refine And.intro (by first | rfl | omega) ?_; conv => whnf)
      rw [← hF, hst]
      repeat' (first | exact trivial | exact rfl | (refine And.intro ?_ ?_) | ((conv => whnf); done) | ((conv => whnf); (first | rfl | (refine congrArg (fun b => T.v (Value.bool b)) ?_; first | rfl | exact (decide_eq_true (by omega)).symm | exact (decide_eq_false (by omega)).symm | exact decide_eq_decide.2 (by omega)) | (refine congrArg (fun b => T.v (Value.int _ b)) ?_; first | rfl | omega) | omega)) | (first | rfl | (refine congrArg (fun b => T.v (Value.bool b)) ?_; first | rfl | exact (decide_eq_true (by omega)).symm | exact (decide_eq_false (by omega)).symm | exact decide_eq_decide.2 (by omega)) | (refine congrArg (fun b => T.v (Value.int _ b)) ?_; first | rfl | omega) | omega))
    · rw [if_neg ha] at hst
      conv => whnf
      repeat (refine And.intro (by first | rfl | omega) ?_; conv => whnf)
      refine ifB_eq (x := ga w ws i) (y := 0) (fun h0 => ?_) (fun h0 => ?_)
      · rw [if_pos (.inl h0)] at hst
        conv => whnf
        repeat (refine And.intro (by first | rfl | omega) ?_; conv => whnf)
        rw [← hF, hst]
        repeat' (first | exact trivial | exact rfl | (refine And.intro ?_ ?_) | ((conv => whnf); done) | ((conv => whnf); (first | rfl | (refine congrArg (fun b => T.v (Value.bool b)) ?_; first | rfl | exact (decide_eq_true (by omega)).symm | exact (decide_eq_false (by omega)).symm | exact decide_eq_decide.2 (by omega)) | (refine congrArg (fun b => T.v (Value.int _ b)) ?_; first | rfl | omega) | omega)) | (first | rfl | (refine congrArg (fun b => T.v (Value.bool b)) ?_; first | rfl | exact (decide_eq_true (by omega)).symm | exact (decide_eq_false (by omega)).symm | exact decide_eq_decide.2 (by omega)) | (refine congrArg (fun b => T.v (Value.int _ b)) ?_; first | rfl | omega) | omega))
      · conv => whnf
        repeat (refine And.intro (by first | rfl | omega) ?_; conv => whnf)
        refine ifB_mk (fun hb => ?_) (fun hb => ?_)
        · replace hb : sP.bf key (ga w ws i) = true := hb
          rw [if_pos (.inr hb)] at hst
          conv => whnf
          repeat (refine And.intro (by first | rfl | omega) ?_; conv => whnf)
          rw [← hF, hst]
          repeat' (first | exact trivial | exact rfl | (refine And.intro ?_ ?_) | ((conv => whnf); done) | ((conv => whnf); (first | rfl | (refine congrArg (fun b => T.v (Value.bool b)) ?_; first | rfl | exact (decide_eq_true (by omega)).symm | exact (decide_eq_false (by omega)).symm | exact decide_eq_decide.2 (by omega)) | (refine congrArg (fun b => T.v (Value.int _ b)) ?_; first | rfl | omega) | omega)) | (first | rfl | (refine congrArg (fun b => T.v (Value.bool b)) ?_; first | rfl | exact (decide_eq_true (by omega)).symm | exact (decide_eq_false (by omega)).symm | exact decide_eq_decide.2 (by omega)) | (refine congrArg (fun b => T.v (Value.int _ b)) ?_; first | rfl | omega) | omega))
        · replace hb : sP.bf key (ga w ws i) = false := hb
          rw [hb, if_neg (fun q => q.elim h0 (by decide))] at hst
          conv => whnf
          repeat (refine And.intro (by first | rfl | omega) ?_; conv => whnf)
          rw [wsucc (j := c) (n := n) (by omega) (by omega)]
          refine ⟨c + 1, [], ⟨rfl, rfl, rfl⟩, ⟨by omega, ?_⟩, by dsimp only; omega⟩
          rw [← hF, hst, hnx]
  · have hcn : c = n := by omega
    subst hcn
    rw [Nat.sub_self] at hF
    replace hF : -1 = _ := hF
    conv => whnf
    repeat (refine And.intro (by first | rfl | omega) ?_; conv => whnf)
    rw [← hF]
    repeat' (first | exact trivial | exact rfl | (refine And.intro ?_ ?_) | ((conv => whnf); done) | ((conv => whnf); (first | rfl | (refine congrArg (fun b => T.v (Value.bool b)) ?_; first | rfl | exact (decide_eq_true (by omega)).symm | exact (decide_eq_false (by omega)).symm | exact decide_eq_decide.2 (by omega)) | (refine congrArg (fun b => T.v (Value.int _ b)) ?_; first | rfl | omega) | omega)) | (first | rfl | (refine congrArg (fun b => T.v (Value.bool b)) ?_; first | rfl | exact (decide_eq_true (by omega)).symm | exact (decide_eq_false (by omega)).symm | exact decide_eq_decide.2 (by omega)) | (refine congrArg (fun b => T.v (Value.int _ b)) ?_; first | rfl | omega) | omega))
noncomputable def eFind : Entry := ⟨123, 4, fun l => match l with | [.agg [.fl [.u64] m ws, .v (.int .i64 n), .v (.int .i64 w)], .v (.int .u64 key)] => some (some ((w = 1 ∨ w = 2) ∧ 0 < n ∧ n ≤ 1024 ∧ (m : Int) = n * w), .v (.int .i64 (findF sP n.toNat (recs n.toNat w.toNat ws) key n.toNat (sP.hm n.toNat key))), []) | _ => none⟩
theorem eFind_ok : eFind.ok Tryz.prog glM := ⟨Am.enters_of Tryz.func123 (by kernel_rfl) (by kernel_rfl), by
  intro args c t bs h hc
  simp only [eFind] at h
  split at h <;> cases h
  replace hc := hc _ rfl
  exact (by obtain ⟨h1, h2, h4, h5⟩ := hc; obtain ⟨n, rfl⟩ := Int.eq_ofNat_of_zero_le (Int.le_of_lt h2); rcases h1 with rfl | rfl; exact find_pure n 1 _ _ _ (.inl rfl) (by omega) (by omega) (by omega); exact find_pure n 2 _ _ _ (.inr rfl) (by omega) (by omega) (by omega))⟩
/-! ### which words may be a table's -/
def okW (w : Int) (m : Nat) : Prop := (w = 1 ∨ w = 2) ∧ m % w.toNat = 0
instance (w : Int) (m : Nat) : Decidable (okW w m) := by unfold okW; exact inferInstance
def okN (w : Int) (m : Nat) : Prop := okW w m ∧ 1 ≤ m / w.toNat ∧ m / w.toNat ≤ 1024
instance (w : Int) (m : Nat) : Decidable (okN w m) := by unfold okN; exact inferInstance
def shW (w : Int) (ws : List Int) : List Int := if okW w ws.length then ws else []
def shN (w : Int) (ws : List Int) : Nat := if okW w ws.length then ws.length / w.toNat else 0
def shK (w : Int) (ws : List Int) : Int := if okW w ws.length then w else 0
noncomputable def ctxSh (P : Program) : Ctx := ctx P glM [eClone] [] (noEq P) [] (fun _ h => by cases h)
theorem ctxSh_good : (ctxSh Tryz.prog).good := ctx_good (by kernel_rfl) (AllOk.mem ⟨entry_lift eClone_ok, trivial⟩) glM_two
theorem shX {w : Int} {ws : List Int} (h : ¬ okW w ws.length) : shW w ws = [] ∧ shN w ws = 0 ∧ shK w ws = 0 ∧ decide (okN w ws.length) = false := by
  unfold shW shN shK
  rw [if_neg h, if_neg h, if_neg h]
  exact ⟨rfl, rfl, rfl, decide_eq_false (fun q => h q.1)⟩
theorem shY {w : Int} {ws : List Int} (h : okW w ws.length) : shW w ws = ws ∧ shN w ws = ws.length / w.toNat ∧ shK w ws = w ∧ decide (okN w ws.length) = decide (1 ≤ ws.length / w.toNat ∧ ws.length / w.toNat ≤ 1024) := by
  unfold shW shN shK
  rw [if_pos h, if_pos h, if_pos h]
  exact ⟨rfl, rfl, rfl, decide_eq_decide.2 ⟨fun q => q.2, fun q => ⟨h, q⟩⟩⟩
set_option maxRecDepth 100000 in
theorem shapedX_pure (m : Nat) (ws : List Int) (w : Int) (hm : m ≤ 1000000) (hx : w ≠ 1 ∧ w ≠ 2) : Pure Tryz.prog glM 144 [.fl [.u64] m ws, .v (.int .i64 w)] (.tup [.agg [.ow 0 1 (shW w ws).length, .v (.int .i64 (shN w ws)), .v (.int .i64 (shK w ws))], .v (.bool (decide (okN w ws.length)))]) [(0, .fl [.u64] (shW w ws))] := by
  obtain ⟨e1, e2, e3, e4⟩ := shX (w := w) (ws := ws) (fun h => by rcases h.1 with q | q <;> omega)
  rw [e1, e2, e3, e4]
  refine pure_of (C := ctxSh Tryz.prog) ctxSh_good Tryz.func144 (c := bodyOf Tryz.f144) (by rfl) (Nat.le_of_ble_eq_true (by rfl)) 4 0 [0, 1, 4, 5, 6, 19] ?_
  conv => whnf
  repeat' (first | (refine ifB_t (by assumption) ?_; conv => whnf) | (refine ifB_f (by assumption) ?_; conv => whnf) | (refine ifB_dec (fun h => ?_) (fun h => ?_) <;> (first | (exfalso; omega) | (conv => whnf))) | (refine ifB_eq (fun h => ?_) (fun h => ?_) <;> (first | (exfalso; omega) | (conv => whnf))) | (refine ifB_ne (fun h => ?_) (fun h => ?_) <;> (first | (exfalso; omega) | (conv => whnf))) | (refine ifB_not ?_; conv => whnf) | (refine ifB_and ?_; conv => whnf) | (refine ifB_or ?_; conv => whnf) | (refine And.intro ?_ ?_; (first | omega | assumption | (exact allU_getD (by assumption) _) | (simp only [cutL]; omega) | (refine And.intro ?_ ?_ <;> first | assumption | exact allU_getD (by assumption) _) | (simp only [cutL, IntKind.wrap_u64, IntKind.wrap_i64] at *; omega) | decide); conv => whnf))
  repeat' (first | exact trivial | exact rfl | (refine And.intro ?_ ?_) | ((conv => whnf); done) | ((conv => whnf); (first | rfl | (refine congrArg (fun b => T.v (Value.bool b)) ?_; first | rfl | exact (decide_eq_true (by omega)).symm | exact (decide_eq_false (by omega)).symm | exact decide_eq_decide.2 (by omega)) | (refine congrArg (fun b => T.v (Value.int _ b)) ?_; first | rfl | omega) | omega)) | (first | rfl | (refine congrArg (fun b => T.v (Value.bool b)) ?_; first | rfl | exact (decide_eq_true (by omega)).symm | exact (decide_eq_false (by omega)).symm | exact decide_eq_decide.2 (by omega)) | (refine congrArg (fun b => T.v (Value.int _ b)) ?_; first | rfl | omega) | omega))
set_option maxRecDepth 100000 in
theorem shaped1_pure (m : Nat) (ws : List Int) (hm : m ≤ 1000000) : Pure Tryz.prog glM 144 [.fl [.u64] m ws, .v (.int .i64 1)] (.tup [.agg [.ow 0 1 (shW 1 ws).length, .v (.int .i64 (shN 1 ws)), .v (.int .i64 (shK 1 ws))], .v (.bool (decide (okN 1 ws.length)))]) [(0, .fl [.u64] (shW 1 ws))] := by
  refine pure_wf fun hw => ?_
  obtain ⟨⟨w1, w2⟩, -⟩ := hw
  simp only [List.length_cons, List.length_nil, Nat.zero_add, Nat.mul_one] at w1
  obtain ⟨e1, e2, e3, e4⟩ := shY (w := 1) (ws := ws) ⟨.inl rfl, Nat.mod_one _⟩
  rw [e1, e2, e3, e4, w1, show m / Int.toNat 1 = m from Nat.div_one m]
  have d1 : (m : Int).tmod 1 = 0 := Int.tmod_one _
  have d2 : IntKind.i64.wrap ((m : Int).tdiv 1) = m := by rw [Int.tdiv_one]; exact wrap64 (by omega) (by omega)
  refine pure_of (C := ctxSh Tryz.prog) ctxSh_good Tryz.func144 (c := bodyOf Tryz.f144) (by rfl) (Nat.le_of_ble_eq_true (by rfl)) 4 0 [0, 1, 4, 5, 6, 19] ?_
  conv => whnf
  rw [d1]
  repeat' (first | (refine ifB_t (by assumption) ?_; conv => whnf) | (refine ifB_f (by assumption) ?_; conv => whnf) | (refine ifB_dec (fun h => ?_) (fun h => ?_) <;> (first | (exfalso; omega) | (conv => whnf))) | (refine ifB_eq (fun h => ?_) (fun h => ?_) <;> (first | (exfalso; omega) | (conv => whnf))) | (refine ifB_ne (fun h => ?_) (fun h => ?_) <;> (first | (exfalso; omega) | (conv => whnf))) | (refine ifB_not ?_; conv => whnf) | (refine ifB_and ?_; conv => whnf) | (refine ifB_or ?_; conv => whnf) | (refine And.intro ?_ ?_; (first | omega | assumption | (exact allU_getD (by assumption) _) | (simp only [cutL]; omega) | (refine And.intro ?_ ?_ <;> first | assumption | exact allU_getD (by assumption) _) | (simp only [cutL, IntKind.wrap_u64, IntKind.wrap_i64] at *; omega) | decide); conv => whnf))
  · have : (bif true then decide (IntKind.i64.wrap ((m : Int).tdiv 1) ≤ 1024) else false) = decide (1 ≤ m ∧ m ≤ 1024) := by
      rw [d2]; exact decide_eq_decide.2 (by omega)
    rw [this, d2]
    repeat' (first | exact trivial | exact rfl | (refine And.intro ?_ ?_) | ((conv => whnf); done) | ((conv => whnf); (first | rfl | (refine congrArg (fun b => T.v (Value.bool b)) ?_; first | rfl | exact (decide_eq_true (by omega)).symm | exact (decide_eq_false (by omega)).symm | exact decide_eq_decide.2 (by omega)) | (refine congrArg (fun b => T.v (Value.int _ b)) ?_; first | rfl | omega) | omega)) | (first | rfl | (refine congrArg (fun b => T.v (Value.bool b)) ?_; first | rfl | exact (decide_eq_true (by omega)).symm | exact (decide_eq_false (by omega)).symm | exact decide_eq_decide.2 (by omega)) | (refine congrArg (fun b => T.v (Value.int _ b)) ?_; first | rfl | omega) | omega))
  · rw [d2, show decide (1 ≤ m ∧ m ≤ 1024) = false from decide_eq_false (by omega)]
    repeat' (first | exact trivial | exact rfl | (refine And.intro ?_ ?_) | ((conv => whnf); done) | ((conv => whnf); (first | rfl | (refine congrArg (fun b => T.v (Value.bool b)) ?_; first | rfl | exact (decide_eq_true (by omega)).symm | exact (decide_eq_false (by omega)).symm | exact decide_eq_decide.2 (by omega)) | (refine congrArg (fun b => T.v (Value.int _ b)) ?_; first | rfl | omega) | omega)) | (first | rfl | (refine congrArg (fun b => T.v (Value.bool b)) ?_; first | rfl | exact (decide_eq_true (by omega)).symm | exact (decide_eq_false (by omega)).symm | exact decide_eq_decide.2 (by omega)) | (refine congrArg (fun b => T.v (Value.int _ b)) ?_; first | rfl | omega) | omega))
set_option maxRecDepth 100000 in
theorem shaped2_pure (m : Nat) (ws : List Int) (hm : m ≤ 1000000) : Pure Tryz.prog glM 144 [.fl [.u64] m ws, .v (.int .i64 2)] (.tup [.agg [.ow 0 1 (shW 2 ws).length, .v (.int .i64 (shN 2 ws)), .v (.int .i64 (shK 2 ws))], .v (.bool (decide (okN 2 ws.length)))]) [(0, .fl [.u64] (shW 2 ws))] := by
  refine pure_wf fun hw => ?_
  obtain ⟨⟨w1, w2⟩, -⟩ := hw
  simp only [List.length_cons, List.length_nil, Nat.zero_add, Nat.mul_one] at w1
  have d1 : (m : Int).tmod 2 = ((m % 2 : Nat) : Int) := by rw [Int.tmod_eq_emod_of_nonneg (by omega)]; rfl
  have d2 : IntKind.i64.wrap ((m : Int).tdiv 2) = ((m / 2 : Nat) : Int) := by rw [Int.tdiv_eq_ediv_of_nonneg (by omega)]; exact wrap64 (by omega) (by omega)
  by_cases hp : m % 2 = 0
  · obtain ⟨e1, e2, e3, e4⟩ := shY (w := 2) (ws := ws) ⟨.inr rfl, by rw [w1]; exact hp⟩
    rw [e1, e2, e3, e4, w1, show m / Int.toNat 2 = m / 2 from rfl]
    refine pure_of (C := ctxSh Tryz.prog) ctxSh_good Tryz.func144 (c := bodyOf Tryz.f144) (by rfl) (Nat.le_of_ble_eq_true (by rfl)) 4 0 [0, 1, 4, 5, 6, 19] ?_
    conv => whnf
    rw [d1]
    repeat' (first | (refine ifB_t (by assumption) ?_; conv => whnf) | (refine ifB_f (by assumption) ?_; conv => whnf) | (refine ifB_dec (fun h => ?_) (fun h => ?_) <;> (first | (exfalso; omega) | (conv => whnf))) | (refine ifB_eq (fun h => ?_) (fun h => ?_) <;> (first | (exfalso; omega) | (conv => whnf))) | (refine ifB_ne (fun h => ?_) (fun h => ?_) <;> (first | (exfalso; omega) | (conv => whnf))) | (refine ifB_not ?_; conv => whnf) | (refine ifB_and ?_; conv => whnf) | (refine ifB_or ?_; conv => whnf) | (refine And.intro ?_ ?_; (first | omega | assumption | (exact allU_getD (by assumption) _) | (simp only [cutL]; omega) | (refine And.intro ?_ ?_ <;> first | assumption | exact allU_getD (by assumption) _) | (simp only [cutL, IntKind.wrap_u64, IntKind.wrap_i64] at *; omega) | decide); conv => whnf))
    · have : (bif true then decide (IntKind.i64.wrap ((m : Int).tdiv 2) ≤ 1024) else false) = decide (1 ≤ m / 2 ∧ m / 2 ≤ 1024) := by
        rw [d2]; exact decide_eq_decide.2 (by omega)
      rw [this, d2]
      repeat' (first | exact trivial | exact rfl | (refine And.intro ?_ ?_) | ((conv => whnf); done) | ((conv => whnf); (first | rfl | (refine congrArg (fun b => T.v (Value.bool b)) ?_; first | rfl | exact (decide_eq_true (by omega)).symm | exact (decide_eq_false (by omega)).symm | exact decide_eq_decide.2 (by omega)) | (refine congrArg (fun b => T.v (Value.int _ b)) ?_; first | rfl | omega) | omega)) | (first | rfl | (refine congrArg (fun b => T.v (Value.bool b)) ?_; first | rfl | exact (decide_eq_true (by omega)).symm | exact (decide_eq_false (by omega)).symm | exact decide_eq_decide.2 (by omega)) | (refine congrArg (fun b => T.v (Value.int _ b)) ?_; first | rfl | omega) | omega))
    · rw [d2, show decide (1 ≤ m / 2 ∧ m / 2 ≤ 1024) = false from decide_eq_false (by omega)]
      repeat' (first | exact trivial | exact rfl | (refine And.intro ?_ ?_) | ((conv => whnf); done) | ((conv => whnf); (first | rfl | (refine congrArg (fun b => T.v (Value.bool b)) ?_; first | rfl | exact (decide_eq_true (by omega)).symm | exact (decide_eq_false (by omega)).symm | exact decide_eq_decide.2 (by omega)) | (refine congrArg (fun b => T.v (Value.int _ b)) ?_; first | rfl | omega) | omega)) | (first | rfl | (refine congrArg (fun b => T.v (Value.bool b)) ?_; first | rfl | exact (decide_eq_true (by omega)).symm | exact (decide_eq_false (by omega)).symm | exact decide_eq_decide.2 (by omega)) | (refine congrArg (fun b => T.v (Value.int _ b)) ?_; first | rfl | omega) | omega))
  · obtain ⟨e1, e2, e3, e4⟩ := shX (w := 2) (ws := ws) (fun h => hp (by have := h.2; rw [w1] at this; exact this))
    rw [e1, e2, e3, e4]
    refine pure_of (C := ctxSh Tryz.prog) ctxSh_good Tryz.func144 (c := bodyOf Tryz.f144) (by rfl) (Nat.le_of_ble_eq_true (by rfl)) 4 0 [0, 1, 4, 5, 6, 19] ?_
    conv => whnf
    rw [d1]
    repeat' (first | (refine ifB_t (by assumption) ?_; conv => whnf) | (refine ifB_f (by assumption) ?_; conv => whnf) | (refine ifB_dec (fun h => ?_) (fun h => ?_) <;> (first | (exfalso; omega) | (conv => whnf))) | (refine ifB_eq (fun h => ?_) (fun h => ?_) <;> (first | (exfalso; omega) | (conv => whnf))) | (refine ifB_ne (fun h => ?_) (fun h => ?_) <;> (first | (exfalso; omega) | (conv => whnf))) | (refine ifB_not ?_; conv => whnf) | (refine ifB_and ?_; conv => whnf) | (refine ifB_or ?_; conv => whnf) | (refine And.intro ?_ ?_; (first | omega | assumption | (exact allU_getD (by assumption) _) | (simp only [cutL]; omega) | (refine And.intro ?_ ?_ <;> first | assumption | exact allU_getD (by assumption) _) | (simp only [cutL, IntKind.wrap_u64, IntKind.wrap_i64] at *; omega) | decide); conv => whnf))
    repeat' (first | exact trivial | exact rfl | (refine And.intro ?_ ?_) | ((conv => whnf); done) | ((conv => whnf); (first | rfl | (refine congrArg (fun b => T.v (Value.bool b)) ?_; first | rfl | exact (decide_eq_true (by omega)).symm | exact (decide_eq_false (by omega)).symm | exact decide_eq_decide.2 (by omega)) | (refine congrArg (fun b => T.v (Value.int _ b)) ?_; first | rfl | omega) | omega)) | (first | rfl | (refine congrArg (fun b => T.v (Value.bool b)) ?_; first | rfl | exact (decide_eq_true (by omega)).symm | exact (decide_eq_false (by omega)).symm | exact decide_eq_decide.2 (by omega)) | (refine congrArg (fun b => T.v (Value.int _ b)) ?_; first | rfl | omega) | omega))
theorem shaped_pure (m : Nat) (ws : List Int) (w : Int) (hm : m ≤ 1000000) : Pure Tryz.prog glM 144 [.fl [.u64] m ws, .v (.int .i64 w)] (.tup [.agg [.ow 0 1 (shW w ws).length, .v (.int .i64 (shN w ws)), .v (.int .i64 (shK w ws))], .v (.bool (decide (okN w ws.length)))]) [(0, .fl [.u64] (shW w ws))] := by
  by_cases h1 : w = 1
  · subst h1; exact shaped1_pure m ws hm
  · by_cases h2 : w = 2
    · subst h2; exact shaped2_pure m ws hm
    · exact shapedX_pure m ws w hm ⟨h1, h2⟩
noncomputable def eShaped : Entry := ⟨144, 4, fun l => match l with | [.fl [.u64] m ws, .v (.int .i64 w)] => some (some (m ≤ 1000000), .tup [.agg [.ow 0 1 (shW w ws).length, .v (.int .i64 (shN w ws)), .v (.int .i64 (shK w ws))], .v (.bool (decide (okN w ws.length)))], [(0, .fl [.u64] (shW w ws))]) | _ => none⟩
theorem eShaped_ok : eShaped.ok Tryz.prog glM := ⟨Am.enters_of Tryz.func144 (by kernel_rfl) (by kernel_rfl), by
  intro args c t bs h hc
  simp only [eShaped] at h
  split at h <;> cases h
  replace hc := hc _ rfl
  exact shaped_pure _ _ _ hc⟩
end Go.Proofs.YtnplgklnkcjmnaaGreatDoor.PrT
