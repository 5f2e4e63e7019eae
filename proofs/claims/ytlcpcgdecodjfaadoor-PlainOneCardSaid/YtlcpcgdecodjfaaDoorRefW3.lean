/- The walk of the document's Sum: it is the sum that the floats' own addition tells. -/
import Derived.Test.YtlcpcgdecodjfaaDoorRefW2
import Derived.Test.YtlcpcgdecodjfaaDoorFltP
namespace Go.Proofs.YtlcpcgdecodjfaaDoor
open Go.RowKit
set_option linter.unusedVariables false
set_option linter.unusedSimpArgs false


theorem rshifted_int (m b : Int) (h0 : 0 ≤ m) (hm : m < 18446744073709551616) (hb : 0 ≤ b) (hb2 : b ≤ 4096) (w : World) :
    Calls Tryd.prog 126 #[.int .u64 m, .int .i64 b] w fun e w' => e = .returned (.int .u64 (Flt.RO m.toNat b.toNat : Nat)) ∧ w = w' := by
  obtain ⟨n, rfl⟩ := Int.eq_ofNat_of_zero_le h0
  rw [Int.toNat_natCast]
  exact rshifted_any n b (by omega) hb hb2 w

/-- What is known of a finite word's parts. -/
theorem whole_bounds {x : Int} (hx : U64 x) (hf : Flt.mag x.toNat < Flt.infR) : ∃ e m : Int, ((Flt.wholeE x.toNat : Nat) : Int) = e ∧ ((Flt.wholeM x.toNat : Nat) : Int) = m ∧
    1 ≤ e ∧ e ≤ 2046 ∧ 0 ≤ m ∧ m < 72057594037927936 := by
  refine ⟨_, _, rfl, rfl, ?_⟩
  obtain ⟨h1, h2⟩ := whole_eq hx
  rw [h1, h2]
  have e1 : Flt.infR = 9218868437227405312 := rfl
  have e2 : Flt.sgnW = 9223372036854775808 := rfl
  unfold Flt.mag at hf
  rw [e1, e2] at hf
  unfold U64 at hx
  split <;> omega

theorem top_bits {x y : Int} (hx : 0 ≤ x) (hy : 0 ≤ y) : x / 9223372036854775808 = y / 9223372036854775808 ↔ x.toNat / 9223372036854775808 = y.toNat / 9223372036854775808 := by omega

theorem made_sum_int {x y e m f n r : Int} (hx : U64 x) (hy : U64 y) (h1 : Flt.mag x.toNat < Flt.infR) (h2 : Flt.mag y.toNat < Flt.infR) (h : y % 9223372036854775808 ≤ x % 9223372036854775808)
    (he : ((Flt.wholeE x.toNat : Nat) : Int) = e) (hm : ((Flt.wholeM x.toNat : Nat) : Int) = m) (hf : ((Flt.wholeE y.toNat : Nat) : Int) = f) (hn : ((Flt.wholeM y.toNat : Nat) : Int) = n)
    (hr : ((Flt.RO n.toNat (e - f).toNat : Nat) : Int) = r) :
    (x / 9223372036854775808 = y / 9223372036854775808 → iCanon ((Flt.made (x / 9223372036854775808).toNat e.toNat (m + r).toNat : Nat) : Int) = iSum x y) ∧
    (¬ x / 9223372036854775808 = y / 9223372036854775808 → iCanon ((Flt.made (x / 9223372036854775808).toNat e.toNat (m - r).toNat : Nat) : Int) = iSum x y) := by
  have hx' := u64_nat hx
  have hy' := u64_nat hy
  unfold U64 at hx hy
  have e2 : Flt.sgnW = 9223372036854775808 := rfl
  have key := Flt.made_sum x.toNat y.toNat hx' hy' h1 h2 (by unfold Flt.mag; rw [e2]; omega)
  have a1 : (x / 9223372036854775808).toNat = x.toNat / Flt.sgnW := by rw [e2]; omega
  have a2 : e.toNat = Flt.wholeE x.toNat := by omega
  have a3 : n.toNat = Flt.wholeM y.toNat := by omega
  have a4 : (e - f).toNat = Flt.wholeE x.toNat - Flt.wholeE y.toNat := by omega
  rw [a3, a4] at hr
  generalize Flt.RO (Flt.wholeM y.toNat) (Flt.wholeE x.toNat - Flt.wholeE y.toNat) = R at hr key
  have a5 : (m + r).toNat = Flt.wholeM x.toNat + R := by omega
  have a6 : (m - r).toNat = Flt.wholeM x.toNat - R := by omega
  have a7 : x / 9223372036854775808 = y / 9223372036854775808 ↔ x.toNat / Flt.sgnW = y.toNat / Flt.sgnW := top_bits hx.1 hy.1
  unfold iCanon iSum
  rw [Int.toNat_natCast, Int.toNat_natCast, a1, a2, a5, a6, a7]
  constructor
  · intro g; rw [if_pos g] at key; rw [key]
  · intro g; rw [if_neg g] at key; rw [key]

theorem shifted_bounds {n r : Int} {k : Nat} (h0 : 0 ≤ n) (hn : n < 72057594037927936) (hr : ((Flt.RO n.toNat k : Nat) : Int) = r) : 0 ≤ r ∧ r < 72057594037927936 := by
  have h1 := (Flt.RO_lt n.toNat k 36028797018963968).2 (Nat.lt_of_le_of_lt (Nat.div_le_self _ _) (by omega))
  omega
/-- Of two that fall in size the shifted one is no greater. -/
theorem shifted_le {x y e m f n r : Int} (hx : U64 x) (hy : U64 y) (h1 : Flt.mag x.toNat < Flt.infR) (h2 : Flt.mag y.toNat < Flt.infR) (h : y % 9223372036854775808 ≤ x % 9223372036854775808)
    (he : ((Flt.wholeE x.toNat : Nat) : Int) = e) (hm : ((Flt.wholeM x.toNat : Nat) : Int) = m) (hf : ((Flt.wholeE y.toNat : Nat) : Int) = f) (hn : ((Flt.wholeM y.toNat : Nat) : Int) = n)
    (hr : ((Flt.RO n.toNat (e - f).toNat : Nat) : Int) = r) : f ≤ e ∧ r ≤ m := by
  have e2 : Flt.sgnW = 9223372036854775808 := rfl
  unfold U64 at hx hy
  have hmag : Flt.mag y.toNat ≤ Flt.mag x.toNat := by unfold Flt.mag; rw [e2]; omega
  have g1 := Flt.wholeE_mono hmag
  refine ⟨by omega, ?_⟩
  have a3 : n.toNat = Flt.wholeM y.toNat := by omega
  have a4 : (e - f).toNat = Flt.wholeE x.toNat - Flt.wholeE y.toNat := by omega
  rw [a3, a4] at hr
  have hV : Flt.V (Flt.mag y.toNat) ≤ Flt.V (Flt.mag x.toNat) := by
    rcases Nat.lt_or_ge (Flt.mag y.toNat) (Flt.mag x.toNat) with g | g
    · exact Nat.le_of_lt (Flt.V_lt g)
    · rw [Nat.le_antisymm hmag g]; exact Nat.le_refl _
  have pb := Flt.wholeE_pos y.toNat
  obtain ⟨d, hd⟩ : ∃ d, Flt.wholeE x.toNat = d + Flt.wholeE y.toNat := ⟨Flt.wholeE x.toNat - Flt.wholeE y.toNat, by omega⟩
  rw [show Flt.wholeE x.toNat - Flt.wholeE y.toNat = d by omega] at hr
  have hle : 8 * Flt.mant y.toNat ≤ 8 * Flt.mant x.toNat * 2 ^ d := by
    rw [Flt.V_mant, Flt.V_mant, hd, show d + Flt.wholeE y.toNat - 1 = d + (Flt.wholeE y.toNat - 1) by omega, Nat.pow_add, ← Nat.mul_assoc] at hV
    have := Nat.le_of_mul_le_mul_right hV (Flt.pow_pos _)
    rw [Nat.mul_assoc]; omega
  have hq : Flt.wholeM y.toNat / 2 ^ d ≤ Flt.wholeM x.toNat := by
    rw [Flt.wholeM_eq, Flt.wholeM_eq]
    exact Nat.div_le_of_le_mul (by rw [Nat.mul_comm (2 ^ d)]; exact hle)
  have h8 := Flt.wholeM_eq x.toNat
  -- both even: 'RO' may add one only where something is left
  have : Flt.RO (Flt.wholeM y.toNat) d ≤ Flt.wholeM x.toNat := by
    rcases Nat.lt_or_ge (Flt.wholeM y.toNat / 2 ^ d) (Flt.wholeM x.toNat) with g | g
    · have := (Flt.RO_lt (Flt.wholeM y.toNat) d (4 * Flt.mant x.toNat)).2 (by omega)
      omega
    · have e : Flt.wholeM y.toNat / 2 ^ d = Flt.wholeM x.toNat := by omega
      have hdm := Nat.div_add_mod (Flt.wholeM y.toNat) (2 ^ d)
      have hz : Flt.wholeM y.toNat % 2 ^ d = 0 := by
        rw [e, Nat.mul_comm] at hdm
        rw [← Flt.wholeM_eq, ← Flt.wholeM_eq] at hle
        omega
      unfold Flt.RO; rw [if_pos hz, e]; exact Nat.le_refl _
  omega

theorem sum_nan {a b : Int} (h : iKind (iCanon a) = 3 ∨ iKind (iCanon b) = 3) : (9221120237041090561 : Int) = iSum a b := by
  rw [kind3, kind3] at h
  unfold iCanon at h; rw [Int.toNat_natCast, Int.toNat_natCast, Flt.mag_canon_nan, Flt.mag_canon_nan] at h
  unfold iSum Flt.sum; rw [if_pos h]; rfl
theorem sum_via {a b : Int} : iSum (iCanon a) (iCanon b) = iSum a b := by
  unfold iSum iCanon; rw [Int.toNat_natCast, Int.toNat_natCast, Flt.sum_canon]
theorem sum_swap {a b : Int} (ha : U64 a) (hb : U64 b) : iSum a b = iSum b a := by
  unfold iSum; rw [Flt.sum_comm _ _ (u64_nat ha) (u64_nat hb)]
theorem sum_inf {x y : Int} (hx : U64 x) (hy : U64 y) (h1 : ¬ iKind x = 3) (h2 : ¬ iKind y = 3) :
    (iKind x = 2 → iKind y = 2 → ¬ x = y → (9221120237041090561 : Int) = iSum x y) ∧ (iKind x = 2 → (iKind y = 2 → x = y) → x = iSum x y) ∧ (¬ iKind x = 2 → iKind y = 2 → y = iSum x y) := by
  have hx' := u64_nat hx
  have hy' := u64_nat hy
  rw [kind3] at h1 h2
  rw [kind2, kind2]
  unfold U64 at hx hy
  have e : iSum x y = (Flt.sum x.toNat y.toNat : Nat) := rfl
  rw [e]
  unfold Flt.sum
  rw [if_neg (by omega)]
  refine ⟨?_, ?_, ?_⟩
  · intro g1 g2 g3
    have := (Flt.same_inf _ _ hx' hy' g1 g2)
    rw [if_pos g1, if_pos ⟨g2, fun g => g3 (by have := this.1 g; omega)⟩]; rfl
  · intro g1 g2
    rw [if_pos g1, if_neg (fun g => g.2 (by rw [g2 g.1]))]; omega
  · intro g1 g2
    rw [if_neg g1, if_pos g2]; omega

theorem made_u64 {s e m : Int} (h0 : 0 ≤ s) (h1 : s ≤ 1) (h2 : 1 ≤ e) : U64 ((Flt.made s.toNat e.toNat m.toNat : Nat) : Int) := by
  have e1 : Flt.infR = 9218868437227405312 := rfl
  have e2 : Flt.sgnW = 9223372036854775808 := rfl
  unfold U64 Flt.made
  refine ⟨by omega, ?_⟩
  split
  · decide
  · unfold Flt.fin
    rw [e1, e2]
    generalize (_ : Nat) + Flt.cut _ _ = t
    omega

set_option maxRecDepth 10000 in
set_option maxHeartbeats 1000000 in
theorem rsum_canon (a b x y : Int) (hx : U64 x) (hy : U64 y) (ha : U64 a) (hb : U64 b) (cx : Hid (iCanon a = x)) (cy : Hid (iCanon b = y)) (w : World) :
    Calls Tryd.prog 107 #[.int .u64 a, .int .u64 b] w fun e w' => e = .returned (.int .u64 (iSum x y)) ∧ w = w' := by
  go_enter Tryd.func107, Tryd.ntmps107
  go_wp2_with fail
  refine (rcanon_any a ha _).mono ?_
  rintro e w' ⟨rfl, rfl⟩
  rw [cx.out]
  go_wp2_with fail
  refine (rcanon_any b hb _).mono ?_
  rintro e w' ⟨rfl, rfl⟩
  rw [cy.out]
  by_cases k3x : iKind x = 3
  · have R : Hid (9221120237041090561 = iSum x y) := by
      show _ = _
      have := @sum_nan a b (Or.inl (by rw [cx.out]; exact k3x))
      rw [this, ← @sum_via a b, cx.out, cy.out]
    go_wp2_with (go_at_call 62; refine (rkind_any _ (by assumption) _).mono ?_; rintro e w' ⟨rfl, rfl⟩)
    all_goals (go_ret; exact ⟨ret_int R.out, rfl⟩)
  by_cases k3y : iKind y = 3
  · have R : Hid (9221120237041090561 = iSum x y) := by
      show _ = _
      have := @sum_nan a b (Or.inr (by rw [cy.out]; exact k3y))
      rw [this, ← @sum_via a b, cx.out, cy.out]
    go_wp2_with (go_at_call 62; refine (rkind_any _ (by assumption) _).mono ?_; rintro e w' ⟨rfl, rfl⟩)
    all_goals (go_ret; exact ⟨ret_int R.out, rfl⟩)
  have S := sum_inf hx hy k3x k3y
  have HS : Hid _ := S
  clear S
  have b3x : (iKind x == 3) = false := beq_eq_false_iff_ne.2 k3x
  have b3y : (iKind y == 3) = false := beq_eq_false_iff_ne.2 k3y
  by_cases k2x : iKind x = 2
  · by_cases k2y : iKind y = 2
    · by_cases exy : x = y
      · subst exy
        have R : Hid (x = iSum x x) := HS.out.2.1 k2x (fun _ => rfl)
        go_wp2_with (go_at_call 62; refine (rkind_any _ (by assumption) _).mono ?_; rintro e w' ⟨rfl, rfl⟩)
        all_goals (go_ret; exact ⟨ret_int R.out, rfl⟩)
      · have R : Hid _ := HS.out.1 k2x k2y exy
        have n2 : (x != y) = true := bne_iff_ne.2 exy
        go_wp2_with (go_at_call 62; refine (rkind_any _ (by assumption) _).mono ?_; rintro e w' ⟨rfl, rfl⟩)
        all_goals (go_ret; exact ⟨ret_int R.out, rfl⟩)
    · have R : Hid (x = iSum x y) := HS.out.2.1 k2x (fun h => absurd h k2y)
      have b2y : (iKind y == 2) = false := beq_eq_false_iff_ne.2 k2y
      go_wp2_with (go_at_call 62; refine (rkind_any _ (by assumption) _).mono ?_; rintro e w' ⟨rfl, rfl⟩)
      all_goals (go_ret; exact ⟨ret_int R.out, rfl⟩)
  have b2x : (iKind x == 2) = false := beq_eq_false_iff_ne.2 k2x
  by_cases k2y : iKind y = 2
  · have R : Hid (y = iSum x y) := HS.out.2.2 k2x k2y
    go_wp2_with (go_at_call 62; refine (rkind_any _ (by assumption) _).mono ?_; rintro e w' ⟨rfl, rfl⟩)
    all_goals (go_ret; exact ⟨ret_int R.out, rfl⟩)
  have b2y : (iKind y == 2) = false := beq_eq_false_iff_ne.2 k2y
  have fx : Flt.mag x.toNat < Flt.infR := by rw [kind3] at k3x; rw [kind2] at k2x; omega
  have fy : Flt.mag y.toNat < Flt.infR := by rw [kind3] at k3y; rw [kind2] at k2y; omega
  clear HS
  by_cases hlt : x % 9223372036854775808 < y % 9223372036854775808
  · have HLT : Hid (x % 9223372036854775808 < y % 9223372036854775808) := hlt
    have hd : decide (x % 9223372036854775808 < y % 9223372036854775808) = true := decide_eq_true hlt
    clear hlt
    go_wp2_with (first | (go_at_call 62; refine (rkind_any _ (by assumption) _).mono ?_; rintro e w' ⟨rfl, rfl⟩) | (go_at_call 124; refine (rlesser_any x y hx hy _).mono ?_; rintro e w' ⟨rfl, rfl⟩))
    clear k3x k3y k2x k2y b3x b3y b2x b2y hd
    · -- the greater one: y
      obtain ⟨e, m, he, hm, e1, e2, m1, m2⟩ := whole_bounds hy fy
      obtain ⟨f, n, hf, hn, f1, f2, n1, n2⟩ := whole_bounds hx fx
      have hle : x % 9223372036854775808 ≤ y % 9223372036854775808 := by have := HLT.out; omega
      have LE : Hid (x % 9223372036854775808 ≤ y % 9223372036854775808) := hle
      clear hle
      have HE : Hid _ := he
      have HM : Hid _ := hm
      have HF : Hid _ := hf
      have HN : Hid _ := hn
      have fe := (shifted_le hy hx fy fx LE.out he hm hf hn rfl).1
      clear he hm hf hn
      refine (rwhole_any y hy _).mono ?_
      rintro e' w' ⟨rfl, rfl⟩
      rw [HE.out, HM.out]
      go_wp2_with fail
      refine (rwhole_any x hx _).mono ?_
      rintro e' w' ⟨rfl, rfl⟩
      rw [HF.out, HN.out]
      go_wp2_with fail
      refine (rshifted_int n _ n1 (by omega) (by omega) (by omega) _).mono ?_
      rintro e' w' ⟨rfl, rfl⟩
      obtain ⟨r, hr⟩ : ∃ r : Int, ((Flt.RO n.toNat (e - f).toNat : Nat) : Int) = r := ⟨_, rfl⟩
      have hb := shifted_bounds n1 n2 hr
      have hl := (shifted_le hy hx fy fx LE.out HE.out HM.out HF.out HN.out hr).2
      have HS : Hid _ := made_sum_int hy hx fy fx LE.out HE.out HM.out HF.out HN.out hr
      rw [hr]
      clear hr
      obtain ⟨r0, r1⟩ := hb
      obtain ⟨x0, x1⟩ := id hy
      obtain ⟨y0, y1⟩ := id hx
      by_cases hs : y / 9223372036854775808 = x / 9223372036854775808
      · have R := HS.out.1 hs
        have HR : Hid _ := R
        have hs' : (y / 9223372036854775808 == x / 9223372036854775808) = true := by rw [hs]; exact beq_self_eq_true _
        clear R hs HS
        go_wp2_with fail
        refine (rmade_any _ _ _ (by omega) (by omega) e1 e2 (by omega) (by omega) _).mono ?_
        rintro e' w' ⟨rfl, rfl⟩
        go_wp2_with fail
        refine (rcanon_any _ (made_u64 (by omega) (by omega) (by omega)) _).mono ?_
        rintro e' w' ⟨rfl, rfl⟩
        go_wp2_with fail
        go_ret; exact ⟨ret_int (by rw [HR.out, sum_swap hy hx]), rfl⟩
      · have R := HS.out.2 hs
        have HR : Hid _ := R
        have hs' : (y / 9223372036854775808 == x / 9223372036854775808) = false := by rw [beq_eq_false_iff_ne]; exact hs
        clear R hs HS
        go_wp2_with fail
        refine (rmade_any _ _ _ (by omega) (by omega) e1 e2 (by omega) (by omega) _).mono ?_
        rintro e' w' ⟨rfl, rfl⟩
        go_wp2_with fail
        refine (rcanon_any _ (made_u64 (by omega) (by omega) (by omega)) _).mono ?_
        rintro e' w' ⟨rfl, rfl⟩
        go_wp2_with fail
        go_ret; exact ⟨ret_int (by rw [HR.out, sum_swap hy hx]), rfl⟩
  · have HLT : Hid (¬ x % 9223372036854775808 < y % 9223372036854775808) := hlt
    have hd : decide (x % 9223372036854775808 < y % 9223372036854775808) = false := decide_eq_false hlt
    clear hlt
    go_wp2_with (first | (go_at_call 62; refine (rkind_any _ (by assumption) _).mono ?_; rintro e w' ⟨rfl, rfl⟩) | (go_at_call 124; refine (rlesser_any x y hx hy _).mono ?_; rintro e w' ⟨rfl, rfl⟩))
    clear k3x k3y k2x k2y b3x b3y b2x b2y hd
    · -- the greater one: x
      obtain ⟨e, m, he, hm, e1, e2, m1, m2⟩ := whole_bounds hx fx
      obtain ⟨f, n, hf, hn, f1, f2, n1, n2⟩ := whole_bounds hy fy
      have hle : y % 9223372036854775808 ≤ x % 9223372036854775808 := by have := HLT.out; omega
      have LE : Hid (y % 9223372036854775808 ≤ x % 9223372036854775808) := hle
      clear hle
      have HE : Hid _ := he
      have HM : Hid _ := hm
      have HF : Hid _ := hf
      have HN : Hid _ := hn
      have fe := (shifted_le hx hy fx fy LE.out he hm hf hn rfl).1
      clear he hm hf hn
      refine (rwhole_any x hx _).mono ?_
      rintro e' w' ⟨rfl, rfl⟩
      rw [HE.out, HM.out]
      go_wp2_with fail
      refine (rwhole_any y hy _).mono ?_
      rintro e' w' ⟨rfl, rfl⟩
      rw [HF.out, HN.out]
      go_wp2_with fail
      refine (rshifted_int n _ n1 (by omega) (by omega) (by omega) _).mono ?_
      rintro e' w' ⟨rfl, rfl⟩
      obtain ⟨r, hr⟩ : ∃ r : Int, ((Flt.RO n.toNat (e - f).toNat : Nat) : Int) = r := ⟨_, rfl⟩
      have hb := shifted_bounds n1 n2 hr
      have hl := (shifted_le hx hy fx fy LE.out HE.out HM.out HF.out HN.out hr).2
      have HS : Hid _ := made_sum_int hx hy fx fy LE.out HE.out HM.out HF.out HN.out hr
      rw [hr]
      clear hr
      obtain ⟨r0, r1⟩ := hb
      obtain ⟨x0, x1⟩ := id hx
      obtain ⟨y0, y1⟩ := id hy
      by_cases hs : x / 9223372036854775808 = y / 9223372036854775808
      · have R := HS.out.1 hs
        have HR : Hid _ := R
        have hs' : (x / 9223372036854775808 == y / 9223372036854775808) = true := by rw [hs]; exact beq_self_eq_true _
        clear R hs HS
        go_wp2_with fail
        refine (rmade_any _ _ _ (by omega) (by omega) e1 e2 (by omega) (by omega) _).mono ?_
        rintro e' w' ⟨rfl, rfl⟩
        go_wp2_with fail
        refine (rcanon_any _ (made_u64 (by omega) (by omega) (by omega)) _).mono ?_
        rintro e' w' ⟨rfl, rfl⟩
        go_wp2_with fail
        go_ret; exact ⟨ret_int (by rw [HR.out]), rfl⟩
      · have R := HS.out.2 hs
        have HR : Hid _ := R
        have hs' : (x / 9223372036854775808 == y / 9223372036854775808) = false := by rw [beq_eq_false_iff_ne]; exact hs
        clear R hs HS
        go_wp2_with fail
        refine (rmade_any _ _ _ (by omega) (by omega) e1 e2 (by omega) (by omega) _).mono ?_
        rintro e' w' ⟨rfl, rfl⟩
        go_wp2_with fail
        refine (rcanon_any _ (made_u64 (by omega) (by omega) (by omega)) _).mono ?_
        rintro e' w' ⟨rfl, rfl⟩
        go_wp2_with fail
        go_ret; exact ⟨ret_int (by rw [HR.out]), rfl⟩

theorem rsum_any (a b : Int) (ha : U64 a) (hb : U64 b) (w : World) : Calls Tryd.prog 107 #[.int .u64 a, .int .u64 b] w fun e w' => e = .returned (.int .u64 (iSum a b)) ∧ w = w' := by
  have h := rsum_canon a b _ _ (u64_canon ha) (u64_canon hb) ha hb rfl rfl w
  rw [sum_via] at h
  exact h

end Go.Proofs.YtlcpcgdecodjfaaDoor
