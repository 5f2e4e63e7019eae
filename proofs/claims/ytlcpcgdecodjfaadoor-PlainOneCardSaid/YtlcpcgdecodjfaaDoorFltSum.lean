/- Plain laws of sums of words. -/
import Derived.Test.YtlcpcgdecodjfaaDoorFltRO
namespace Go.Proofs.YtlcpcgdecodjfaaDoor
set_option linter.unusedVariables false
set_option linter.unusedSimpArgs false
namespace Flt
theorem canon_word (s r : Nat) (hs : s ≤ 1) (h0 : 0 < r) (h1 : r ≤ infR) : canon (s * sgnW + r) = s * sgnW + r := by
  have e1 : infR = 9218868437227405312 := rfl
  have e2 : sgnW = 9223372036854775808 := rfl
  unfold canon mag
  rw [e1] at h1; rw [e1, e2]
  rw [if_neg (by omega), if_neg (by omega)]
theorem mag_canon_nan (a : Nat) : infR < mag (canon a) ↔ infR < mag a := by
  unfold canon
  by_cases h : infR < mag a
  · rw [if_pos h]; exact ⟨fun _ => h, fun _ => by decide⟩
  · rw [if_neg h]
    by_cases g : mag a = 0
    · rw [if_pos g]; exact ⟨fun k => absurd k (by decide), fun k => absurd k h⟩
    · rw [if_neg g]
theorem canon_self (a : Nat) (h : ¬ infR < mag a) (g : mag a ≠ 0) : canon a = a := by unfold canon; rw [if_neg h, if_neg g]
theorem sv_canon (a : Nat) (h : ¬ infR < mag a) : sv (canon a) = sv a ∧ mag (canon a) = mag a := by
  by_cases g : mag a = 0
  · have : canon a = 0 := by unfold canon; rw [if_neg h, if_pos g]
    rw [this, (sv_zero a).2 g, g]; decide
  · rw [canon_self a h g]; exact ⟨rfl, rfl⟩
theorem sum_canon (a b : Nat) : sum (canon a) (canon b) = sum a b := by
  unfold sum
  simp only [mag_canon_nan]
  by_cases hn : infR < mag a ∨ infR < mag b
  · rw [if_pos hn, if_pos hn]
  · rw [if_neg hn, if_neg hn]
    obtain ⟨a1, a2⟩ := sv_canon a (by omega)
    obtain ⟨b1, b2⟩ := sv_canon b (by omega)
    have hi : infR ≠ 0 := by decide
    rw [a2, b2]
    unfold sumFin
    rw [a1, b1]
    by_cases ha : mag a = infR
    · have ea : canon a = a := canon_self a (by omega) (by omega)
      by_cases hb : mag b = infR
      · have eb : canon b = b := canon_self b (by omega) (by omega)
        rw [ea, eb]
      · rw [ea, if_pos ha, if_pos ha, if_neg (fun g => hb g.1), if_neg (fun g => hb g.1)]
    · rw [if_neg ha, if_neg ha]
      by_cases hb : mag b = infR
      · have eb : canon b = b := canon_self b (by omega) (by omega)
        rw [eb]
      · rw [if_neg hb, if_neg hb]
theorem same_inf (a b : Nat) (ha : a < maxW) (hb : b < maxW) (h1 : mag a = infR) (h2 : mag b = infR) : neg a = neg b ↔ a = b := by
  constructor
  · intro h
    have self : ∀ w, w < maxW → w = (if neg w then sgnW else 0) + mag w := by
      intro w hw
      unfold neg mag
      have e1 : sgnW = 9223372036854775808 := rfl
      have e2 : maxW = 18446744073709551616 := rfl
      rw [e2] at hw; rw [e1]
      by_cases g : w / 9223372036854775808 % 2 = 1
      · simp [g]; omega
      · simp [g]; omega
    rw [self a ha, self b hb, h1, h2, h]
  · intro h; rw [h]
theorem sum_comm (a b : Nat) (ha : a < maxW) (hb : b < maxW) : sum a b = sum b a := by
  unfold sum
  by_cases hn : infR < mag a ∨ infR < mag b
  · rw [if_pos hn, if_pos (Or.comm.1 hn)]
  · rw [if_neg hn, if_neg (fun h => hn (Or.comm.1 h))]
    by_cases h1 : mag a = infR
    · by_cases h2 : mag b = infR
      · have := same_inf a b ha hb h1 h2
        simp only [h1, h2, if_true, true_and]
        by_cases e : a = b
        · subst e; rfl
        · have n1 : neg a ≠ neg b := fun h => e (this.1 h)
          simp [n1, Ne.symm n1]
      · simp [h1, h2]
    · by_cases h2 : mag b = infR
      · simp [h1, h2]
      · simp only [h1, h2, if_false]
        unfold sumFin
        rw [Int.add_comm]

/-- What the document makes of two canonical finite words, the first one's size not less, is their sum. -/
theorem made_sum (x y : Nat) (hx : x < maxW) (hy : y < maxW) (h1 : mag x < infR) (h2 : mag y < infR) (h : mag y ≤ mag x) :
    canon (if x / sgnW = y / sgnW then made (x / sgnW) (wholeE x) (wholeM x + RO (wholeM y) (wholeE x - wholeE y))
      else made (x / sgnW) (wholeE x) (wholeM x - RO (wholeM y) (wholeE x - wholeE y))) = sum x y := by
  have e2 : sgnW = 9223372036854775808 := rfl
  have e3 : maxW = 18446744073709551616 := rfl
  have sx : x / sgnW = if neg x then 1 else 0 := by
    unfold neg; rw [e2]; rw [e3] at hx
    by_cases g : x / 9223372036854775808 % 2 = 1
    · simp [g]; omega
    · simp [g]; omega
  have sy : y / sgnW = if neg y then 1 else 0 := by
    unfold neg; rw [e2]; rw [e3] at hy
    by_cases g : y / 9223372036854775808 % 2 = 1
    · simp [g]; omega
    · simp [g]; omega
  have hV : V (mag y) ≤ V (mag x) := by
    rcases Nat.lt_or_ge (mag y) (mag x) with g | g
    · exact Nat.le_of_lt (V_lt g)
    · rw [Nat.le_antisymm h g]; exact Nat.le_refl _
  have hc0 : canon 0 = 0 := by decide
  have close : ∀ s n, s ≤ 1 → canon (if n = 0 then 0 else s * sgnW + RN n) = if n = 0 then 0 else s * sgnW + RN n := by
    intro s n hs
    by_cases g : n = 0
    · rw [if_pos g, hc0]
    · rw [if_neg g, canon_word s _ hs (RN_pos n (by omega)) (RN_le n)]
  have hsum : sum x y = sumFin x y := by
    unfold sum; rw [if_neg (by omega), if_neg (by omega), if_neg (by omega)]
  rw [hsum, made_add _ _ _ h, made_sub _ _ _ h]
  have hs1 : x / sgnW ≤ 1 := by rw [sx]; split <;> omega
  unfold sumFin sv
  by_cases hs : x / sgnW = y / sgnW
  · rw [if_pos hs, close _ _ hs1]
    have hn : neg x = neg y := by
      rw [sx, sy] at hs
      cases h1 : neg x <;> cases h2 : neg y <;> rw [h1, h2] at hs <;> simp at hs <;> rfl
    rw [sx, ← hn]
    cases neg x
    · simp only [Bool.false_eq_true, if_false]
      rw [show ((V (mag x) : Nat) : Int) + (V (mag y) : Nat) = ((V (mag x) + V (mag y) : Nat) : Int) by omega]
      generalize V (mag x) + V (mag y) = t
      rw [Int.natAbs_natCast]
      by_cases g : t = 0
      · subst g; rfl
      · rw [if_neg g, if_neg (by omega), if_neg (by omega)]; omega
    · simp only [if_true]
      rw [show -((V (mag x) : Nat) : Int) + -((V (mag y) : Nat) : Int) = -((V (mag x) + V (mag y) : Nat) : Int) by omega]
      generalize V (mag x) + V (mag y) = t
      rw [Int.natAbs_neg, Int.natAbs_natCast]
      by_cases g : t = 0
      · subst g; rfl
      · rw [if_neg g, if_neg (by omega), if_pos (by omega)]; omega
  · rw [if_neg hs, close _ _ hs1]
    have hn : neg y = !neg x := by
      rw [sx, sy] at hs
      cases h1 : neg x <;> cases h2 : neg y <;> rw [h1, h2] at hs <;> simp at hs <;> rfl
    rw [sx, hn]
    cases neg x
    · simp only [Bool.false_eq_true, if_false, Bool.not_false, if_true]
      rw [show ((V (mag x) : Nat) : Int) + -((V (mag y) : Nat) : Int) = ((V (mag x) - V (mag y) : Nat) : Int) by omega]
      generalize V (mag x) - V (mag y) = t
      rw [Int.natAbs_natCast]
      by_cases g : t = 0
      · subst g; rfl
      · rw [if_neg g, if_neg (by omega), if_neg (by omega)]; omega
    · simp only [if_true, Bool.not_true, Bool.false_eq_true, if_false]
      rw [show -((V (mag x) : Nat) : Int) + ((V (mag y) : Nat) : Int) = -((V (mag x) - V (mag y) : Nat) : Int) by omega]
      generalize V (mag x) - V (mag y) = t
      rw [Int.natAbs_neg, Int.natAbs_natCast]
      by_cases g : t = 0
      · subst g; rfl
      · rw [if_neg g, if_neg (by omega), if_pos (by omega)]; omega
end Flt
end Go.Proofs.YtlcpcgdecodjfaaDoor
