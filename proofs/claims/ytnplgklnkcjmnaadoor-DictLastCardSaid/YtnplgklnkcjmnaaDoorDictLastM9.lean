/- Texts put together: Flt. -/
import Derived.Test.YtnplgklnkcjmnaaDoorDictLastM8
import Ieee.Arith
namespace Go.Proofs.YtnplgklnkcjmnaaDoor.Flt
set_option linter.unusedVariables false
set_option linter.unusedSimpArgs false

/-- 2^52. -/
def B : Nat := 4503599627370496
def infR : Nat := 9218868437227405312
def nanW : Nat := 9221120237041090561
def sgnW : Nat := 9223372036854775808
def maxW : Nat := 18446744073709551616

/-- A rung's magnitude, in units of 2^-1074. -/
def V (r : Nat) : Nat := if r < B then r else (B + r % B) * 2 ^ (r / B - 1)

def up (n l : Nat) : Nat := if 2 ^ l < 2 * (n % 2 ^ l) ∨ (2 ^ l = 2 * (n % 2 ^ l) ∧ n / 2 ^ l % 2 = 1) then 1 else 0
/-- n / 2^l, to the nearest, and to the even one. -/
def cut (n l : Nat) : Nat := n / 2 ^ l + up n l
/-- The rung nearest to a magnitude. -/
def RN (n : Nat) : Nat := min ((n.log2 - 52) * B + cut n (n.log2 - 52)) infR

theorem pow_pos (l : Nat) : 0 < 2 ^ l := Nat.two_pow_pos l

theorem cut_zero (n : Nat) : cut n 0 = n := by
  unfold cut up; simp [Nat.mod_one]

theorem mod_scale (n l k : Nat) : n * 2 ^ k % 2 ^ (l + k) = n % 2 ^ l * 2 ^ k := by
  rw [Nat.pow_add, Nat.mul_mod_mul_right]
theorem div_scale (n l k : Nat) : n * 2 ^ k / 2 ^ (l + k) = n / 2 ^ l := by
  rw [Nat.pow_add, Nat.mul_div_mul_right _ _ (pow_pos k)]

theorem cut_scale (n l k : Nat) : cut (n * 2 ^ k) (l + k) = cut n l := by
  unfold cut up
  rw [mod_scale, div_scale]
  congr 1
  have hk := pow_pos k
  have e1 : (2 ^ (l + k) < 2 * (n % 2 ^ l * 2 ^ k)) ↔ (2 ^ l < 2 * (n % 2 ^ l)) := by
    rw [Nat.pow_add, ← Nat.mul_assoc]
    exact Nat.mul_lt_mul_right hk
  have e2 : (2 ^ (l + k) = 2 * (n % 2 ^ l * 2 ^ k)) ↔ (2 ^ l = 2 * (n % 2 ^ l)) := by
    rw [Nat.pow_add, ← Nat.mul_assoc]
    exact ⟨fun h => Nat.eq_of_mul_eq_mul_right hk h, fun h => congrArg (· * 2 ^ k) h⟩
  simp only [e1, e2]

theorem lt_two_pow_log2 (n : Nat) : n < 2 ^ (n.log2 + 1) := by
  exact Nat.lt_log2_self

theorem cut_far (n l : Nat) (h : n.log2 + 2 ≤ l) : cut n l = 0 := by
  have h1 := lt_two_pow_log2 n
  have h2 : 2 * n < 2 ^ l := by
    have : 2 ^ (n.log2 + 2) ≤ 2 ^ l := Nat.pow_le_pow_right (by omega) h
    have e : 2 ^ (n.log2 + 2) = 2 * 2 ^ (n.log2 + 1) := by rw [Nat.pow_succ, Nat.mul_comm]
    omega
  have h3 : n < 2 ^ l := by omega
  unfold cut up
  rw [Nat.div_eq_of_lt h3, Nat.mod_eq_of_lt h3]
  simp; omega

theorem even_cut (neg : Bool) (n drop : Nat) : Ieee.Toward.even.cut neg n drop = cut n drop := by
  have key : ∀ d, (let gap := 1 <<< d; let low := n / gap; let rest := n % gap; low + (gap < 2 * rest || (gap == 2 * rest && low % 2 == 1)).toNat) = cut n d := by
    intro d
    simp only [Nat.shiftLeft_eq, Nat.one_mul]
    unfold cut up
    congr 1
    generalize 2 ^ d = g
    generalize n % g = r
    generalize n / g % 2 = q
    by_cases h1 : g < 2 * r
    · simp [h1]
    · by_cases h2 : g = 2 * r <;> by_cases h3 : q = 1 <;> simp [h1, h2, h3]
  unfold Ieee.Toward.cut
  by_cases h : drop ≤ n.log2 + 2
  · rw [Nat.min_eq_left h]; exact key drop
  · rw [Nat.min_eq_right (by omega)]
    rw [cut_far n drop (by omega)]
    have := key (n.log2 + 2)
    rw [cut_far n _ (Nat.le_refl _)] at this
    exact this

theorem log2_mul_pow (n k : Nat) (h : n ≠ 0) : (n * 2 ^ k).log2 = n.log2 + k := by
  have h1 := Nat.log2_self_le h
  have h2 := lt_two_pow_log2 n
  have h0 : n * 2 ^ k ≠ 0 := by have := pow_pos k; exact Nat.mul_ne_zero h (by omega)
  refine (Nat.log2_eq_iff h0).2 ⟨?_, ?_⟩
  · rw [Nat.pow_add]; exact Nat.mul_le_mul_right _ h1
  · rw [show n.log2 + k + 1 = (n.log2 + 1) + k by omega, Nat.pow_add]; exact (Nat.mul_lt_mul_right (pow_pos k)).2 h2

theorem nearest_eq (neg : Bool) (mag : Nat) (place : Int) (hp : -1074 ≤ place) :
    Ieee.double.nearest neg mag place = Ieee.double.word neg (RN (mag * 2 ^ (place + 1074).toNat)) := by
  unfold Ieee.Format.nearest
  by_cases h0 : mag = 0
  · subst h0
    simp [RN, cut_zero]
  · rw [if_neg h0]
    have hl : Ieee.double.leastPlace = -1074 := by decide
    have hf : Ieee.double.fractionBits = 52 := rfl
    have hb : Ieee.double.binade = B := by decide
    have hi : Ieee.double.infRung = infR := by decide
    rw [hl, hf, hb, hi]
    obtain ⟨k, hk⟩ : ∃ k : Nat, place = (k : Int) - 1074 := ⟨(place + 1074).toNat, by omega⟩
    subst hk
    have e1 : ((k : Int) - 1074 + 1074).toNat = k := by omega
    rw [e1]
    unfold RN
    rw [log2_mul_pow mag k h0]
    dsimp only
    have e2 : (max ((k : Int) - 1074 + (mag.log2 : Int) - ((52 : Nat) : Int)) (-1074) - (-1074)).toNat = mag.log2 + k - 52 := by omega
    rw [e2, even_cut]
    congr 3
    by_cases hc : k ≤ mag.log2 + k - 52
    · have e3 : ((k : Int) - 1074 - max ((k : Int) - 1074 + (mag.log2 : Int) - ((52 : Nat) : Int)) (-1074)).toNat = 0 := by omega
      have e4 : (max ((k : Int) - 1074 + (mag.log2 : Int) - ((52 : Nat) : Int)) (-1074) - ((k : Int) - 1074)).toNat = mag.log2 + k - 52 - k := by omega
      rw [e3, e4]
      simp only [Nat.shiftLeft_zero]
      have := cut_scale mag (mag.log2 + k - 52 - k) k
      rw [show mag.log2 + k - 52 - k + k = mag.log2 + k - 52 by omega] at this
      exact this.symm
    · have e3 : ((k : Int) - 1074 - max ((k : Int) - 1074 + (mag.log2 : Int) - ((52 : Nat) : Int)) (-1074)).toNat = k - (mag.log2 + k - 52) := by omega
      have e4 : (max ((k : Int) - 1074 + (mag.log2 : Int) - ((52 : Nat) : Int)) (-1074) - ((k : Int) - 1074)).toNat = 0 := by omega
      rw [e3, e4, cut_zero, Nat.shiftLeft_eq]
      have := cut_scale (mag * 2 ^ (k - (mag.log2 + k - 52))) 0 (mag.log2 + k - 52)
      rw [cut_zero, Nat.mul_assoc, ← Nat.pow_add, Nat.zero_add, show k - (mag.log2 + k - 52) + (mag.log2 + k - 52) = k by omega] at this
      exact this.symm

/-! ### What a word stands for -/
def mag (w : Nat) : Nat := w % sgnW
def neg (w : Nat) : Bool := w / sgnW % 2 == 1
def sv (w : Nat) : Int := if neg w then -(V (mag w) : Nat) else (V (mag w) : Nat)

theorem read_fin (w : Nat) (h : mag w < infR) :
    ∃ m p, Ieee.double.read w = .number (neg w) m p ∧ -1074 ≤ p ∧ m * 2 ^ (p + 1074).toNat = V (mag w) := by
  unfold Ieee.Format.read
  have hs : Ieee.double.signWeight = sgnW := by decide
  have hl : Ieee.double.leastPlace = -1074 := by decide
  have hb : Ieee.double.binade = B := by decide
  have hi : Ieee.double.infRung = infR := by decide
  rw [hs, hl, hb, hi]
  dsimp only
  change w % sgnW < infR at h
  unfold neg mag
  by_cases h1 : w % sgnW < B
  · rw [if_pos h1]
    refine ⟨_, _, rfl, by omega, ?_⟩
    unfold V; rw [if_pos h1]; simp
  · rw [if_neg h1, if_pos h]
    refine ⟨_, _, rfl, by omega, ?_⟩
    unfold V; rw [if_neg h1]
    congr 2
    omega

theorem read_inf (w : Nat) (h : mag w = infR) : Ieee.double.read w = .infinity (neg w) := by
  unfold Ieee.Format.read
  have hs : Ieee.double.signWeight = sgnW := by decide
  have hb : Ieee.double.binade = B := by decide
  have hi : Ieee.double.infRung = infR := by decide
  rw [hs, hb, hi]
  dsimp only
  change w % sgnW = infR at h
  rw [h, if_neg (by decide), if_neg (by decide), if_pos rfl]
  rfl

theorem read_nan (w : Nat) (h : infR < mag w) : ∃ f, Ieee.double.read w = .nan (neg w) f := by
  unfold Ieee.Format.read
  have hs : Ieee.double.signWeight = sgnW := by decide
  have hb : Ieee.double.binade = B := by decide
  have hi : Ieee.double.infRung = infR := by decide
  rw [hs, hb, hi]
  dsimp only
  change infR < w % sgnW at h
  have : B < infR := by decide
  rw [if_neg (by omega), if_neg (by omega), if_neg (by omega)]
  exact ⟨_, rfl⟩

theorem signed_scale (s : Bool) (m : Nat) (p b : Int) (hb : -1074 ≤ b) (hp : b ≤ p) :
    Ieee.signed s m (p - b).toNat * (2 : Int) ^ (b + 1074).toNat = if s then -((m * 2 ^ (p + 1074).toNat : Nat) : Int) else ((m * 2 ^ (p + 1074).toNat : Nat) : Int) := by
  have e : (p + 1074).toNat = (p - b).toNat + (b + 1074).toNat := by omega
  unfold Ieee.signed
  rw [Nat.shiftLeft_eq, e, Nat.pow_add, ← Nat.mul_assoc]
  cases s
  · simp
  · simp [Int.neg_mul]

theorem pow_pos_int (k : Nat) : (0 : Int) < 2 ^ k := by exact_mod_cast pow_pos k

/-! ### Order -/
theorem compare_scale (x y c : Int) (hc : 0 < c) : compare (x * c) (y * c) = compare x y := by
  have h1 : x * c < y * c ↔ x < y := ⟨fun h => Int.lt_of_mul_lt_mul_right h (Int.le_of_lt hc), fun h => Int.mul_lt_mul_of_pos_right h hc⟩
  have h2 : x * c = y * c ↔ x = y := ⟨fun h => Int.eq_of_mul_eq_mul_right (by omega) h, fun h => by rw [h]⟩
  simp only [compare, compareOfLessAndEq, h1, h2]

theorem order_fin (a b : Nat) (ha : mag a < infR) (hb : mag b < infR) : Ieee.double.order a b = some (compare (sv a) (sv b)) := by
  obtain ⟨m, p, e1, hp, h1⟩ := read_fin a ha
  obtain ⟨n, q, e2, hq, h2⟩ := read_fin b hb
  unfold Ieee.Format.order
  rw [e1, e2]
  show some (compare _ _) = _
  congr 1
  have s1 := signed_scale (neg a) m p (min p q) (by omega) (by omega)
  have s2 := signed_scale (neg b) n q (min p q) (by omega) (by omega)
  rw [h1] at s1
  rw [h2] at s2
  rw [← compare_scale _ _ _ (pow_pos_int (min p q + 1074).toNat)]
  show compare (Ieee.signed (neg a) m (p - min p q).toNat * _) (Ieee.signed (neg b) n (q - min p q).toNat * _) = _
  rw [s1, s2]
  rfl

theorem order_self (a : Nat) : (Ieee.double.order a a != some .eq) = decide (infR < mag a) := by
  rcases Nat.lt_trichotomy (mag a) infR with h | h | h
  · rw [order_fin a a h h]
    have : compare (sv a) (sv a) = .eq := by simp [compare, compareOfLessAndEq]
    rw [this]; simp; omega
  · unfold Ieee.Format.order
    rw [read_inf a h]
    simp only [Ieee.Datum.order, h]
    have : compare (neg a).toNat (neg a).toNat = .eq := by simp [compare, compareOfLessAndEq]
    rw [this]; simp
  · obtain ⟨f, e⟩ := read_nan a h
    unfold Ieee.Format.order
    rw [e]
    simp [Ieee.Datum.order, h]

theorem V_zero (r : Nat) : V r = 0 ↔ r = 0 := by
  unfold V
  split
  · exact Iff.rfl
  · have hb : 0 < B := by decide
    constructor
    · intro h
      have := Nat.mul_eq_zero.1 h
      have := pow_pos (r / B - 1)
      omega
    · intro h; omega

theorem sv_zero (a : Nat) : sv a = 0 ↔ mag a = 0 := by
  unfold sv
  rw [← V_zero]
  split <;> omega

theorem order_zero (a : Nat) : (Ieee.double.order a 0 == some .eq) = decide (mag a = 0) := by
  have h0 : mag 0 < infR := by decide
  have hz : sv 0 = 0 := by decide
  rcases Nat.lt_trichotomy (mag a) infR with h | h | h
  · rw [order_fin a 0 h h0, hz]
    by_cases hs : mag a = 0
    · rw [(sv_zero a).2 hs]; simp [hs, compare, compareOfLessAndEq]
    · have : sv a ≠ 0 := fun e => hs ((sv_zero a).1 e)
      simp only [hs, decide_false]
      simp only [compare, compareOfLessAndEq]
      split
      · rfl
      · simp
  · unfold Ieee.Format.order
    obtain ⟨m, p, e, _⟩ := read_fin 0 h0
    rw [read_inf a h, e, h]
    cases neg a <;> simp [Ieee.Datum.order] <;> decide
  · obtain ⟨f, e⟩ := read_nan a h
    unfold Ieee.Format.order
    rw [e]
    have : mag a ≠ 0 := by omega
    simp [Ieee.Datum.order, this]

/-! ### V rises -/
theorem V_low (r : Nat) (h : r < 2 * B) : V r = r := by
  unfold V
  split
  · rfl
  · rename_i h1
    have hB : B = 4503599627370496 := rfl
    have : r / B = 1 := by
      have hb : 0 < B := by omega
      refine (Nat.div_eq_iff hb).2 ⟨by omega, by omega⟩
    rw [this]
    have := Nat.div_add_mod r B
    rw [‹r / B = 1›] at this
    simp; omega

theorem V_step (r : Nat) (h : B ≤ r) : V (r + B) = 2 * V r := by
  unfold V
  have hB : B = 4503599627370496 := rfl
  rw [if_neg (by omega), if_neg (by omega)]
  rw [Nat.add_mod_right, Nat.add_div_right r (by rw [hB]; omega)]
  have : 1 ≤ r / B := (Nat.le_div_iff_mul_le (by omega)).2 (by omega)
  rw [show (r / B).succ - 1 = (r / B - 1) + 1 by omega, Nat.pow_succ]
  rw [← Nat.mul_assoc, Nat.mul_comm]

theorem V_bounds (r : Nat) (h : B ≤ r) : 2 ^ (52 + (r / B - 1)) ≤ V r ∧ V r < 2 ^ (53 + (r / B - 1)) := by
  have hB : B = 2 ^ 52 := by decide
  unfold V
  rw [if_neg (by omega)]
  have hm : r % B < B := Nat.mod_lt _ (by rw [hB]; exact pow_pos 52)
  rw [Nat.pow_add, Nat.pow_add]
  constructor
  · exact Nat.mul_le_mul_right _ (by omega)
  · refine (Nat.mul_lt_mul_right (pow_pos _)).2 ?_
    rw [hB] at *; omega

theorem V_succ (r : Nat) : V r < V (r + 1) := by
  have hBp : 0 < B := by decide
  by_cases h : r + 1 < B
  · unfold V; rw [if_pos h, if_pos (by omega)]; omega
  · by_cases h2 : r < B
    · have : r + 1 = B := by omega
      rw [this, V_low r (by omega), V_low B (by omega)]; omega
    · have hdm := Nat.div_add_mod r B
      have hm : r % B < B := Nat.mod_lt _ hBp
      by_cases h3 : r % B + 1 < B
      · have e1 : (r + 1) / B = r / B := by
          rw [show r + 1 = (r % B + 1) + B * (r / B) by omega, Nat.add_mul_div_left _ _ hBp, Nat.div_eq_of_lt h3]; omega
        have e2 : (r + 1) % B = r % B + 1 := by
          rw [show r + 1 = (r % B + 1) + B * (r / B) by omega, Nat.add_mul_mod_self_left, Nat.mod_eq_of_lt h3]
        unfold V
        rw [if_neg h2, if_neg h, e1, e2]
        exact (Nat.mul_lt_mul_right (pow_pos _)).2 (by omega)
      · have e1 : (r + 1) / B = r / B + 1 := by
          rw [show r + 1 = B + B * (r / B) by omega, Nat.add_mul_div_left _ _ hBp, Nat.div_self hBp]; omega
        have b1 := (V_bounds r (by omega)).2
        have b2 := (V_bounds (r + 1) (by omega)).1
        rw [e1] at b2
        have : 1 ≤ r / B := (Nat.le_div_iff_mul_le hBp).2 (by omega)
        rw [show 52 + (r / B + 1 - 1) = 53 + (r / B - 1) by omega] at b2
        omega

theorem V_lt {r s : Nat} (h : r < s) : V r < V s := by
  induction s with
  | zero => omega
  | succ s ih =>
    have := V_succ s
    by_cases e : r = s
    · subst e; exact this
    · have := ih (by omega); omega

theorem V_lt_iff (r s : Nat) : V r < V s ↔ r < s := by
  constructor
  · intro h
    rcases Nat.lt_trichotomy r s with g | g | g
    · exact g
    · subst g; omega
    · have := V_lt g; omega
  · exact V_lt

theorem V_inj {r s : Nat} (h : V r = V s) : r = s := by
  rcases Nat.lt_trichotomy r s with g | g | g
  · have := V_lt g; omega
  · exact g
  · have := V_lt g; omega

/-! ### Rounding what needs none -/
theorem RN_low (n : Nat) (h : n < 2 ^ 53) : RN n = n := by
  unfold RN
  have : n.log2 - 52 = 0 := by
    by_cases h0 : n = 0
    · subst h0; decide
    · have := (Nat.log2_lt h0).2 h; omega
  rw [this, cut_zero]
  have : infR = 9218868437227405312 := rfl
  omega

theorem RN_V (r : Nat) : RN (V r) = min r infR := by
  have hB : B = 2 ^ 52 := by decide
  by_cases h : r < B
  · rw [V_low r (by omega), RN_low r (by rw [hB] at h; omega)]
    have : infR = 9218868437227405312 := rfl
    have : B = 4503599627370496 := rfl
    omega
  · have hb := V_bounds r (by omega)
    have h0 : V r ≠ 0 := by have := pow_pos (52 + (r / B - 1)); omega
    have hl : (V r).log2 = 52 + (r / B - 1) := (Nat.log2_eq_iff h0).2 ⟨hb.1, by rw [show 52 + (r / B - 1) + 1 = 53 + (r / B - 1) by omega]; exact hb.2⟩
    unfold RN
    rw [hl, show 52 + (r / B - 1) - 52 = r / B - 1 by omega]
    have hBp : 0 < B := by decide
    have hge : 1 ≤ r / B := (Nat.le_div_iff_mul_le hBp).2 (by omega)
    have : cut (V r) (r / B - 1) = B + r % B := by
      unfold V; rw [if_neg h]
      have := cut_scale (B + r % B) 0 (r / B - 1)
      rw [cut_zero, Nat.zero_add] at this
      exact this
    rw [this]
    congr 1
    have hdm := Nat.div_add_mod r B
    have : (r / B - 1) * B + B = B * (r / B) := by
      rw [Nat.mul_comm B, ← Nat.succ_mul]; congr 1; omega
    omega

theorem RN_le (n : Nat) : RN n ≤ infR := Nat.min_le_right _ _

theorem RN_pos (n : Nat) (h : 0 < n) : 0 < RN n := by
  by_cases hn : n < 2 ^ 53
  · rw [RN_low n hn]; exact h
  · unfold RN
    have h0 : n ≠ 0 := by omega
    have : 53 ≤ n.log2 := (Nat.le_log2 h0).2 (by omega)
    have hB : 0 < B := by decide
    have : 0 < (n.log2 - 52) * B := Nat.mul_pos (by omega) hB
    have : 0 < infR := by decide
    omega

/-! ### Sums -/
theorem sum_eq (a b : Nat) (ha : mag a < infR) (hb : mag b < infR) :
    Ieee.double.add a b = some (Ieee.double.word (if sv a + sv b = 0 then neg a && neg b else decide (sv a + sv b < 0)) (RN (sv a + sv b).natAbs)) := by
  obtain ⟨m, p, e1, hp, h1⟩ := read_fin a ha
  obtain ⟨n, q, e2, hq, h2⟩ := read_fin b hb
  have s1 := signed_scale (neg a) m p (min p q) (by omega) (by omega)
  have s2 := signed_scale (neg b) n q (min p q) (by omega) (by omega)
  rw [h1] at s1
  rw [h2] at s2
  have key : (Ieee.signed (neg a) m (p - min p q).toNat + Ieee.signed (neg b) n (q - min p q).toNat) * (2 : Int) ^ (min p q + 1074).toNat = sv a + sv b := by
    rw [Int.add_mul, s1, s2]; rfl
  unfold Ieee.Format.add
  rw [e1, e2]
  show Option.map _ (some _) = _
  simp only [Option.map_some]
  congr 1
  unfold Ieee.Format.write
  dsimp only
  generalize Ieee.signed (neg a) m (p - min p q).toNat + Ieee.signed (neg b) n (q - min p q).toNat = t at key ⊢
  have hc := pow_pos_int (min p q + 1074).toNat
  rw [nearest_eq _ _ _ (by omega)]
  have z1 : t = 0 ↔ sv a + sv b = 0 := by
    rw [← key]
    constructor
    · intro h; rw [h]; simp
    · intro h
      rcases Int.mul_eq_zero.1 h with g | g
      · exact g
      · omega
  have z2 : t < 0 ↔ sv a + sv b < 0 := by
    rw [← key]
    constructor
    · intro h; exact Int.mul_neg_of_neg_of_pos h hc
    · intro h
      rcases Int.lt_trichotomy t 0 with g | g | g
      · exact g
      · subst g; simp at h
      · have := Int.mul_pos g hc; omega
  have z3 : t.natAbs * 2 ^ (min p q + 1074).toNat = (sv a + sv b).natAbs := by
    rw [← key, Int.natAbs_mul, Int.natAbs_pow]
    rfl
  rw [z3]
  congr 1
  by_cases g : t = 0
  · rw [if_pos g, if_pos (z1.1 g)]
  · rw [if_neg g, if_neg (fun h => g (z1.2 h))]
    simp only [z2]

/-! ### The document's functions, on words -/
def canon (w : Nat) : Nat := if infR < mag w then nanW else if mag w = 0 then 0 else w
def kind (w : Nat) : Nat := if infR < mag w then 3 else if mag w = infR then 2 else if mag w = 0 then 0 else 1
def rank (w : Nat) : Nat := if canon w < sgnW then canon w + sgnW else maxW - 1 - canon w
def less (a b : Nat) : Bool := decide (rank a < rank b)
def top (a b : Nat) : Nat := if rank a < rank b then canon b else canon a
def back (r : Nat) : Nat := if r < sgnW then maxW - 1 - r else r - sgnW
def wordOk (r : Nat) : Bool := decide (canon (back r) = back r ∧ rank (back r) = r)
def word (r : Nat) : Nat := if wordOk r then back r else 0
def sumFin (a b : Nat) : Nat := if sv a + sv b = 0 then 0 else (if sv a + sv b < 0 then sgnW else 0) + RN (sv a + sv b).natAbs
def sum (a b : Nat) : Nat :=
  if infR < mag a ∨ infR < mag b then nanW
  else if mag a = infR then (if mag b = infR ∧ neg a ≠ neg b then nanW else a)
  else if mag b = infR then b
  else sumFin a b

/-- What the float '+' leaves, canonical, is the sum. -/
theorem sum_of_add (a b r : Nat) (ha : a < maxW) (hb : b < maxW) (h : Ieee.double.add a b = some r) : canon r = sum a b := by
  have hw : ∀ s x, Ieee.double.word s x = (if s then sgnW else 0) + x := by
    intro s x
    have hs : Ieee.double.signWeight = sgnW := by decide
    unfold Ieee.Format.word
    rw [hs]; cases s <;> simp
  have wordmag : ∀ s x, x ≤ infR → mag (Ieee.double.word s x) = x := by
    intro s x hx
    rw [hw]; unfold mag
    have e1 : infR = 9218868437227405312 := rfl
    have e2 : sgnW = 9223372036854775808 := rfl
    rw [e1] at hx; rw [e2]
    cases s <;> simp <;> omega
  have self : ∀ w, w < maxW → w = (if neg w then sgnW else 0) + mag w := by
    intro w hw
    unfold neg mag
    have e1 : sgnW = 9223372036854775808 := rfl
    have e2 : maxW = 18446744073709551616 := rfl
    rw [e2] at hw; rw [e1]
    by_cases g : w / 9223372036854775808 % 2 = 1
    · simp [g]; omega
    · simp [g]; omega
  have infw : ∀ s, Ieee.double.write (.infinity s) = (if s then sgnW else 0) + infR := by
    intro s
    show Ieee.double.word s Ieee.double.infRung = _
    rw [hw]; congr 1
  have hinf : 0 < infR := by decide
  unfold sum
  by_cases na : infR < mag a
  · obtain ⟨f, e⟩ := read_nan a na
    unfold Ieee.Format.add at h
    rw [e] at h
    simp [Ieee.Datum.sum] at h
  by_cases nb : infR < mag b
  · obtain ⟨f, e⟩ := read_nan b nb
    unfold Ieee.Format.add at h
    rw [e] at h
    cases ha' : Ieee.double.read a <;> rw [ha'] at h <;> simp [Ieee.Datum.sum] at h
  rw [if_neg (by omega)]
  by_cases ia : mag a = infR
  · rw [if_pos ia]
    unfold Ieee.Format.add at h
    rw [read_inf a ia] at h
    by_cases ib : mag b = infR
    · rw [read_inf b ib] at h
      simp only [Ieee.Datum.sum] at h
      by_cases e : neg a = neg b
      · rw [if_pos e] at h
        simp only [Option.map_some, Option.some.injEq] at h
        rw [if_neg (by simp [e])]
        subst h
        rw [infw, ← ia, ← self a ha]
        unfold canon; rw [if_neg na, if_neg (by omega)]
      · rw [if_neg e] at h; simp at h
    · rw [if_neg (fun g => ib g.1)]
      obtain ⟨n, q, e2, _⟩ := read_fin b (by omega)
      rw [e2] at h
      simp only [Ieee.Datum.sum, Option.map_some, Option.some.injEq] at h
      subst h
      rw [infw, ← ia, ← self a ha]
      unfold canon; rw [if_neg na, if_neg (by omega)]
  · rw [if_neg ia]
    by_cases ib : mag b = infR
    · rw [if_pos ib]
      unfold Ieee.Format.add at h
      obtain ⟨n, q, e2, _⟩ := read_fin a (by omega)
      rw [read_inf b ib, e2] at h
      simp only [Ieee.Datum.sum, Option.map_some, Option.some.injEq] at h
      subst h
      rw [infw, ← ib, ← self b hb]
      unfold canon; rw [if_neg nb, if_neg (by omega)]
    · rw [if_neg ib]
      rw [sum_eq a b (by omega) (by omega)] at h
      simp only [Option.some.injEq] at h
      subst h
      unfold sumFin canon
      rw [wordmag _ _ (RN_le _)]
      have := RN_le (sv a + sv b).natAbs
      rw [if_neg (by omega)]
      by_cases z : sv a + sv b = 0
      · rw [if_pos z]; simp [z, RN_low 0 (by decide)]
      · have := RN_pos (sv a + sv b).natAbs (by omega)
        rw [if_neg (by omega), if_neg z, hw]
        by_cases z2 : sv a + sv b < 0 <;> simp [z, z2]

/-- Where '+' tells no word (a NaN among the two, or both ends), the sum is the NaN. -/
theorem sum_of_none (a b : Nat) (h : Ieee.double.add a b = none) : sum a b = nanW := by
  unfold sum
  by_cases n : infR < mag a ∨ infR < mag b
  · rw [if_pos n]
  rw [if_neg n]
  unfold Ieee.Format.add at h
  by_cases ia : mag a = infR
  · rw [if_pos ia]
    rw [read_inf a ia] at h
    by_cases ib : mag b = infR
    · rw [read_inf b ib] at h
      by_cases e : neg a = neg b
      · simp [Ieee.Datum.sum, e] at h
      · rw [if_pos ⟨ib, e⟩]
    · obtain ⟨n, q, e2, _⟩ := read_fin b (by omega)
      rw [e2] at h
      simp [Ieee.Datum.sum] at h
  · obtain ⟨m, p, e1, _⟩ := read_fin a (by omega)
    rw [e1] at h
    by_cases ib : mag b = infR
    · rw [read_inf b ib] at h
      simp [Ieee.Datum.sum] at h
    · obtain ⟨n, q, e2, _⟩ := read_fin b (by omega)
      rw [e2] at h
      simp [Ieee.Datum.sum] at h

end Go.Proofs.YtnplgklnkcjmnaaDoor.Flt
