/- Plain laws of the document's own sum: shifts that keep a lost bit in the last place, and rounding behind them. -/
import Derived.Test.YtlcpcgdecodjfaaDoorFlt
namespace Go.Proofs.YtlcpcgdecodjfaaDoor.Flt
set_option linter.unusedVariables false
set_option linter.unusedSimpArgs false

/-- n / 2^d, its last bit set if anything is lost. -/
def RO (n d : Nat) : Nat := if n % 2 ^ d = 0 then n / 2 ^ d else n / 2 ^ d / 2 * 2 + 1

theorem RO_zero (n : Nat) : RO n 0 = n := by unfold RO; simp [Nat.mod_one]
theorem RO_one (n : Nat) : RO n 1 = if n % 2 = 0 then n / 2 else n / 2 / 2 * 2 + 1 := by unfold RO; rfl
theorem mod_succ_zero (n d : Nat) : n % 2 ^ (d + 1) = 0 ↔ n % 2 ^ d = 0 ∧ n / 2 ^ d % 2 = 0 := by
  have h1 : n % 2 ^ (d + 1) = n % 2 ^ d + 2 ^ d * (n / 2 ^ d % 2) := by rw [Nat.pow_succ, Nat.mod_mul]
  have := pow_pos d
  rw [h1]
  constructor
  · intro h
    have : 2 ^ d * (n / 2 ^ d % 2) = 0 := by omega
    rcases Nat.mul_eq_zero.1 this with g | g <;> omega
  · intro ⟨g1, g2⟩; rw [g1, g2]; simp
theorem div_succ (n d : Nat) : n / 2 ^ (d + 1) = n / 2 ^ d / 2 := by rw [Nat.pow_succ, Nat.div_div_eq_div_mul]

theorem RO_RO (n d : Nat) : RO (RO n d) 1 = RO n (d + 1) := by
  rw [RO_one]
  unfold RO
  simp only [mod_succ_zero, div_succ]
  by_cases h : n % 2 ^ d = 0
  · simp only [h, if_true, true_and]
  · simp only [h, if_false, false_and]
    have e : (n / 2 ^ d / 2 * 2 + 1) % 2 ≠ 0 := by omega
    simp only [e, if_false]; omega

theorem RO_stays {n d : Nat} (h : RO n d ≤ 1) (k : Nat) : RO n (d + k) = RO n d := by
  induction k with
  | zero => rfl
  | succ k ih =>
    rw [← Nat.add_assoc, ← RO_RO, ih, RO_one]
    split <;> omega

/-- RO lies at n / 2^d, or one above. -/
theorem RO_lt (n d m : Nat) : RO n d < 2 * m ↔ n / 2 ^ d < 2 * m := by
  unfold RO; split <;> omega
theorem RO_le (n d : Nat) : n / 2 ^ d ≤ RO n d ∧ RO n d ≤ n / 2 ^ d + 1 := by
  unfold RO; split <;> omega
theorem RO_exact (n d : Nat) : RO (n * 2 ^ d) d = n := by
  unfold RO
  rw [Nat.mul_mod_left, if_pos rfl, Nat.mul_div_cancel _ (pow_pos d)]

theorem RO_add (x y d : Nat) (hx : x % 2 = 0) : x + RO y d = RO (x * 2 ^ d + y) d := by
  unfold RO
  rw [Nat.mul_add_mod', Nat.add_comm (x * 2 ^ d) y, Nat.add_mul_div_right _ _ (pow_pos d)]
  split <;> omega

theorem RO_sub (x y d : Nat) (hx : x % 2 = 0) (h : y ≤ x * 2 ^ d) : x - RO y d = RO (x * 2 ^ d - y) d := by
  have hp := pow_pos d
  have hdm := Nat.div_add_mod y (2 ^ d)
  have hm : y % 2 ^ d < 2 ^ d := Nat.mod_lt _ hp
  generalize hq : y / 2 ^ d = q at *
  generalize hr : y % 2 ^ d = r at *
  by_cases h0 : r = 0
  · subst h0
    have e : x * 2 ^ d - y = (x - q) * 2 ^ d := by rw [Nat.sub_mul, ← hdm]; rw [Nat.mul_comm (2 ^ d) q]; rfl
    rw [e, RO_exact]
    unfold RO; rw [hr, hq]; rfl
  · have hq1 : q < x := by
      refine Nat.lt_of_mul_lt_mul_left (a := 2 ^ d) ?_
      have := Nat.mul_comm x (2 ^ d)
      omega
    have e : x * 2 ^ d - y = (x - q - 1) * 2 ^ d + (2 ^ d - r) := by
      have e1 : x * 2 ^ d = (x - q - 1) * 2 ^ d + q * 2 ^ d + 2 ^ d := by
        rw [← Nat.add_mul, ← Nat.succ_mul]; congr 1; omega
      have := Nat.mul_comm q (2 ^ d)
      omega
    rw [e]
    unfold RO
    rw [hr, hq, Nat.mul_add_mod', Nat.mod_eq_of_lt (show 2 ^ d - r < 2 ^ d by omega), if_neg h0, if_neg (by omega), Nat.add_comm ((x - q - 1) * 2 ^ d), Nat.add_mul_div_right _ _ hp, Nat.div_eq_of_lt (show 2 ^ d - r < 2 ^ d by omega)]
    omega

/-- Rounding at two places or more behind RO is rounding. -/
theorem cut_RO (n d k : Nat) (hk : 2 ≤ k) : cut (RO n d) k = cut n (d + k) := by
  by_cases h : n % 2 ^ d = 0
  · have e : n = n / 2 ^ d * 2 ^ d := by have := Nat.div_add_mod n (2 ^ d); rw [Nat.mul_comm]; omega
    have : cut n (d + k) = cut (n / 2 ^ d) k := by
      rw [e, Nat.add_comm d k, cut_scale, ← e]
    rw [this]; unfold RO; rw [if_pos h]
  · have hp := pow_pos d
    have hf : n % 2 ^ d < 2 ^ d := Nat.mod_lt _ hp
    obtain ⟨j, rfl⟩ : ∃ j, k = j + 2 := ⟨k - 2, by omega⟩
    have hj := pow_pos j
    have hk4 : 2 ^ (j + 2) = 4 * 2 ^ j := by rw [Nat.pow_add, Nat.mul_comm]
    have hdiv : n / 2 ^ (d + (j + 2)) = n / 2 ^ d / 2 ^ (j + 2) := by rw [Nat.pow_add, Nat.div_div_eq_div_mul]
    have hmod : n % 2 ^ (d + (j + 2)) = n % 2 ^ d + 2 ^ d * (n / 2 ^ d % 2 ^ (j + 2)) := by rw [Nat.pow_add, Nat.mod_mul]
    have hpow : 2 ^ (d + (j + 2)) = 2 ^ d * (4 * 2 ^ j) := by rw [Nat.pow_add, hk4]
    unfold cut up RO
    rw [if_neg h, hdiv, hmod, hpow, hk4]
    generalize n / 2 ^ d = q at *
    generalize n % 2 ^ d = f at *
    generalize 2 ^ j = g at *
    generalize 2 ^ d = D at *
    have hqd := Nat.div_add_mod q (4 * g)
    have hql : q % (4 * g) < 4 * g := Nat.mod_lt _ (by omega)
    generalize ht : q % (4 * g) = t at *
    generalize hb : q / (4 * g) = b at *
    have hodd : q / 2 * 2 + 1 = 4 * g * b + (t / 2 * 2 + 1) := by
      have : 4 * g * b = 2 * (2 * (g * b)) := by rw [Nat.mul_assoc]; omega
      omega
    have ht1 : t / 2 * 2 + 1 < 4 * g := by omega
    rw [hodd, Nat.mul_add_mod, Nat.mod_eq_of_lt ht1, Nat.mul_add_div (by omega), Nat.div_eq_of_lt ht1, Nat.add_zero]
    congr 1
    have A : (4 * g < 2 * (t / 2 * 2 + 1)) ↔ 2 * g ≤ t := by omega
    have B1 : ¬ (4 * g = 2 * (t / 2 * 2 + 1)) := by omega
    have C : (D * (4 * g) < 2 * (f + D * t)) ↔ 2 * g ≤ t := by
      constructor
      · intro hh
        refine Nat.le_of_lt_succ (Nat.lt_of_mul_lt_mul_left (a := D) ?_)
        have e1 : D * (4 * g) = 2 * (D * (2 * g)) := by rw [Nat.mul_left_comm 2 D (2 * g), ← Nat.mul_assoc 2 2 g]
        have e2 : D * (t + 1) = D * t + D := by rw [Nat.mul_add, Nat.mul_one]
        have e3 : D * t.succ = D * t + D := e2
        omega
      · intro hh
        have := Nat.mul_le_mul_left D hh
        have e1 : D * (4 * g) = 2 * (D * (2 * g)) := by rw [Nat.mul_left_comm 2 D (2 * g), ← Nat.mul_assoc 2 2 g]
        omega
    have E : ¬ (D * (4 * g) = 2 * (f + D * t)) := by
      intro hh
      have e1 : D * (4 * g) = 2 * (D * (2 * g)) := by rw [Nat.mul_left_comm 2 D (2 * g), ← Nat.mul_assoc 2 2 g]
      have e2 : D * (2 * g) = f + D * t := by omega
      rcases Nat.lt_or_ge t (2 * g) with h1 | h1
      · have := Nat.mul_le_mul_left D (Nat.succ_le_of_lt h1)
        have e3 : D * t.succ = D * t + D := by rw [Nat.succ_eq_add_one, Nat.mul_add, Nat.mul_one]
        omega
      · have := Nat.mul_le_mul_left D h1
        omega
    simp only [A, B1, C, E, false_and, or_false]

/-! ### What the document's 'made' makes -/
def norm1 (e m : Nat) : Nat × Nat := if 72057594037927936 ≤ m then (e + 1, RO m 1) else (e, m)
def norm2 : Nat → Nat → Nat × Nat
  | 0, m => (0, m)
  | 1, m => (1, m)
  | e + 2, m => if m < 36028797018963968 then norm2 (e + 1) (m * 2) else (e + 2, m)
def fin (e m : Nat) : Nat := min ((e - 1) * B + cut m 3) infR
def made (s e m : Nat) : Nat := if m = 0 then 0 else s * sgnW + fin (norm2 (norm1 e m).1 (norm1 e m).2).1 (norm2 (norm1 e m).1 (norm1 e m).2).2

/-- The last step, where nothing is to be shifted any more. -/
theorem fin_RN (N e m : Nat) (hc : cut m 3 = cut N (e - 1)) (hl : N.log2 - 52 = e - 1) : fin e m = RN N := by
  unfold fin RN; rw [hc, hl]

theorem log8 (N : Nat) (h : N ≠ 0) : (8 * N).log2 = N.log2 + 3 := by
  have := log2_mul_pow N 3 h
  rw [Nat.mul_comm]; exact this

theorem norm2_exact (N : Nat) : ∀ (e m : Nat), 1 ≤ e → m * 2 ^ (e - 1) = 8 * N → m < 72057594037927936 → m ≠ 0 → fin (norm2 e m).1 (norm2 e m).2 = RN N := by
  intro e
  induction e with
  | zero => intro m h; omega
  | succ e ih =>
    intro m _ hN hlt hm0
    rw [Nat.add_sub_cancel] at hN
    have hN0 : N ≠ 0 := by
      intro h; subst h
      have := pow_pos e
      rcases Nat.mul_eq_zero.1 hN with g | g <;> omega
    have final : (e = 0 ∨ 36028797018963968 ≤ m) → fin (e + 1) m = RN N := by
      intro hcase
      refine fin_RN N (e + 1) m ?_ ?_
      · rw [Nat.add_sub_cancel]
        have a1 := cut_scale m 3 e
        have a2 := cut_scale N e 3
        rw [hN, Nat.add_comm 3 e] at a1
        rw [Nat.mul_comm N] at a2
        rw [← a1, ← a2]
      · rw [Nat.add_sub_cancel]
        have l1 := log8 N hN0
        rw [← hN, log2_mul_pow m e hm0] at l1
        rcases hcase with h | h
        · subst h
          have := (Nat.log2_lt hm0 (k := 56)).2 (by omega)
          omega
        · have : m.log2 = 55 := (Nat.log2_eq_iff hm0).2 ⟨by omega, by omega⟩
          omega
    match e, ih, final, hN with
    | 0, _, final, _ => exact final (Or.inl rfl)
    | e + 1, ih, final, hN =>
      unfold norm2
      by_cases hb : m < 36028797018963968
      · rw [if_pos hb]
        refine ih (m * 2) (by omega) ?_ (by omega) (by omega)
        rw [Nat.add_sub_cancel, ← hN, Nat.pow_succ, Nat.mul_assoc, Nat.mul_comm 2]
      · rw [if_neg hb]; exact final (Or.inr (by omega))

theorem log_RO (n d j : Nat) (h1 : 2 ^ (j + 1) ≤ RO n d) (h2 : RO n d < 2 ^ (j + 2)) : n ≠ 0 ∧ n.log2 = j + 1 + d := by
  have hp := pow_pos d
  have e1 : (2 : Nat) ^ (j + 1) = 2 * 2 ^ j := by rw [Nat.pow_succ, Nat.mul_comm]
  have e2 : (2 : Nat) ^ (j + 2) = 2 * 2 ^ (j + 1) := by rw [Nat.pow_succ, Nat.mul_comm]
  have g1 : ¬ n / 2 ^ d < 2 ^ (j + 1) := by rw [e1, ← RO_lt, ← e1]; omega
  have g2 : n / 2 ^ d < 2 ^ (j + 2) := by rw [e2, ← RO_lt, ← e2]; exact h2
  rw [Nat.div_lt_iff_lt_mul hp] at g1 g2
  have hn : n ≠ 0 := by
    intro h; subst h
    have := Nat.mul_pos (pow_pos (j + 1)) hp
    omega
  refine ⟨hn, (Nat.log2_eq_iff hn).2 ⟨?_, ?_⟩⟩
  · rw [Nat.pow_add]; omega
  · rw [show j + 1 + d + 1 = (j + 2) + d by omega, Nat.pow_add]; exact g2

theorem norm2_sticky (N n d e f : Nat) (he : e = d + f) (hf : 1 ≤ f) (he2 : 2 ≤ e) (hN : 8 * N = n * 2 ^ (f - 1))
    (h1 : 18014398509481984 ≤ RO n d) (h2 : RO n d < 72057594037927936) : fin (norm2 e (RO n d)).1 (norm2 e (RO n d)).2 = RN N := by
  have hcut : ∀ k, k ≤ 1 → cut (RO n d) (3 - k) = cut N (e - 1 - k) := by
    intro k hk
    rw [cut_RO n d (3 - k) (by omega)]
    have a1 := cut_scale n (d + (3 - k)) (f - 1)
    have a2 := cut_scale N (e - 1 - k) 3
    rw [← a1, ← a2, ← hN, Nat.mul_comm N]
    congr 1; omega
  have hlog : ∀ j, 2 ^ (j + 1) ≤ RO n d → RO n d < 2 ^ (j + 2) → N.log2 + 3 = j + d + f := by
    intro j g1 g2
    obtain ⟨hn, hl⟩ := log_RO n d j g1 g2
    have hN0 : N ≠ 0 := by
      intro h; subst h
      have := pow_pos (f - 1)
      rcases Nat.mul_eq_zero.1 hN.symm with g | g <;> omega
    have l1 := log8 N hN0
    rw [hN, log2_mul_pow n _ hn, hl] at l1
    omega
  obtain ⟨i, rfl⟩ : ∃ i, e = i + 2 := ⟨e - 2, by omega⟩
  unfold norm2
  by_cases hb : RO n d < 36028797018963968
  · rw [if_pos hb]
    have hl := hlog 53 (by omega) (by omega)
    have hs : norm2 (i + 1) (RO n d * 2) = (i + 1, RO n d * 2) := by
      match i with
      | 0 => rfl
      | i + 1 => unfold norm2; rw [if_neg (by omega)]
    rw [hs]
    refine fin_RN N _ _ ?_ (by show N.log2 - 52 = i + 1 - 1; omega)
    show cut (RO n d * 2) 3 = cut N (i + 1 - 1)
    have a := hcut 1 (by omega)
    have b := cut_scale (RO n d) 2 1
    rw [show 3 - 1 = 2 by rfl, ← b] at a
    exact a
  · rw [if_neg hb]
    have hl := hlog 54 (by omega) (by omega)
    have a : cut (RO n d) 3 = cut N (i + 2 - 1) := by
      have := hcut 0 (by omega)
      rw [Nat.sub_zero, Nat.sub_zero] at this
      exact this
    dsimp only
    have b : N.log2 - 52 = i + 2 - 1 := by clear a hcut; omega
    unfold fin RN
    rw [a, b]

/-- What 'made' makes of n / 2^d eighths at exponent d + f: the rung nearest to what that is. -/
theorem made_RN (s N n d f : Nat) (hf : 1 ≤ f) (hN : 8 * N = n * 2 ^ (f - 1)) (h2 : RO n d < 144115188075855872)
    (hx : n % 2 ^ d = 0 ∨ (2 ≤ d + f ∧ 18014398509481984 ≤ RO n d)) : made s (d + f) (RO n d) = if N = 0 then 0 else s * sgnW + RN N := by
  unfold made
  by_cases h0 : N = 0
  · subst h0
    have hn : n = 0 := by
      have := pow_pos (f - 1)
      rcases Nat.mul_eq_zero.1 hN.symm with g | g <;> omega
    subst hn
    have : RO 0 d = 0 := by unfold RO; simp
    rw [if_pos this, if_pos rfl]
  · have hr : RO n d ≠ 0 := by
      intro h
      rcases hx with hx | hx
      · have hn : n = 0 := by
          have := Nat.div_add_mod n (2 ^ d)
          unfold RO at h; rw [if_pos hx] at h; rw [h, hx] at this; simp at this; omega
        subst hn; simp at hN; omega
      · omega
    rw [if_neg hr, if_neg h0]
    refine congrArg (s * sgnW + ·) ?_
    unfold norm1
    by_cases hb : 72057594037927936 ≤ RO n d
    · rw [if_pos hb]
      simp only []
      have hge : 36028797018963968 ≤ RO (RO n d) 1 := by
        have := (RO_le (RO n d) 1).1
        omega
      have hlt : RO (RO n d) 1 < 72057594037927936 := by
        have := (RO_lt (RO n d) 1 36028797018963968).2 (by omega)
        omega
      rw [RO_RO] at hge hlt ⊢
      exact norm2_sticky N n (d + 1) (d + f + 1) f (by omega) hf (by omega) hN (by omega) hlt
    · rw [if_neg hb]
      simp only []
      rcases hx with hx | hx
      · refine norm2_exact N (d + f) (RO n d) (by omega) ?_ (by omega) hr
        have hn : n = RO n d * 2 ^ d := by
          have := Nat.div_add_mod n (2 ^ d)
          unfold RO; rw [if_pos hx, Nat.mul_comm]; omega
        rw [hN]
        have e1 : d + f - 1 = d + (f - 1) := by omega
        rw [e1, Nat.pow_add, ← Nat.mul_assoc, ← hn]
      · exact norm2_sticky N n d (d + f) f rfl hf hx.1 hN hx.2 (by omega)

/-! ### The document's sum is the sum -/
theorem even_of (x : Nat) : 8 * x % 2 = 0 := by omega

def expo (w : Nat) : Nat := w / B % 2048
def frac (w : Nat) : Nat := w % B
/-- exponent and fraction in eighths, as the document writes them -/
def wholeE (w : Nat) : Nat := if expo w = 0 then 1 else expo w
def wholeM (w : Nat) : Nat := if expo w = 0 then frac w * 8 else (frac w + B) * 8
def mant (w : Nat) : Nat := if expo w = 0 then frac w else frac w + B

theorem wholeM_eq (w : Nat) : wholeM w = 8 * mant w := by unfold wholeM mant; split <;> omega
theorem expo_mag (w : Nat) : expo w = mag w / B := by
  have h1 : sgnW = B * 2048 := by decide
  unfold expo mag
  rw [h1, Nat.mod_mul_right_div_self]
theorem frac_mag (w : Nat) : frac w = mag w % B := by
  have h1 : sgnW = B * 2048 := by decide
  unfold frac mag
  rw [h1, Nat.mod_mul_right_mod]
theorem V_mant (w : Nat) : V (mag w) = mant w * 2 ^ (wholeE w - 1) := by
  have hB : 0 < B := by decide
  unfold V mant wholeE
  rw [expo_mag, frac_mag]
  by_cases h : mag w < B
  · rw [if_pos h, if_pos (Nat.div_eq_of_lt h), if_pos (Nat.div_eq_of_lt h), Nat.mod_eq_of_lt h]; simp
  · have : 1 ≤ mag w / B := (Nat.le_div_iff_mul_le hB).2 (by omega)
    rw [if_neg h, if_neg (by omega), if_neg (by omega), Nat.add_comm]
theorem mant_lt (w : Nat) : mant w < 2 * B := by
  have hB : 0 < B := by decide
  have : frac w < B := Nat.mod_lt _ hB
  unfold mant; split <;> omega
theorem wholeE_pos (w : Nat) : 1 ≤ wholeE w := by unfold wholeE; split <;> omega
theorem mant_ge (w : Nat) (h : 2 ≤ wholeE w) : B ≤ mant w := by
  unfold wholeE at h; unfold mant
  split at h
  · omega
  · rw [if_neg (by assumption)]; omega
theorem wholeE_mono {a b : Nat} (h : mag b ≤ mag a) : wholeE b ≤ wholeE a := by
  have hB : 0 < B := by decide
  have := Nat.div_le_div_right (c := B) h
  unfold wholeE
  rw [expo_mag, expo_mag]
  split <;> split <;> omega

/-- The document's way to a sum of two whose signs are the same (plus) or not: of sizes that fall. -/
theorem made_add (s a b : Nat) (h : mag b ≤ mag a) :
    made s (wholeE a) (wholeM a + RO (wholeM b) (wholeE a - wholeE b)) = if V (mag a) + V (mag b) = 0 then 0 else s * sgnW + RN (V (mag a) + V (mag b)) := by
  have he := wholeE_mono h
  have hB : B = 4503599627370496 := rfl
  have ma := mant_lt a
  have mb := mant_lt b
  have pb := wholeE_pos b
  obtain ⟨d, hd⟩ : ∃ d, wholeE a = d + wholeE b := ⟨wholeE a - wholeE b, by omega⟩
  rw [wholeM_eq, wholeM_eq, show wholeE a - wholeE b = d by omega, RO_add _ _ _ (even_of _)]
  have hlt : RO (8 * mant a * 2 ^ d + 8 * mant b) d < 144115188075855872 := by
    rw [← RO_add _ _ _ (even_of _)]
    have := (RO_le (8 * mant b) d).2
    have : 8 * mant b / 2 ^ d ≤ 8 * mant b := Nat.div_le_self _ _
    omega
  rw [hd]
  refine made_RN s _ _ d (wholeE b) pb ?_ hlt ?_
  · rw [V_mant, V_mant, hd, show d + wholeE b - 1 = d + (wholeE b - 1) by omega, Nat.pow_add, ← Nat.mul_assoc, ← Nat.add_mul, ← Nat.mul_assoc, Nat.mul_add, ← Nat.mul_assoc]
  · by_cases h3 : d ≤ 3
    · left
      have e : 8 * mant a * 2 ^ d + 8 * mant b = (8 * mant a + mant b * 2 ^ (3 - d)) * 2 ^ d := by
        rw [Nat.add_mul, Nat.mul_assoc (mant b), ← Nat.pow_add, show 3 - d + d = 3 by omega, Nat.mul_comm (mant b)]
      rw [e, Nat.mul_mod_left]
    · right
      have := mant_ge a (by omega)
      refine ⟨by omega, ?_⟩
      rw [← RO_add _ _ _ (even_of _)]
      omega

theorem made_sub (s a b : Nat) (h : mag b ≤ mag a) :
    made s (wholeE a) (wholeM a - RO (wholeM b) (wholeE a - wholeE b)) = if V (mag a) - V (mag b) = 0 then 0 else s * sgnW + RN (V (mag a) - V (mag b)) := by
  have he := wholeE_mono h
  have hB : B = 4503599627370496 := rfl
  have ma := mant_lt a
  have mb := mant_lt b
  have pb := wholeE_pos b
  obtain ⟨d, hd⟩ : ∃ d, wholeE a = d + wholeE b := ⟨wholeE a - wholeE b, by omega⟩
  have hV : V (mag b) ≤ V (mag a) := by
    rcases Nat.lt_or_ge (mag b) (mag a) with g | g
    · exact Nat.le_of_lt (V_lt g)
    · rw [Nat.le_antisymm h g]; exact Nat.le_refl _
  have hle : 8 * mant b ≤ 8 * mant a * 2 ^ d := by
    rw [V_mant, V_mant, hd, show d + wholeE b - 1 = d + (wholeE b - 1) by omega, Nat.pow_add, ← Nat.mul_assoc] at hV
    have := Nat.le_of_mul_le_mul_right hV (pow_pos _)
    rw [Nat.mul_assoc]; omega
  rw [wholeM_eq, wholeM_eq, show wholeE a - wholeE b = d by omega, RO_sub _ _ _ (even_of _) hle]
  have hsub := RO_sub (8 * mant a) (8 * mant b) d (even_of _) hle
  have hlt : RO (8 * mant a * 2 ^ d - 8 * mant b) d < 144115188075855872 := by
    rw [← hsub]; omega
  rw [hd]
  refine made_RN s _ _ d (wholeE b) pb ?_ hlt ?_
  · rw [V_mant, V_mant, hd, show d + wholeE b - 1 = d + (wholeE b - 1) by omega, Nat.pow_add, ← Nat.mul_assoc, ← Nat.sub_mul, ← Nat.mul_assoc, Nat.mul_sub, ← Nat.mul_assoc]
  · by_cases h3 : d ≤ 3
    · left
      have e : 8 * mant a * 2 ^ d - 8 * mant b = (8 * mant a - mant b * 2 ^ (3 - d)) * 2 ^ d := by
        rw [Nat.sub_mul, Nat.mul_assoc (mant b), ← Nat.pow_add, show 3 - d + d = 3 by omega, Nat.mul_comm (mant b)]
      rw [e, Nat.mul_mod_left]
    · right
      have := mant_ge a (by omega)
      refine ⟨by omega, ?_⟩
      rw [← hsub]
      have r2 := (RO_le (8 * mant b) d).2
      have h16 : 16 ≤ 2 ^ d := by
        have : 2 ^ 4 ≤ 2 ^ d := Nat.pow_le_pow_right (by decide) (by omega)
        omega
      have : 8 * mant b / 2 ^ d ≤ 8 * mant b / 16 := Nat.div_le_div_left h16 (by decide)
      omega

end Go.Proofs.YtlcpcgdecodjfaaDoor.Flt
