/- Plain laws of floats' words: order, maxima, sums; and the same as the walks spell them. -/
import Derived.Test.YtlcpcgdecodjfaaDoorFltW2
import Derived.Test.YtlcpcgdecodjfaaDoorFltSum
namespace Go.Proofs.YtlcpcgdecodjfaaDoor
open Go.RowKit
set_option linter.unusedVariables false
set_option linter.unusedSimpArgs false
namespace Flt
theorem self_eq (w : Nat) (hw : w < maxW) : w = (if neg w then sgnW else 0) + mag w := by
  unfold neg mag
  have e1 : sgnW = 9223372036854775808 := rfl
  have e2 : maxW = 18446744073709551616 := rfl
  rw [e2] at hw; rw [e1]
  by_cases g : w / 9223372036854775808 % 2 = 1
  · simp [g]; omega
  · simp [g]; omega
theorem mag_lt (w : Nat) : mag w < sgnW := Nat.mod_lt _ (by decide)
theorem word_eq (w : Nat) (hw : w < maxW) : (neg w = true ∧ w = sgnW + mag w) ∨ (neg w = false ∧ w = mag w) := by
  have := self_eq w hw
  cases h : neg w <;> rw [h] at this <;> simp at this
  · exact Or.inr ⟨rfl, this⟩
  · exact Or.inl ⟨rfl, this⟩
theorem sv_neg {w : Nat} (h : neg w = true) : sv w = -((V (mag w) : Nat) : Int) := by unfold sv; rw [h]; rfl
theorem sv_pos {w : Nat} (h : neg w = false) : sv w = ((V (mag w) : Nat) : Int) := by unfold sv; rw [h]; rfl
theorem rank_self (w : Nat) (h : canon w = w) : rank w = if w < sgnW then w + sgnW else maxW - 1 - w := by unfold rank; rw [h]
/-- Of a canonical word that is negative the size is not 0. -/
theorem canon_neg {w : Nat} (h : canon w = w) (hn : w = sgnW + mag w) : 0 < mag w := by
  have e1 : sgnW = 9223372036854775808 := rfl
  rcases Nat.eq_zero_or_pos (mag w) with g | g
  · exfalso
    unfold canon at h
    have : 0 < infR := by decide
    rw [if_neg (by omega), if_pos g] at h
    omega
  · exact g
theorem rank_sv (x y : Nat) (hx : x < maxW) (hy : y < maxW) (cx : canon x = x) (cy : canon y = y) : rank x < rank y ↔ sv x < sv y := by
  have e1 : sgnW = 9223372036854775808 := rfl
  have e2 : maxW = 18446744073709551616 := rfl
  have mx := mag_lt x
  have my := mag_lt y
  rw [rank_self x cx, rank_self y cy]
  rcases word_eq x hx with ⟨nx, ex⟩ | ⟨nx, ex⟩ <;> rcases word_eq y hy with ⟨ny, ey⟩ | ⟨ny, ey⟩
  · rw [sv_neg nx, sv_neg ny, if_neg (by omega), if_neg (by omega)]
    have := V_lt_iff (mag y) (mag x)
    omega
  · rw [sv_neg nx, sv_pos ny, if_neg (by omega), if_pos (by omega)]
    have p := canon_neg cx ex
    have := V_lt p
    omega
  · rw [sv_pos nx, sv_neg ny, if_pos (by omega), if_neg (by omega)]
    omega
  · rw [sv_pos nx, sv_pos ny, if_pos (by omega), if_pos (by omega)]
    have := V_lt_iff (mag x) (mag y)
    omega
theorem sv_inj (x y : Nat) (hx : x < maxW) (hy : y < maxW) (cx : canon x = x) (cy : canon y = y) (h : sv x = sv y) : x = y := by
  rcases word_eq x hx with ⟨nx, ex⟩ | ⟨nx, ex⟩ <;> rcases word_eq y hy with ⟨ny, ey⟩ | ⟨ny, ey⟩
  · rw [sv_neg nx, sv_neg ny] at h
    have := V_inj (r := mag x) (s := mag y) (by omega)
    omega
  · rw [sv_neg nx, sv_pos ny] at h
    have p := canon_neg cx ex
    have := V_lt p
    omega
  · rw [sv_pos nx, sv_neg ny] at h
    have p := canon_neg cy ey
    have := V_lt p
    omega
  · rw [sv_pos nx, sv_pos ny] at h
    have := V_inj (r := mag x) (s := mag y) (by omega)
    omega

theorem rank_inj (x y : Nat) (hx : x < maxW) (hy : y < maxW) : rank x = rank y ↔ canon x = canon y := by
  constructor
  · intro h; rw [← back_rank x hx, ← back_rank y hy, h]
  · intro h; rw [← rank_canon x, ← rank_canon y, h]

/-- A canonical word's size is at most that of what is infinite, but for the one that is no number. -/
theorem canon_cases (w : Nat) (hw : w < maxW) : canon w = nanW ∨ (canon w = 0) ∨ (canon w = w ∧ mag w ≤ infR) := by
  unfold canon
  by_cases h : infR < mag w
  · left; rw [if_pos h]
  · rw [if_neg h]
    by_cases g : mag w = 0
    · right; left; rw [if_pos g]
    · right; right; rw [if_neg g]; exact ⟨rfl, by omega⟩
theorem rank_ge (w : Nat) (hw : w < maxW) : 4503599627370495 ≤ rank w := by
  have e1 : sgnW = 9223372036854775808 := rfl
  have e2 : maxW = 18446744073709551616 := rfl
  have e3 : nanW = 9221120237041090561 := rfl
  have e4 : infR = 9218868437227405312 := rfl
  unfold rank
  rcases canon_cases w hw with h | h | ⟨h, g⟩
  · rw [h, e3, e1]; decide
  · rw [h, e1]; decide
  · rw [h]
    rcases word_eq w hw with ⟨nx, ex⟩ | ⟨nx, ex⟩
    · rw [if_neg (by omega)]; omega
    · rw [if_pos (by omega)]; omega
theorem rank_le (w : Nat) (hw : w < maxW) : rank w ≤ 18444492273895866369 ∧ (rank w = 18444492273895866369 ↔ infR < mag w) := by
  have e1 : sgnW = 9223372036854775808 := rfl
  have e2 : maxW = 18446744073709551616 := rfl
  have e3 : nanW = 9221120237041090561 := rfl
  have e4 : infR = 9218868437227405312 := rfl
  have hc : infR < mag w ↔ canon w = nanW := by
    constructor
    · intro h; unfold canon; rw [if_pos h]
    · intro h
      rw [← mag_canon_nan, h]; decide
  rw [hc]
  unfold rank
  rcases canon_cases w hw with h | h | ⟨h, g⟩
  · rw [h, e3, e1]; decide
  · rw [h, e3, e1]; decide
  · rw [h, e3]
    rcases word_eq w hw with ⟨nx, ex⟩ | ⟨nx, ex⟩
    · rw [if_neg (by omega)]; omega
    · rw [if_pos (by omega)]; omega

theorem top_rank (a b : Nat) : rank (top a b) = max (rank a) (rank b) := by
  unfold top
  split
  · rw [rank_canon]; omega
  · rw [rank_canon]; omega
theorem top_canon (a b : Nat) : canon (top a b) = top a b := by
  unfold top; split <;> rw [canon_canon]
theorem top_lt (a b : Nat) (ha : a < maxW) (hb : b < maxW) : top a b < maxW := by
  unfold top
  split
  · exact canon_lt b hb
  · exact canon_lt a ha
theorem canon_ext (x y : Nat) (hx : x < maxW) (hy : y < maxW) (cx : canon x = x) (cy : canon y = y) (h : rank x = rank y) : x = y := by
  have := (rank_inj x y hx hy).1 h
  rw [cx, cy] at this; exact this
theorem top_comm (a b : Nat) (ha : a < maxW) (hb : b < maxW) : top a b = top b a :=
  canon_ext _ _ (top_lt a b ha hb) (top_lt b a hb ha) (top_canon _ _) (top_canon _ _) (by rw [top_rank, top_rank]; omega)
theorem top_assoc (a b c : Nat) (ha : a < maxW) (hb : b < maxW) (hc : c < maxW) : top (top a b) c = top a (top b c) :=
  canon_ext _ _ (top_lt _ c (top_lt a b ha hb) hc) (top_lt a _ ha (top_lt b c hb hc)) (top_canon _ _) (top_canon _ _) (by rw [top_rank, top_rank, top_rank, top_rank]; omega)
theorem top_one (a b : Nat) : top a b = canon a ∨ top a b = canon b := by
  unfold top; split
  · exact Or.inr rfl
  · exact Or.inl rfl
theorem top_self (a : Nat) : top a a = canon a := by unfold top; rw [if_neg (by omega)]

theorem sum_lt (a b : Nat) (ha : a < maxW) (hb : b < maxW) : sum a b < maxW := by
  have e1 : sgnW = 9223372036854775808 := rfl
  have e2 : maxW = 18446744073709551616 := rfl
  have e4 : infR = 9218868437227405312 := rfl
  unfold sum
  split
  · decide
  · split
    · split
      · decide
      · exact ha
    · split
      · exact hb
      · unfold sumFin
        have := RN_le (sv a + sv b).natAbs
        split
        · decide
        · split <;> omega
/-- Every sum is canonical. -/
theorem sum_is_canon (a b : Nat) (ha : a < maxW) (hb : b < maxW) : canon (sum a b) = sum a b := by
  have hp : 0 < infR := by decide
  unfold sum
  split
  · decide
  · rename_i hn
    split
    · rename_i h1
      split
      · decide
      · exact canon_self a (by omega) (by omega)
    · split
      · exact canon_self b (by omega) (by omega)
      · unfold sumFin
        split
        · decide
        · rename_i h3
          have q1 := RN_pos (sv a + sv b).natAbs (by omega)
          have q2 := RN_le (sv a + sv b).natAbs
          split
          · have := canon_word 1 _ (by omega) q1 q2
            rw [Nat.one_mul] at this; exact this
          · have := canon_word 0 _ (by omega) q1 q2
            rw [Nat.zero_mul] at this; exact this

/-! ### A sum with the opposite -/
theorem mag_flip (y : Nat) (s : Nat) (h : y = s * sgnW + mag y) (t : Nat) : mag (t * sgnW + mag y) = mag y := by
  unfold mag
  rw [Nat.mul_add_mod_self_right, Nat.mod_mod]
def flip (y : Nat) : Nat := if y < sgnW then y + sgnW else y - sgnW
theorem flip_neg (y : Nat) (hy : y < maxW) : neg (flip y) = !neg y ∧ mag (flip y) = mag y ∧ flip y < maxW := by
  have e1 : sgnW = 9223372036854775808 := rfl
  have e2 : maxW = 18446744073709551616 := rfl
  unfold flip neg mag
  rw [e2] at hy; rw [e1, e2]
  by_cases h : y < 9223372036854775808
  · rw [if_pos h]
    have h1 : (y + 9223372036854775808) / 9223372036854775808 % 2 = 1 := by omega
    have h2 : y / 9223372036854775808 % 2 = 0 := by omega
    rw [h1, h2]
    refine ⟨rfl, by omega, by omega⟩
  · rw [if_neg h]
    have h1 : (y - 9223372036854775808) / 9223372036854775808 % 2 = 0 := by omega
    have h2 : y / 9223372036854775808 % 2 = 1 := by omega
    rw [h1, h2]
    refine ⟨rfl, by omega, by omega⟩
theorem sv_flip (y : Nat) (hy : y < maxW) : sv (flip y) = - sv y := by
  obtain ⟨h1, h2, _⟩ := flip_neg y hy
  cases g : neg y
  · rw [g] at h1
    rw [sv_neg h1, sv_pos g, h2]
  · rw [g] at h1
    rw [sv_pos h1, sv_neg g, h2]; omega

theorem sum_diff (x y : Nat) (hx : x < maxW) (hy : y < maxW) (cx : canon x = x) (cy : canon y = y) (nx : ¬ infR < mag x) (ny : ¬ infR < mag y) :
    (mag x = infR → x = y → sum x (canon (flip y)) = nanW) ∧
    (¬ (mag x = infR ∧ x = y) → (rank x < rank y ↔ rank (sum x (canon (flip y))) < rank 0) ∧ (x = y ↔ sum x (canon (flip y)) = 0)) := by
  have e1 : sgnW = 9223372036854775808 := rfl
  have e2 : maxW = 18446744073709551616 := rfl
  have e4 : infR = 9218868437227405312 := rfl
  obtain ⟨f1, f2, f3⟩ := flip_neg y hy
  have hsum : sum x (canon (flip y)) = sum x (flip y) := by
    have := sum_canon x (flip y)
    rw [cx] at this; exact this
  have hr0 : rank 0 = sgnW := by decide
  rw [hsum, hr0]
  have c2 := sum_is_canon x (flip y) hx f3
  have l2 := sum_lt x (flip y) hx f3
  -- a canonical word's rank is below that of 0 just if its highest bit is set
  have rk : ∀ d, d < maxW → canon d = d → (rank d < sgnW ↔ sgnW ≤ d) := by
    intro d hd hc
    rw [rank_self d hc]
    split <;> omega
  rw [rk _ l2 c2]
  constructor
  · intro h1 h2
    subst h2
    unfold sum
    rw [f2, if_neg (by omega), if_pos h1, if_pos ⟨h1, by rw [f1]; cases neg x <;> simp⟩]
  · intro hne
    unfold sum
    rw [f2, if_neg (by omega)]
    by_cases ix : mag x = infR
    · rw [if_pos ix]
      by_cases iy : mag y = infR
      · have hxy : x ≠ y := fun h => hne ⟨ix, h⟩
        have hn : neg x ≠ neg y := fun h => hxy ((same_inf x y hx hy ix iy).1 h)
        have hn2 : neg x = neg (flip y) := by rw [f1]; cases h1 : neg x <;> cases h2 : neg y <;> simp_all
        rw [if_neg (fun h => h.2 hn2)]
        rw [rank_self x cx, rank_self y cy]
        rcases word_eq x hx with ⟨a1, a2⟩ | ⟨a1, a2⟩ <;> rcases word_eq y hy with ⟨b1, b2⟩ | ⟨b1, b2⟩
        · exact absurd (a1.trans b1.symm) hn
        · rw [if_neg (by omega), if_pos (by omega)]; omega
        · rw [if_pos (by omega), if_neg (by omega)]; omega
        · exact absurd (a1.trans b1.symm) hn
      · rw [if_neg (fun h => iy h.1)]
        rw [rank_self x cx, rank_self y cy]
        have my := mag_lt y
        rcases word_eq x hx with ⟨a1, a2⟩ | ⟨a1, a2⟩ <;> rcases word_eq y hy with ⟨b1, b2⟩ | ⟨b1, b2⟩
        · rw [if_neg (by omega), if_neg (by omega)]; omega
        · rw [if_neg (by omega), if_pos (by omega)]; omega
        · rw [if_pos (by omega), if_neg (by omega)]; omega
        · rw [if_pos (by omega), if_pos (by omega)]; omega
    · rw [if_neg ix]
      by_cases iy : mag y = infR
      · rw [if_pos iy]
        rw [rank_self x cx, rank_self y cy]
        have mx := mag_lt x
        unfold flip
        rcases word_eq x hx with ⟨a1, a2⟩ | ⟨a1, a2⟩ <;> rcases word_eq y hy with ⟨b1, b2⟩ | ⟨b1, b2⟩
        · rw [if_neg (by omega), if_neg (by omega), if_neg (by omega)]; omega
        · rw [if_neg (by omega), if_pos (by omega), if_pos (by omega)]; omega
        · rw [if_pos (by omega), if_neg (by omega), if_neg (by omega)]; omega
        · rw [if_pos (by omega), if_pos (by omega), if_pos (by omega)]; omega
      · rw [if_neg iy, rank_sv x y hx hy cx cy]
        unfold sumFin
        rw [sv_flip y hy]
        have hxy : x = y ↔ sv x + -sv y = 0 := ⟨fun h => by rw [h]; omega, fun h => sv_inj x y hx hy cx cy (by omega)⟩
        rw [hxy]
        by_cases z : sv x + -sv y = 0
        · rw [if_pos z]; omega
        · rw [if_neg z]
          have q1 := RN_pos (sv x + -sv y).natAbs (by omega)
          have q2 := RN_le (sv x + -sv y).natAbs
          by_cases z2 : sv x + -sv y < 0
          · rw [if_pos z2]; omega
          · rw [if_neg z2]; omega

theorem sum_zero (x : Nat) (hx : x < maxW) (cx : canon x = x) (nx : ¬ infR < mag x) : sum x 0 = x := by
  have e4 : infR = 9218868437227405312 := rfl
  have m0 : mag 0 = 0 := by decide
  have s0 : sv 0 = 0 := by decide
  unfold sum
  rw [m0, if_neg (by omega)]
  by_cases ix : mag x = infR
  · rw [if_pos ix, if_neg (fun h => by omega)]
  · rw [if_neg ix, if_neg (by omega)]
    unfold sumFin
    rw [s0, Int.add_zero]
    rcases word_eq x hx with ⟨a1, a2⟩ | ⟨a1, a2⟩
    · have p := canon_neg cx a2
      have := V_lt p
      rw [sv_neg a1, if_neg (by omega), if_pos (by omega), Int.natAbs_neg, Int.natAbs_natCast, RN_V]
      omega
    · rw [sv_pos a1, Int.natAbs_natCast, RN_V]
      have := V_zero (mag x)
      by_cases z : ((V (mag x) : Nat) : Int) = 0
      · rw [if_pos z]; omega
      · rw [if_neg z, if_neg (by omega)]; omega

theorem sum_inf_right (x : Nat) (hx : x < maxW) (nx : mag x < infR) : sum x infR = infR ∧ sum 18442240474082181120 x = 18442240474082181120 := by
  have e4 : infR = 9218868437227405312 := rfl
  have m0 : mag infR = infR := by decide
  have m1 : mag 18442240474082181120 = infR := by decide
  unfold sum
  rw [m0, m1]
  constructor
  · rw [if_neg (by omega), if_neg (by omega), if_pos rfl]
  · rw [if_neg (by omega), if_pos rfl, if_neg (fun h => by omega)]

theorem sum_nan_right (x y : Nat) (h : infR < mag y) : sum x y = nanW := by unfold sum; rw [if_pos (Or.inr h)]

/-- Twice. -/
theorem sum_twice (a : Nat) (ha : a < maxW) : sum a a =
    if infR < mag a then nanW else if 9214364837600034816 ≤ mag a then (if neg a then sgnW else 0) + infR
    else if mag a = 0 then 0 else if mag a < B then (if neg a then sgnW else 0) + 2 * mag a else a + B := by
  have e1 : sgnW = 9223372036854775808 := rfl
  have e4 : infR = 9218868437227405312 := rfl
  have e5 : B = 4503599627370496 := rfl
  unfold sum
  by_cases hn : infR < mag a
  · rw [if_pos (Or.inl hn), if_pos hn]
  · rw [if_neg (by omega), if_neg hn]
    by_cases ix : mag a = infR
    · rw [if_pos ix, if_neg (fun h => h.2 rfl), if_pos (by omega), ← ix]
      exact self_eq a ha
    · rw [if_neg ix, if_neg ix]
      unfold sumFin
      have hV2 : ∀ n : Nat, n = V (mag a) + V (mag a) → (mag a ≠ 0 → n ≠ 0 ∧ RN n = if 9214364837600034816 ≤ mag a then infR else if mag a < B then 2 * mag a else mag a + B) := by
        intro n hn h0
        have hp : 0 < V (mag a) := by have := V_lt (r := 0) (s := mag a) (by omega); omega
        refine ⟨by omega, ?_⟩
        by_cases hb : mag a < B
        · rw [V_low _ (by omega)] at hn
          rw [if_neg (by omega), if_pos hb, RN_low n (by omega)]; omega
        · have := V_step (mag a) (by omega)
          have e : n = V (mag a + B) := by omega
          rw [e, RN_V]
          split <;> omega
      by_cases h0 : mag a = 0
      · have := (sv_zero a).2 h0
        rw [this, if_pos (by omega), if_neg (by omega), if_pos h0]
      · obtain ⟨g1, g2⟩ := hV2 _ rfl h0
        rcases word_eq a ha with ⟨a1, a2⟩ | ⟨a1, a2⟩
        · rw [sv_neg a1, show -((V (mag a) : Nat) : Int) + -((V (mag a) : Nat) : Int) = -((V (mag a) + V (mag a) : Nat) : Int) by omega, Int.natAbs_neg, Int.natAbs_natCast, if_neg (by omega), if_pos (by omega), g2, a1]
          simp only [if_true]
          split
          · rfl
          · split <;> omega
        · rw [sv_pos a1, show ((V (mag a) : Nat) : Int) + ((V (mag a) : Nat) : Int) = ((V (mag a) + V (mag a) : Nat) : Int) by omega, Int.natAbs_natCast, if_neg (by omega), if_neg (by omega), g2, a1]
          simp only [Bool.false_eq_true, if_false]
          split
          · rfl
          · split <;> omega
end Flt

/-! ### As the walks spell them -/
theorem kind3 {a : Int} : iKind a = 3 ↔ Flt.infR < Flt.mag a.toNat := by
  unfold iKind Flt.kind
  by_cases g1 : Flt.infR < Flt.mag a.toNat
  · simp [g1]
  · rw [if_neg g1]
    by_cases g2 : Flt.mag a.toNat = Flt.infR <;> by_cases g3 : Flt.mag a.toNat = 0 <;> simp [g1, g2, g3] <;> split <;> omega
theorem kind2 {a : Int} : iKind a = 2 ↔ Flt.mag a.toNat = Flt.infR := by
  unfold iKind Flt.kind
  by_cases g1 : Flt.infR < Flt.mag a.toNat
  · rw [if_pos g1]; omega
  · rw [if_neg g1]
    by_cases g2 : Flt.mag a.toNat = Flt.infR
    · rw [if_pos g2]; simp [g2]
    · rw [if_neg g2]; split <;> omega

theorem p_wordOk {a : Int} (ha : U64 a) : bWordOk (iRank a) = true := by
  unfold bWordOk iRank; rw [Int.toNat_natCast]; exact wordOk_rank _ (u64_nat ha)
theorem p_word {a : Int} (ha : U64 a) : iWord (iRank a) = iCanon a := by
  unfold iWord iRank iCanon; rw [Int.toNat_natCast, word_rank _ (u64_nat ha)]
theorem p_canon2 (a : Int) : iCanon (iCanon a) = iCanon a := by
  unfold iCanon; rw [Int.toNat_natCast, canon_canon]
theorem p_rank_canon (a : Int) : iRank (iCanon a) = iRank a := by
  unfold iRank iCanon; rw [Int.toNat_natCast, rank_canon]
theorem p_kind_canon (a : Int) : iKind (iCanon a) = iKind a := by
  unfold iKind iCanon; rw [Int.toNat_natCast]
  have hp : 0 < Flt.infR := by decide
  unfold Flt.kind
  by_cases h : Flt.infR < Flt.mag a.toNat
  · rw [if_pos h, if_pos ((Flt.mag_canon_nan _).2 h)]
  · rw [if_neg h, if_neg (fun g => h ((Flt.mag_canon_nan _).1 g)), (Flt.sv_canon _ h).2]
theorem p_rank_inj {a b : Int} (ha : U64 a) (hb : U64 b) : iRank a = iRank b ↔ iCanon a = iCanon b := by
  have := Flt.rank_inj a.toNat b.toNat (u64_nat ha) (u64_nat hb)
  unfold iRank iCanon; omega
theorem p_rank_eq {a b : Int} (ha : U64 a) (hb : U64 b) : (iRank a == iRank b) = (iCanon a == iCanon b) := by
  rw [Bool.eq_iff_iff, beq_iff_eq, beq_iff_eq, p_rank_inj ha hb]
theorem p_less {a b : Int} : bLess a b = true ↔ iRank a < iRank b := by unfold bLess; exact decide_eq_true_iff
theorem p_less_no {a b : Int} : bLess a b = false ↔ ¬ iRank a < iRank b := by unfold bLess; exact decide_eq_false_iff_not
theorem p_neginf : iRank 18442240474082181120 = 4503599627370495 := by decide +kernel
theorem p_nan : iRank 9221120237041090561 = 18444492273895866369 := by decide +kernel
theorem p_rank_ge {a : Int} (ha : U64 a) : 4503599627370495 ≤ iRank a := by
  have := Flt.rank_ge a.toNat (u64_nat ha)
  unfold iRank; omega
theorem p_rank_le {a : Int} (ha : U64 a) : iRank a ≤ 18444492273895866369 ∧ (iRank a = 18444492273895866369 ↔ iKind a = 3) := by
  have h := Flt.rank_le a.toNat (u64_nat ha)
  have k := @kind3 a
  rw [k, ← h.2]
  unfold iRank; omega
theorem u64_top {a b : Int} (ha : U64 a) (hb : U64 b) : U64 (iTop a b) := by
  have h1 := Flt.top_lt _ _ (u64_nat ha) (u64_nat hb)
  have e2 : Flt.maxW = 18446744073709551616 := rfl
  unfold U64 iTop; omega
theorem u64_sum {a b : Int} (ha : U64 a) (hb : U64 b) : U64 (iSum a b) := by
  have h1 := Flt.sum_lt _ _ (u64_nat ha) (u64_nat hb)
  have e2 : Flt.maxW = 18446744073709551616 := rfl
  unfold U64 iSum; omega
theorem p_sum_canon {a b : Int} (ha : U64 a) (hb : U64 b) : iCanon (iSum a b) = iSum a b := by
  unfold iCanon iSum; rw [Int.toNat_natCast, Flt.sum_is_canon _ _ (u64_nat ha) (u64_nat hb)]
theorem p_top_comm {a b : Int} (ha : U64 a) (hb : U64 b) : iTop a b = iTop b a := by
  unfold iTop; rw [Flt.top_comm _ _ (u64_nat ha) (u64_nat hb)]
theorem p_top_assoc {a b c : Int} (ha : U64 a) (hb : U64 b) (hc : U64 c) : iTop (iTop a b) c = iTop a (iTop b c) := by
  unfold iTop; rw [Int.toNat_natCast, Int.toNat_natCast, Flt.top_assoc _ _ _ (u64_nat ha) (u64_nat hb) (u64_nat hc)]
theorem p_top_one {a b : Int} : iTop a b = iCanon a ∨ iTop a b = iCanon b := by
  unfold iTop iCanon
  rcases Flt.top_one a.toNat b.toNat with h | h <;> rw [h]
  · exact Or.inl rfl
  · exact Or.inr rfl
theorem p_top_self {a : Int} : iTop a a = iCanon a := by unfold iTop iCanon; rw [Flt.top_self]
theorem p_top_rank {a b : Int} : iRank (iTop a b) = max (iRank a) (iRank b) := by
  unfold iRank iTop; rw [Int.toNat_natCast, Flt.top_rank]; omega
end Go.Proofs.YtlcpcgdecodjfaaDoor
