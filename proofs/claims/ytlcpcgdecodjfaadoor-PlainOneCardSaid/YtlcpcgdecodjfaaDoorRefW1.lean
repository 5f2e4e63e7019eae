/- The walks of the document's answer for layer 1: what each function computes, on words. -/
import Derived.Test.YtlcpcgdecodjfaaDoorFltW2
import Derived.Test.YtlcpcgdecodjfaaDoorFltRO
namespace Go.Proofs.YtlcpcgdecodjfaaDoor
open Go.RowKit
set_option linter.unusedVariables false
set_option linter.unusedSimpArgs false

theorem rparts_any (a : Int) (ha : U64 a) (w : World) : Calls Tryd.prog 97 #[.int .u64 a] w fun e w' => e = .returned (.tuple #[.int .i64 (a / 4503599627370496 % 2048), .int .u64 (a % 4503599627370496)]) ∧ w = w' := by
  obtain ⟨h0, h1⟩ := ha
  go_enter Tryd.func97, Tryd.ntmps97
  go_wp2
  go_ret2
  exact ⟨rfl, rfl⟩

theorem kind_of {a : Int} (ha : U64 a) : iKind a =
    if a / 4503599627370496 % 2048 = 2047 then (if a % 4503599627370496 = 0 then 2 else 3) else if a / 4503599627370496 % 2048 = 0 ∧ a % 4503599627370496 = 0 then 0 else 1 := by
  unfold U64 at ha
  have e1 : Flt.infR = 9218868437227405312 := rfl
  have e2 : Flt.sgnW = 9223372036854775808 := rfl
  unfold iKind Flt.kind Flt.mag
  rw [e1, e2]
  by_cases g1 : a / 4503599627370496 % 2048 = 2047
  · rw [if_pos g1]
    by_cases g2 : a % 4503599627370496 = 0
    · rw [if_pos g2, if_neg (by omega), if_pos (by omega)]; rfl
    · rw [if_neg g2, if_pos (by omega)]; rfl
  · rw [if_neg g1, if_neg (by omega), if_neg (by omega)]
    by_cases g3 : a / 4503599627370496 % 2048 = 0 ∧ a % 4503599627370496 = 0
    · rw [if_pos g3, if_pos (by omega)]; rfl
    · rw [if_neg g3, if_neg (by omega)]; rfl


theorem rkind_any (a : Int) (ha : U64 a) (w : World) : Calls Tryd.prog 62 #[.int .u64 a] w fun e w' => e = .returned (.int .i64 (iKind a)) ∧ w = w' := by
  have hk := kind_of ha
  have H := (show Hid _ from hk)
  clear hk
  go_enter Tryd.func62, Tryd.ntmps62
  go_wp2_with fail
  refine (rparts_any a ha _).mono ?_
  rintro e w' ⟨rfl, rfl⟩
  go_wp2_with fail
  · go_ret; exact ⟨ret_int (by rw [H.out, if_pos ‹_›, if_neg (bne_iff_ne.1 ‹_›)]), rfl⟩
  · go_ret; exact ⟨ret_int (by rw [H.out, if_pos ‹_›, if_pos (bne_false ‹_›)]), rfl⟩
  · go_ret; exact ⟨ret_int (by rw [H.out, if_neg ‹_›, if_pos ⟨‹_›, beq_iff_eq.1 ‹_›⟩]), rfl⟩
  · go_ret; exact ⟨ret_int (by rw [H.out, if_neg ‹_›, if_neg (fun g => beq_eq_false_iff_ne.1 ‹(a % 4503599627370496 == 0) = false› g.2)]), rfl⟩
  · go_ret; exact ⟨ret_int (by rw [H.out, if_neg ‹_›, if_neg (fun g => ‹¬a / 4503599627370496 % 2048 = 0› g.1)]), rfl⟩

theorem shift_or (n : Int) (h0 : 0 ≤ n) (h1 : n < 18446744073709551616) : bits BinOp.or IntKind.u64 (n / 2) (n % 2) = (Flt.RO n.toNat 1 : Nat) := by
  have hor : ∀ q : Nat, q ||| 1 = q / 2 * 2 + 1 := by
    intro q
    have h := Nat.two_pow_add_eq_or_of_lt (i := 1) (b := 1) (by omega) (q / 2)
    rcases Nat.mod_two_eq_zero_or_one q with g | g
    · have : 2 ^ 1 * (q / 2) = q := by omega
      rw [this] at h; omega
    · have hq : q = 2 ^ 1 * (q / 2) + 1 := by omega
      have h2 : q ||| 1 = (2 ^ 1 * (q / 2) ||| 1) ||| 1 := by rw [← h]; rw [← hq]
      rw [h2, Nat.or_assoc, Nat.or_self, ← h]; omega
  obtain ⟨m, rfl⟩ := Int.eq_ofNat_of_zero_le h0
  rw [u64_or _ _ (by omega) (by omega) (by omega) (by omega), Flt.RO_one]
  have e1 : ((m : Int) / 2).toNat = m / 2 := by omega
  have e2 : ((m : Int) % 2).toNat = m % 2 := by omega
  rw [e1, e2, Int.toNat_natCast]
  rcases Nat.mod_two_eq_zero_or_one m with g | g
  · rw [if_pos g, g, Nat.or_zero]
  · rw [if_neg (by omega), g, hor]

theorem RO_u64 (n k : Nat) (h : n < 18446744073709551616) : Flt.RO n k < 18446744073709551616 := by
  cases k with
  | zero => rw [Flt.RO_zero]; exact h
  | succ k =>
    have := (Flt.RO_lt n (k + 1) 9223372036854775808).2 (Nat.lt_of_le_of_lt (Nat.div_le_self _ _) h)
    omega

theorem shifted_end {m k r : Nat} {b v : Int} (hk : (k : Int) ≤ b) (hr : Flt.RO m k = r) (h : (r : Int) ≤ 1 ∨ b ≤ (k : Int)) (hv : v = (r : Int) ∨ (r : Int) = v) : v = (Flt.RO m b.toNat : Nat) := by
  have hv : v = (r : Int) := by omega
  subst hv
  by_cases g : b ≤ (k : Int)
  · have : b.toNat = k := by omega
    rw [this, hr]
  · have h1 := Flt.RO_stays (n := m) (d := k) (by omega) (b.toNat - k)
    rw [show k + (b.toNat - k) = b.toNat by omega, hr] at h1
    rw [h1]

theorem rshifted_any (m : Nat) (b : Int) (hm : m < 18446744073709551616) (hb : 0 ≤ b) (hb2 : b ≤ 4096) (w : World) :
    Calls Tryd.prog 126 #[.int .u64 m, .int .i64 b] w fun e w' => e = .returned (.int .u64 (Flt.RO m b.toNat : Nat)) ∧ w = w' := by
  go_enter Tryd.func126, Tryd.ntmps126
  go_wp2
  go_loop [0, 5] (fun v i => ∃ k : Nat, (k : Int) ≤ b ∧ i = .int .i64 k ∧ v = .int .u64 (Flt.RO m k : Nat)) (fun _ i => (b - intOf i).toNat)
  case atStart => exact ⟨0, by omega, rfl, by rw [Flt.RO_zero]⟩
  case round =>
    obtain ⟨k, hk, rfl, rfl⟩ := hrel
    have hu := RO_u64 m k hm
    have hso := shift_or (Flt.RO m k : Nat) (by omega) (by omega)
    rw [Int.toNat_natCast, Flt.RO_RO] at hso
    have H : Hid (bits BinOp.or IntKind.u64 (((Flt.RO m k : Nat) : Int) / 2) (((Flt.RO m k : Nat) : Int) % 2) = (Flt.RO m (k + 1) : Nat)) := hso
    clear hso
    generalize hr : Flt.RO m k = r at *
    have HR : Hid (Flt.RO m k = r) := hr
    clear hr
    go_wp2
    · go_round
      case rel => exact ⟨k + 1, by omega, by go_num, by rw [H.out]⟩
      case measure => simp [intOf]; omega
    · go_ret; exact ⟨ret_int (shifted_end hk HR.out (Or.inl (by omega)) (Or.inr (beq_iff_eq.1 ‹_›))), rfl⟩
    · go_ret; exact ⟨ret_int (shifted_end hk HR.out (Or.inl (by omega)) (Or.inl rfl)), rfl⟩
    · go_ret; exact ⟨ret_int (shifted_end hk HR.out (Or.inr (by assumption)) (Or.inr (beq_iff_eq.1 ‹_›))), rfl⟩
    · go_ret; exact ⟨ret_int (shifted_end hk HR.out (Or.inr (by assumption)) (Or.inl rfl)), rfl⟩
    · go_ret; exact ⟨ret_int (shifted_end hk HR.out (Or.inr (by assumption)) (Or.inl rfl)), rfl⟩

theorem made_zero (s e : Nat) : Flt.made s e 0 = 0 := rfl
theorem shift_or' (n : Int) (h0 : 0 ≤ n) (h1 : n < 18446744073709551616) : ∃ r : Int, r = (Flt.RO n.toNat 1 : Nat) ∧ bits BinOp.or IntKind.u64 (n / 2) (n % 2) = r ∧ n / 2 ≤ r ∧ r ≤ n / 2 + 1 ∧ (n < 144115188075855872 → r < 72057594037927936) := by
  refine ⟨_, rfl, shift_or n h0 h1, ?_⟩
  have e : n.toNat / 2 ^ 1 = (n / 2).toNat := by omega
  have h := Flt.RO_le n.toNat 1
  have h2 := Flt.RO_lt n.toNat 1 36028797018963968
  rw [e] at h h2
  omega
theorem norm1_hi {x y : Int} (h : 72057594037927936 ≤ y) (hx : 0 ≤ x) {r : Int} (hr : r = (Flt.RO y.toNat 1 : Nat)) (hlt : r < 72057594037927936) : Flt.norm1 (x + 1).toNat r.toNat = Flt.norm1 x.toNat y.toNat := by
  have e : r.toNat = Flt.RO y.toNat 1 := by omega
  unfold Flt.norm1
  rw [if_neg (by omega), if_pos (by omega), e, show (x + 1).toNat = x.toNat + 1 by omega]
theorem norm1_lo {x y : Int} (h : y < 72057594037927936) : Flt.norm1 x.toNat y.toNat = (x.toNat, y.toNat) := by
  unfold Flt.norm1; rw [if_neg (by omega)]
theorem norm2_lo {x y : Int} (h : y < 36028797018963968) (hx : 1 < x) (hy : 0 ≤ y) : Flt.norm2 (x - 1).toNat (y * 2).toNat = Flt.norm2 x.toNat y.toNat := by
  obtain ⟨i, hi⟩ : ∃ i, x.toNat = i + 2 := ⟨x.toNat - 2, by omega⟩
  rw [hi, show (x - 1).toNat = i + 1 by omega, show (y * 2).toNat = y.toNat * 2 by omega]
  conv => rhs; unfold Flt.norm2
  rw [if_pos (by omega)]
theorem norm2_end {x y : Int} (hx : 1 ≤ x) (h : x = 1 ∨ 36028797018963968 ≤ y) : Flt.norm2 x.toNat y.toNat = (x.toNat, y.toNat) := by
  rcases h with h | h
  · subst h; rfl
  · match hx : x.toNat with
    | 0 => rfl
    | 1 => rfl
    | i + 2 => unfold Flt.norm2; rw [if_neg (by omega)]

theorem made_eq {s e m x y x1 y1 : Int} (hs0 : 0 ≤ s) (hx1 : 1 ≤ x1) (hy1 : 1 ≤ y1) (h0 : ¬ m = 0) (hm : 0 ≤ m) (h1 : Flt.norm1 e.toNat m.toNat = (x.toNat, y.toNat)) (h2 : Flt.norm2 x.toNat y.toNat = (x1.toNat, y1.toNat)) :
    ∃ q : Int, ((4 < y1 % 8 ∨ y1 % 8 = 4 ∧ y1 / 8 % 2 = 1) → q = y1 / 8 + 1) ∧ (¬ (4 < y1 % 8 ∨ y1 % 8 = 4 ∧ y1 / 8 % 2 = 1) → q = y1 / 8) ∧
    ((Flt.made s.toNat e.toNat m.toNat : Nat) : Int) = s * 9223372036854775808 + min ((x1 - 1) * 4503599627370496 + q) 9218868437227405312 := by
  refine ⟨(Flt.cut y1.toNat 3 : Nat), ?_, ?_, ?_⟩
  · intro h
    unfold Flt.cut Flt.up
    rw [if_pos (by omega)]; omega
  · intro h
    unfold Flt.cut Flt.up
    rw [if_neg (by omega)]; omega
  · unfold Flt.made Flt.fin
    rw [if_neg (by omega), h1]
    simp only []
    rw [h2]
    simp only []
    have e1 : Flt.infR = 9218868437227405312 := rfl
    have e2 : Flt.sgnW = 9223372036854775808 := rfl
    have e3 : Flt.B = 4503599627370496 := rfl
    rw [e1, e2, e3]
    generalize Flt.cut y1.toNat 3 = c
    omega

set_option maxRecDepth 10000 in
set_option maxHeartbeats 400000 in
theorem rmade_any (s e m : Int) (hs0 : 0 ≤ s) (hs : s ≤ 1) (he : 1 ≤ e) (he2 : e ≤ 2046) (hm0 : 0 ≤ m) (hm : m < 144115188075855872) (w : World) :
    Calls Tryd.prog 127 #[.int .u64 s, .int .i64 e, .int .u64 m] w fun e' w' => e' = .returned (.int .u64 (Flt.made s.toNat e.toNat m.toNat : Nat)) ∧ w = w' := by
  by_cases h0 : m = 0
  · subst h0
    go_enter Tryd.func127, Tryd.ntmps127
    go_wp2
    go_ret
    exact ⟨ret_int (by rw [Int.toNat_zero, made_zero]; rfl), rfl⟩
  · have h0' : (m == 0) = false := by simp; exact h0
    go_enter Tryd.func127, Tryd.ntmps127
    go_wp2
    go_loop [1, 2] (fun e' m' => ∃ x y : Int, e' = .int .i64 x ∧ m' = .int .u64 y ∧ Hid (Flt.norm1 x.toNat y.toNat = Flt.norm1 e.toNat m.toNat) ∧ y < 144115188075855872 ∧ 1 ≤ x ∧ x ≤ 2047 ∧ (x ≤ 2046 ∨ y < 72057594037927936) ∧ 1 ≤ y) (fun _ m' => (intOf m').toNat)
    case atStart => exact ⟨e, m, rfl, rfl, rfl, hm, he, by omega, Or.inl he2, by omega⟩
    case round =>
      obtain ⟨x, y, rfl, rfl, H1, hy, hx1, hx2, hxy, hy1⟩ := hrel
      by_cases hb : 72057594037927936 ≤ y
      · obtain ⟨r, hr, hso, hr1, hr2, hr3⟩ := shift_or' y (by omega) (by omega)
        have HR : Hid (r = (Flt.RO y.toNat 1 : Nat)) := hr
        have hr3 := hr3 hy
        clear hr h0 h0'
        have hx3 : x ≤ 2046 := by omega
        clear hxy
        go_wp2
        go_round
        case rel =>
          refine ⟨x + 1, r, rfl, rfl, ?_, by omega, by omega, by omega, by omega, by omega⟩
          show _ = _
          rw [← H1.out]
          exact norm1_hi hb (by omega) HR.out hr3
        case measure => simp only [intOf]; omega
      · have hb' : y < 72057594037927936 := by omega
        have H2 : Hid (Flt.norm1 e.toNat m.toNat = (x.toNat, y.toNat)) := by
          show _ = _
          rw [← H1.out]; exact norm1_lo hb'
        clear H1 hxy h0' hb
        have H0 : Hid (¬ m = 0) := h0
        clear h0
        go_wp2
        go_loop [1, 2] (fun e' m' => ∃ x1 y1 : Int, e' = .int .i64 x1 ∧ m' = .int .u64 y1 ∧ Hid (Flt.norm2 x1.toNat y1.toNat = Flt.norm2 x.toNat y.toNat) ∧ y1 < 72057594037927936 ∧ 1 ≤ x1 ∧ x1 ≤ 2047 ∧ 1 ≤ y1) (fun e' _ => (intOf e').toNat)
        case atStart => exact ⟨x, y, rfl, rfl, rfl, hb', hx1, hx2, hy1⟩
        case round =>
          obtain ⟨x1, y1, rfl, rfl, H1, hyy, hxx1, hxx2, hyy1⟩ := hrel
          by_cases c1 : y1 < 36028797018963968 ∧ 1 < x1
          · obtain ⟨c1, c2⟩ := c1
            go_wp2
            go_round
            case rel =>
              refine ⟨x1 - 1, y1 * 2, rfl, rfl, ?_, by omega, by omega, by omega, by omega⟩
              show _ = _
              rw [← H1.out]
              exact norm2_lo c1 c2 (by omega)
            case measure => simp [intOf]; omega
          · have H3 : Hid (Flt.norm2 x.toNat y.toNat = (x1.toNat, y1.toNat)) := by
              show _ = _
              rw [← H1.out]; exact norm2_end (by omega) (by omega)
            clear H1
            by_cases c2 : y1 < 36028797018963968
            · have ex : ¬ 1 < x1 := by omega
              clear c1
              go_wp2
              all_goals (go_ret; refine ⟨ret_int ?_, rfl⟩)
              all_goals (obtain ⟨q, q1, q2, q3⟩ := made_eq (s := s) hs0 hxx1 hyy1 H0.out hm0 H2.out H3.out; rw [q3]; clear q3 H3 H2 H0)
              all_goals (simp only [beq_iff_eq, beq_eq_false_iff_ne, ne_eq] at *)
              all_goals omega
            · clear c1
              go_wp2
              all_goals (go_ret; refine ⟨ret_int ?_, rfl⟩)
              all_goals (obtain ⟨q, q1, q2, q3⟩ := made_eq (s := s) hs0 hxx1 hyy1 H0.out hm0 H2.out H3.out; rw [q3]; clear q3 H3 H2 H0)
              all_goals (simp only [beq_iff_eq, beq_eq_false_iff_ne, ne_eq] at *)
              all_goals omega
end Go.Proofs.YtlcpcgdecodjfaaDoor
