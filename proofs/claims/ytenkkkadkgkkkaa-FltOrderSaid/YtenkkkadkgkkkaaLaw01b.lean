/- The walks of FltOrder, FltNumbers, FltTwice, FltNear: each returns true, for every input. -/
import Derived.Test.YtenkkkadkgkkkaaLaw01
namespace Go.Proofs.Ytenkkkadkgkkkaa
open Go.RowKit
set_option linter.unusedVariables false
set_option linter.unusedSimpArgs false

set_option maxRecDepth 10000 in
set_option maxHeartbeats 2000000 in
theorem fltOrder_walk (a b c : Int) (ha : U64 a) (hb : U64 b) (hc : U64 c) (w : World) : Calls Try.prog 5 #[.int .u64 a, .int .u64 b, .int .u64 c] w fun e w' => e = .returned (.bool true) ∧ Below w.heap.size w w' := by
  have hra := u64_rank ha
  have hca := u64_canon ha
  have f1 := p_wordOk ha
  have f2 := p_word ha
  have f3 := p_canon2 a
  have f4 : (!((iRank a == iRank b) == (iCanon a == iCanon b))) = false := by rw [p_rank_eq ha hb]; simp
  have hwa := u64_word hra
  have u1 : U64 18442240474082181120 := u64_of (by decide +kernel)
  have u2 : U64 9221120237041090561 := u64_of (by decide +kernel)
  have l1 : bLess a a = false := p_less_no.2 (by omega)
  have l2 : bLess a 18442240474082181120 = false := p_less_no.2 (by have := p_rank_ge ha; rw [p_neginf]; omega)
  have l3 : bLess 9221120237041090561 a = false := p_less_no.2 (by have := (p_rank_le ha).1; rw [p_nan]; omega)
  have l4 : iKind a = 3 ∨ bLess a 9221120237041090561 = true := by
    by_cases h : iKind a = 3
    · exact Or.inl h
    · refine Or.inr (p_less.2 ?_)
      have := p_rank_le ha
      rw [p_nan]; omega
  have key : (bLess a b = true → bLess b c = true → bLess a c = true) ∧ (bLess a b = true → bLess b a = false) := by
    rw [p_less, p_less, p_less, p_less_no]; omega
  have main : ∀ x y z u v k, bLess a b = x → bLess b c = y → bLess a c = z → bLess b a = u → (iKind a == 3) = k → bLess a 9221120237041090561 = v → (x = true → y = true → z = true) → (x = true → u = false) → (k = true ∨ v = true) →
      Calls Try.prog 5 #[.int .u64 a, .int .u64 b, .int .u64 c] w fun e w' => e = .returned (.bool true) ∧ Below w.heap.size w w' := by
    intro x y z u v k e1 e2 e3 e4 e5 e6 i1 i2 i3
    clear key l4
    cases x
    · clear i1 i2 e2 e3 e4
      cases k
      · have e7 : v = true := by simpa using i3
        subst e7
        clear i3
        go_enter Try.func5, Try.ntmps5
        go_wp2_with (first | (go_at_call 11; refine (awake_any _).mono ?_; rintro e w' ⟨rfl, n, rfl⟩) | (go_at_call 22; refine (sum_any _ _ (by assumption) (by assumption) _).mono ?_; rintro e w' ⟨rfl, n, rfl⟩) | (go_at_call 12; refine (canon_any _ (by assumption) _).mono ?_; rintro e w' ⟨rfl, rfl⟩) | (go_at_call 18; refine (less_any _ _ (by assumption) (by assumption) _).mono ?_; rintro e w' ⟨rfl, rfl⟩) | (go_at_call 20; refine (max_any _ _ (by assumption) (by assumption) _).mono ?_; rintro e w' ⟨rfl, rfl⟩) | (go_at_call 14; refine (kind_any _ (by assumption) _).mono ?_; rintro e w' ⟨rfl, rfl⟩) | (go_at_call 16; refine (rank_any _ (by assumption) _).mono ?_; rintro e w' ⟨rfl, rfl⟩) | (go_at_call 24; refine (word_any _ (by assumption) _).mono ?_; rintro e w' ⟨rfl, rfl⟩))
        go_ret
        exact ⟨rfl, quiet_below ⟨_, rfl⟩⟩
      · clear i3 e6
        go_enter Try.func5, Try.ntmps5
        go_wp2_with (first | (go_at_call 11; refine (awake_any _).mono ?_; rintro e w' ⟨rfl, n, rfl⟩) | (go_at_call 22; refine (sum_any _ _ (by assumption) (by assumption) _).mono ?_; rintro e w' ⟨rfl, n, rfl⟩) | (go_at_call 12; refine (canon_any _ (by assumption) _).mono ?_; rintro e w' ⟨rfl, rfl⟩) | (go_at_call 18; refine (less_any _ _ (by assumption) (by assumption) _).mono ?_; rintro e w' ⟨rfl, rfl⟩) | (go_at_call 20; refine (max_any _ _ (by assumption) (by assumption) _).mono ?_; rintro e w' ⟨rfl, rfl⟩) | (go_at_call 14; refine (kind_any _ (by assumption) _).mono ?_; rintro e w' ⟨rfl, rfl⟩) | (go_at_call 16; refine (rank_any _ (by assumption) _).mono ?_; rintro e w' ⟨rfl, rfl⟩) | (go_at_call 24; refine (word_any _ (by assumption) _).mono ?_; rintro e w' ⟨rfl, rfl⟩))
        go_ret
        exact ⟨rfl, quiet_below ⟨_, rfl⟩⟩
    · obtain rfl := i2 rfl
      clear i2
      cases y
      · clear i1 e3
        cases k
        · have e7 : v = true := by simpa using i3
          subst e7
          clear i3
          go_enter Try.func5, Try.ntmps5
          go_wp2_with (first | (go_at_call 11; refine (awake_any _).mono ?_; rintro e w' ⟨rfl, n, rfl⟩) | (go_at_call 22; refine (sum_any _ _ (by assumption) (by assumption) _).mono ?_; rintro e w' ⟨rfl, n, rfl⟩) | (go_at_call 12; refine (canon_any _ (by assumption) _).mono ?_; rintro e w' ⟨rfl, rfl⟩) | (go_at_call 18; refine (less_any _ _ (by assumption) (by assumption) _).mono ?_; rintro e w' ⟨rfl, rfl⟩) | (go_at_call 20; refine (max_any _ _ (by assumption) (by assumption) _).mono ?_; rintro e w' ⟨rfl, rfl⟩) | (go_at_call 14; refine (kind_any _ (by assumption) _).mono ?_; rintro e w' ⟨rfl, rfl⟩) | (go_at_call 16; refine (rank_any _ (by assumption) _).mono ?_; rintro e w' ⟨rfl, rfl⟩) | (go_at_call 24; refine (word_any _ (by assumption) _).mono ?_; rintro e w' ⟨rfl, rfl⟩))
          go_ret
          exact ⟨rfl, quiet_below ⟨_, rfl⟩⟩
        · clear i3 e6
          go_enter Try.func5, Try.ntmps5
          go_wp2_with (first | (go_at_call 11; refine (awake_any _).mono ?_; rintro e w' ⟨rfl, n, rfl⟩) | (go_at_call 22; refine (sum_any _ _ (by assumption) (by assumption) _).mono ?_; rintro e w' ⟨rfl, n, rfl⟩) | (go_at_call 12; refine (canon_any _ (by assumption) _).mono ?_; rintro e w' ⟨rfl, rfl⟩) | (go_at_call 18; refine (less_any _ _ (by assumption) (by assumption) _).mono ?_; rintro e w' ⟨rfl, rfl⟩) | (go_at_call 20; refine (max_any _ _ (by assumption) (by assumption) _).mono ?_; rintro e w' ⟨rfl, rfl⟩) | (go_at_call 14; refine (kind_any _ (by assumption) _).mono ?_; rintro e w' ⟨rfl, rfl⟩) | (go_at_call 16; refine (rank_any _ (by assumption) _).mono ?_; rintro e w' ⟨rfl, rfl⟩) | (go_at_call 24; refine (word_any _ (by assumption) _).mono ?_; rintro e w' ⟨rfl, rfl⟩))
          go_ret
          exact ⟨rfl, quiet_below ⟨_, rfl⟩⟩
      · obtain rfl := i1 rfl rfl
        clear i1
        cases k
        · have e7 : v = true := by simpa using i3
          subst e7
          clear i3
          go_enter Try.func5, Try.ntmps5
          go_wp2_with (first | (go_at_call 11; refine (awake_any _).mono ?_; rintro e w' ⟨rfl, n, rfl⟩) | (go_at_call 22; refine (sum_any _ _ (by assumption) (by assumption) _).mono ?_; rintro e w' ⟨rfl, n, rfl⟩) | (go_at_call 12; refine (canon_any _ (by assumption) _).mono ?_; rintro e w' ⟨rfl, rfl⟩) | (go_at_call 18; refine (less_any _ _ (by assumption) (by assumption) _).mono ?_; rintro e w' ⟨rfl, rfl⟩) | (go_at_call 20; refine (max_any _ _ (by assumption) (by assumption) _).mono ?_; rintro e w' ⟨rfl, rfl⟩) | (go_at_call 14; refine (kind_any _ (by assumption) _).mono ?_; rintro e w' ⟨rfl, rfl⟩) | (go_at_call 16; refine (rank_any _ (by assumption) _).mono ?_; rintro e w' ⟨rfl, rfl⟩) | (go_at_call 24; refine (word_any _ (by assumption) _).mono ?_; rintro e w' ⟨rfl, rfl⟩))
          go_ret
          exact ⟨rfl, quiet_below ⟨_, rfl⟩⟩
        · clear i3 e6
          go_enter Try.func5, Try.ntmps5
          go_wp2_with (first | (go_at_call 11; refine (awake_any _).mono ?_; rintro e w' ⟨rfl, n, rfl⟩) | (go_at_call 22; refine (sum_any _ _ (by assumption) (by assumption) _).mono ?_; rintro e w' ⟨rfl, n, rfl⟩) | (go_at_call 12; refine (canon_any _ (by assumption) _).mono ?_; rintro e w' ⟨rfl, rfl⟩) | (go_at_call 18; refine (less_any _ _ (by assumption) (by assumption) _).mono ?_; rintro e w' ⟨rfl, rfl⟩) | (go_at_call 20; refine (max_any _ _ (by assumption) (by assumption) _).mono ?_; rintro e w' ⟨rfl, rfl⟩) | (go_at_call 14; refine (kind_any _ (by assumption) _).mono ?_; rintro e w' ⟨rfl, rfl⟩) | (go_at_call 16; refine (rank_any _ (by assumption) _).mono ?_; rintro e w' ⟨rfl, rfl⟩) | (go_at_call 24; refine (word_any _ (by assumption) _).mono ?_; rintro e w' ⟨rfl, rfl⟩))
          go_ret
          exact ⟨rfl, quiet_below ⟨_, rfl⟩⟩
  exact main _ _ _ _ _ _ rfl rfl rfl rfl rfl rfl key.1 key.2 (l4.imp byes id)

/-! FltNumbers -/
theorem flip_int {y : Int} (hy : U64 y) : bits BinOp.xor IntKind.u64 y 9223372036854775808 = (Flt.flip y.toNat : Nat) := by
  unfold U64 at hy
  rw [Bits.b_xor_top _ hy.1 hy.2]
  have e1 : Flt.sgnW = 9223372036854775808 := rfl
  unfold Flt.flip
  rw [e1]
  split <;> split <;> omega
theorem diff_facts {x y : Int} (hx : U64 x) (hy : U64 y) (cx : iCanon x = x) (cy : iCanon y = y) (nx : ¬ iKind x = 3) (ny : ¬ iKind y = 3) :
    (iKind x = 2 → x = y → iSum x (iCanon (bits BinOp.xor IntKind.u64 y 9223372036854775808)) = 9221120237041090561) ∧
    (¬ (iKind x = 2 ∧ x = y) → bLess x y = bLess (iSum x (iCanon (bits BinOp.xor IntKind.u64 y 9223372036854775808))) 0 ∧
      (x == y) = (iSum x (iCanon (bits BinOp.xor IntKind.u64 y 9223372036854775808)) == 0)) := by
  rw [flip_int hy]
  rw [kind3] at nx ny
  rw [kind2]
  have hcx : Flt.canon x.toNat = x.toNat := by unfold U64 at hx; unfold iCanon at cx; omega
  have hcy : Flt.canon y.toNat = y.toNat := by unfold U64 at hy; unfold iCanon at cy; omega
  have h := Flt.sum_diff x.toNat y.toNat (u64_nat hx) (u64_nat hy) hcx hcy nx ny
  have hc : (iCanon ((Flt.flip y.toNat : Nat) : Int)).toNat = Flt.canon (Flt.flip y.toNat) := by
    unfold iCanon; rw [Int.toNat_natCast, Int.toNat_natCast]
  have hsum : iSum x (iCanon ((Flt.flip y.toNat : Nat) : Int)) = (Flt.sum x.toNat (Flt.canon (Flt.flip y.toNat)) : Nat) := by
    unfold iSum; rw [hc]
  rw [hsum]
  unfold U64 at hx hy
  have hxy : x = y ↔ x.toNat = y.toNat := by omega
  constructor
  · intro h1 h2
    rw [h.1 h1 (hxy.1 h2)]; rfl
  · intro h1
    obtain ⟨g1, g2⟩ := h.2 (fun g => h1 ⟨g.1, hxy.2 g.2⟩)
    constructor
    · rw [Bool.eq_iff_iff, p_less, p_less]
      unfold iRank
      rw [Int.toNat_natCast, show (0 : Int).toNat = 0 from rfl]
      omega
    · rw [Bool.eq_iff_iff, beq_iff_eq, beq_iff_eq, hxy, g2]
      omega
theorem sum_zero_int {x : Int} (hx : U64 x) (cx : iCanon x = x) (nx : ¬ iKind x = 3) : iSum x 0 = x := by
  rw [kind3] at nx
  have hcx : Flt.canon x.toNat = x.toNat := by unfold U64 at hx; unfold iCanon at cx; omega
  have := Flt.sum_zero x.toNat (u64_nat hx) hcx nx
  unfold U64 at hx
  unfold iSum
  rw [show (0 : Int).toNat = 0 from rfl, this]; omega
theorem sum_nan_l {x y : Int} (hx : U64 x) (hy : U64 y) (h : iKind x = 3 ∨ iKind y = 3) : iSum x y = 9221120237041090561 := by
  rcases h with h | h
  · rw [sum_swap hx hy, sum_nan_r hx h]
  · exact sum_nan_r hy h

set_option maxRecDepth 10000 in
set_option maxHeartbeats 2000000 in
theorem fltNumbers_walk (a b : Int) (ha : U64 a) (hb : U64 b) (w : World) : Calls Try.prog 6 #[.int .u64 a, .int .u64 b] w fun e w' => e = .returned (.bool true) ∧ Below w.heap.size w w' := by
  have cx0 : Hid (iCanon (iCanon a) = iCanon a) := p_canon2 a
  have cy0 : Hid (iCanon (iCanon b) = iCanon b) := p_canon2 b
  obtain ⟨x, ex⟩ : ∃ x, x = iCanon a := ⟨_, rfl⟩
  obtain ⟨y, ey⟩ : ∃ y, y = iCanon b := ⟨_, rfl⟩
  have hx : U64 x := by rw [ex]; exact u64_canon ha
  have hy : U64 y := by rw [ey]; exact u64_canon hb
  rw [← ex] at cx0
  rw [← ey] at cy0
  have EX : Hid (x = iCanon a) := ex
  have EY : Hid (y = iCanon b) := ey
  clear ex ey
  go_enter Try.func6, Try.ntmps6
  go_wp2_with fail
  refine (awake_any _).mono ?_; rintro e w' ⟨rfl, n, rfl⟩
  go_wp2_with fail
  refine (canon_any _ ha _).mono ?_; rintro e w' ⟨rfl, rfl⟩
  rw [← EX.out]
  go_wp2_with fail
  refine (canon_any _ hb _).mono ?_; rintro e w' ⟨rfl, rfl⟩
  rw [← EY.out]
  by_cases k3 : iKind x = 3 ∨ iKind y = 3
  · have f1 : (iSum x y == 9221120237041090561) = true := byes (sum_nan_l hx hy k3)
    by_cases k3x : iKind x = 3
    · have b1 := byes k3x
      clear k3 k3x
      go_wp2_with (first | (go_at_call 11; refine (awake_any _).mono ?_; rintro e w' ⟨rfl, n, rfl⟩) | (go_at_call 22; refine (sum_any _ _ (by assumption) (by assumption) _).mono ?_; rintro e w' ⟨rfl, n, rfl⟩) | (go_at_call 12; refine (canon_any _ (by assumption) _).mono ?_; rintro e w' ⟨rfl, rfl⟩) | (go_at_call 18; refine (less_any _ _ (by assumption) (by assumption) _).mono ?_; rintro e w' ⟨rfl, rfl⟩) | (go_at_call 20; refine (max_any _ _ (by assumption) (by assumption) _).mono ?_; rintro e w' ⟨rfl, rfl⟩) | (go_at_call 14; refine (kind_any _ (by assumption) _).mono ?_; rintro e w' ⟨rfl, rfl⟩) | (go_at_call 16; refine (rank_any _ (by assumption) _).mono ?_; rintro e w' ⟨rfl, rfl⟩) | (go_at_call 24; refine (word_any _ (by assumption) _).mono ?_; rintro e w' ⟨rfl, rfl⟩))
      go_ret
      exact ⟨rfl, quiet_below ⟨_, rfl⟩⟩
    · have b1 := bnot k3x
      have b2 := byes (k3.resolve_left k3x)
      clear k3 k3x
      go_wp2_with (first | (go_at_call 11; refine (awake_any _).mono ?_; rintro e w' ⟨rfl, n, rfl⟩) | (go_at_call 22; refine (sum_any _ _ (by assumption) (by assumption) _).mono ?_; rintro e w' ⟨rfl, n, rfl⟩) | (go_at_call 12; refine (canon_any _ (by assumption) _).mono ?_; rintro e w' ⟨rfl, rfl⟩) | (go_at_call 18; refine (less_any _ _ (by assumption) (by assumption) _).mono ?_; rintro e w' ⟨rfl, rfl⟩) | (go_at_call 20; refine (max_any _ _ (by assumption) (by assumption) _).mono ?_; rintro e w' ⟨rfl, rfl⟩) | (go_at_call 14; refine (kind_any _ (by assumption) _).mono ?_; rintro e w' ⟨rfl, rfl⟩) | (go_at_call 16; refine (rank_any _ (by assumption) _).mono ?_; rintro e w' ⟨rfl, rfl⟩) | (go_at_call 24; refine (word_any _ (by assumption) _).mono ?_; rintro e w' ⟨rfl, rfl⟩))
      go_ret
      exact ⟨rfl, quiet_below ⟨_, rfl⟩⟩
  · have nx : ¬ iKind x = 3 := fun h => k3 (Or.inl h)
    have ny : ¬ iKind y = 3 := fun h => k3 (Or.inr h)
    have b1 := bnot nx
    have b2 := bnot ny
    obtain ⟨d1, d2⟩ := diff_facts hx hy cx0.out cy0.out nx ny
    have z1 : (iSum x 0 == x) = true := byes (sum_zero_int hx cx0.out nx)
    have hz := u64_canon (u64_bits .xor y 9223372036854775808)
    have hf := u64_bits .xor y 9223372036854775808
    have hd := u64_sum hx hz
    have u0 : U64 0 := u64_of (by decide +kernel)
    clear nx ny k3
    by_cases c1 : iKind x = 2 ∧ x = y
    · obtain ⟨c2, c3⟩ := c1
      have d3 := byes (d1 c2 c3)
      have b3 := byes c2
      have b4 := byes c3
      clear d1 d2 c2 c3
      go_wp2_with (first | (go_at_call 11; refine (awake_any _).mono ?_; rintro e w' ⟨rfl, n, rfl⟩) | (go_at_call 22; refine (sum_any _ _ (by assumption) (by assumption) _).mono ?_; rintro e w' ⟨rfl, n, rfl⟩) | (go_at_call 12; refine (canon_any _ (by assumption) _).mono ?_; rintro e w' ⟨rfl, rfl⟩) | (go_at_call 18; refine (less_any _ _ (by assumption) (by assumption) _).mono ?_; rintro e w' ⟨rfl, rfl⟩) | (go_at_call 20; refine (max_any _ _ (by assumption) (by assumption) _).mono ?_; rintro e w' ⟨rfl, rfl⟩) | (go_at_call 14; refine (kind_any _ (by assumption) _).mono ?_; rintro e w' ⟨rfl, rfl⟩) | (go_at_call 16; refine (rank_any _ (by assumption) _).mono ?_; rintro e w' ⟨rfl, rfl⟩) | (go_at_call 24; refine (word_any _ (by assumption) _).mono ?_; rintro e w' ⟨rfl, rfl⟩))
      go_ret
      exact ⟨rfl, quiet_below ⟨_, rfl⟩⟩
    · obtain ⟨d3, d4⟩ := d2 c1
      have d3' : (bLess x y == bLess (iSum x (iCanon (bits BinOp.xor IntKind.u64 y 9223372036854775808))) 0) = true := by rw [d3]; simp
      by_cases hxy : x = y
      · have b5 := byes hxy
        have b6 : (iSum x (iCanon (bits BinOp.xor IntKind.u64 y 9223372036854775808)) == 0) = true := by rw [← d4, b5]
        have c2 : ¬ iKind x = 2 := fun h => c1 ⟨h, hxy⟩
        have b3 := bnot c2
        clear c1 c2 d1 d2 d3 d4 hxy
        go_wp2_with (first | (go_at_call 11; refine (awake_any _).mono ?_; rintro e w' ⟨rfl, n, rfl⟩) | (go_at_call 22; refine (sum_any _ _ (by assumption) (by assumption) _).mono ?_; rintro e w' ⟨rfl, n, rfl⟩) | (go_at_call 12; refine (canon_any _ (by assumption) _).mono ?_; rintro e w' ⟨rfl, rfl⟩) | (go_at_call 18; refine (less_any _ _ (by assumption) (by assumption) _).mono ?_; rintro e w' ⟨rfl, rfl⟩) | (go_at_call 20; refine (max_any _ _ (by assumption) (by assumption) _).mono ?_; rintro e w' ⟨rfl, rfl⟩) | (go_at_call 14; refine (kind_any _ (by assumption) _).mono ?_; rintro e w' ⟨rfl, rfl⟩) | (go_at_call 16; refine (rank_any _ (by assumption) _).mono ?_; rintro e w' ⟨rfl, rfl⟩) | (go_at_call 24; refine (word_any _ (by assumption) _).mono ?_; rintro e w' ⟨rfl, rfl⟩))
        go_ret
        exact ⟨rfl, quiet_below ⟨_, rfl⟩⟩
      · have b5 := bnot hxy
        have b6 : (iSum x (iCanon (bits BinOp.xor IntKind.u64 y 9223372036854775808)) == 0) = false := by rw [← d4, b5]
        by_cases c2 : iKind x = 2
        · have b3 := byes c2
          clear c1 c2 d1 d2 d3 d4 hxy
          go_wp2_with (first | (go_at_call 11; refine (awake_any _).mono ?_; rintro e w' ⟨rfl, n, rfl⟩) | (go_at_call 22; refine (sum_any _ _ (by assumption) (by assumption) _).mono ?_; rintro e w' ⟨rfl, n, rfl⟩) | (go_at_call 12; refine (canon_any _ (by assumption) _).mono ?_; rintro e w' ⟨rfl, rfl⟩) | (go_at_call 18; refine (less_any _ _ (by assumption) (by assumption) _).mono ?_; rintro e w' ⟨rfl, rfl⟩) | (go_at_call 20; refine (max_any _ _ (by assumption) (by assumption) _).mono ?_; rintro e w' ⟨rfl, rfl⟩) | (go_at_call 14; refine (kind_any _ (by assumption) _).mono ?_; rintro e w' ⟨rfl, rfl⟩) | (go_at_call 16; refine (rank_any _ (by assumption) _).mono ?_; rintro e w' ⟨rfl, rfl⟩) | (go_at_call 24; refine (word_any _ (by assumption) _).mono ?_; rintro e w' ⟨rfl, rfl⟩))
          go_ret
          exact ⟨rfl, quiet_below ⟨_, rfl⟩⟩
        · have b3 := bnot c2
          clear c1 c2 d1 d2 d3 d4 hxy
          go_wp2_with (first | (go_at_call 11; refine (awake_any _).mono ?_; rintro e w' ⟨rfl, n, rfl⟩) | (go_at_call 22; refine (sum_any _ _ (by assumption) (by assumption) _).mono ?_; rintro e w' ⟨rfl, n, rfl⟩) | (go_at_call 12; refine (canon_any _ (by assumption) _).mono ?_; rintro e w' ⟨rfl, rfl⟩) | (go_at_call 18; refine (less_any _ _ (by assumption) (by assumption) _).mono ?_; rintro e w' ⟨rfl, rfl⟩) | (go_at_call 20; refine (max_any _ _ (by assumption) (by assumption) _).mono ?_; rintro e w' ⟨rfl, rfl⟩) | (go_at_call 14; refine (kind_any _ (by assumption) _).mono ?_; rintro e w' ⟨rfl, rfl⟩) | (go_at_call 16; refine (rank_any _ (by assumption) _).mono ?_; rintro e w' ⟨rfl, rfl⟩) | (go_at_call 24; refine (word_any _ (by assumption) _).mono ?_; rintro e w' ⟨rfl, rfl⟩))
          go_ret
          exact ⟨rfl, quiet_below ⟨_, rfl⟩⟩
end Go.Proofs.Ytenkkkadkgkkkaa
