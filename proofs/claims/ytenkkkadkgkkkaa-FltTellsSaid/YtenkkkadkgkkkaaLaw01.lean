/- The walks of layer 1's laws that bear no slice: each returns true, for every input. -/
import Derived.Test.YtenkkkadkgkkkaaAwake01
import Derived.Test.YtenkkkadkgkkkaaFltP
import Derived.Test.YtenkkkadkgkkkaaRefW3
namespace Go.Proofs.Ytenkkkadkgkkkaa
open Go.RowKit
set_option linter.unusedVariables false
set_option linter.unusedSimpArgs false




set_option maxRecDepth 10000 in
set_option maxHeartbeats 1000000 in
theorem fltBoth_walk (a b c : Int) (ha : U64 a) (hb : U64 b) (hc : U64 c) (w : World) : Calls Try.prog 7 #[.int .u64 a, .int .u64 b, .int .u64 c] w fun e w' => e = .returned (.bool true) ∧ Below w.heap.size w w' := by
  have f1 : (iTop a b == iTop b a) = true := byes (p_top_comm ha hb)
  have f2 : (iSum a b == iSum b a) = true := byes (sum_swap ha hb)
  have f3 : (iTop (iTop a b) c == iTop a (iTop b c)) = true := byes (p_top_assoc ha hb hc)
  have f4 : bLess (iTop a b) a = false := p_less_no.2 (by rw [p_top_rank]; omega)
  have f5 : bLess (iTop a b) b = false := p_less_no.2 (by rw [p_top_rank]; omega)
  have f6 : (iTop a a == iCanon a) = true := byes p_top_self
  have hab := u64_top ha hb
  have hbc := u64_top hb hc
  have hba := u64_top hb ha
  by_cases f7 : iTop a b = iCanon a
  · have f8 := byes f7
    clear f7
    go_enter Try.func7, Try.ntmps7
    go_wp2_with (first | (go_at_call 11; refine (awake_any _).mono ?_; rintro e w' ⟨rfl, n, rfl⟩) | (go_at_call 22; refine (sum_any _ _ (by assumption) (by assumption) _).mono ?_; rintro e w' ⟨rfl, n, rfl⟩) | (go_at_call 12; refine (canon_any _ (by assumption) _).mono ?_; rintro e w' ⟨rfl, rfl⟩) | (go_at_call 18; refine (less_any _ _ (by assumption) (by assumption) _).mono ?_; rintro e w' ⟨rfl, rfl⟩) | (go_at_call 20; refine (max_any _ _ (by assumption) (by assumption) _).mono ?_; rintro e w' ⟨rfl, rfl⟩) | (go_at_call 14; refine (kind_any _ (by assumption) _).mono ?_; rintro e w' ⟨rfl, rfl⟩) | (go_at_call 16; refine (rank_any _ (by assumption) _).mono ?_; rintro e w' ⟨rfl, rfl⟩) | (go_at_call 24; refine (word_any _ (by assumption) _).mono ?_; rintro e w' ⟨rfl, rfl⟩))
    go_ret
    exact ⟨rfl, quiet_below ⟨_, rfl⟩⟩
  · have f8 := bnot f7
    have f9 : (iTop a b == iCanon b) = true := byes ((@p_top_one a b).resolve_left f7)
    clear f7
    go_enter Try.func7, Try.ntmps7
    go_wp2_with (first | (go_at_call 11; refine (awake_any _).mono ?_; rintro e w' ⟨rfl, n, rfl⟩) | (go_at_call 22; refine (sum_any _ _ (by assumption) (by assumption) _).mono ?_; rintro e w' ⟨rfl, n, rfl⟩) | (go_at_call 12; refine (canon_any _ (by assumption) _).mono ?_; rintro e w' ⟨rfl, rfl⟩) | (go_at_call 18; refine (less_any _ _ (by assumption) (by assumption) _).mono ?_; rintro e w' ⟨rfl, rfl⟩) | (go_at_call 20; refine (max_any _ _ (by assumption) (by assumption) _).mono ?_; rintro e w' ⟨rfl, rfl⟩) | (go_at_call 14; refine (kind_any _ (by assumption) _).mono ?_; rintro e w' ⟨rfl, rfl⟩) | (go_at_call 16; refine (rank_any _ (by assumption) _).mono ?_; rintro e w' ⟨rfl, rfl⟩) | (go_at_call 24; refine (word_any _ (by assumption) _).mono ?_; rintro e w' ⟨rfl, rfl⟩))
    go_ret
    exact ⟨rfl, quiet_below ⟨_, rfl⟩⟩

/-! FltNothing -/
theorem sum_nan_r {a c : Int} (hc : U64 c) (h : iKind c = 3) : iSum a c = 9221120237041090561 := by
  rw [kind3] at h
  unfold iSum; rw [Flt.sum_nan_right _ _ h]; rfl
theorem nan_plus {b : Int} (hb : U64 b) : iKind (9221120237041090561 + b % 1000) = 3 ∧ U64 (9221120237041090561 + b % 1000) := by
  rw [kind3]
  unfold U64 at hb
  have e4 : Flt.infR = 9218868437227405312 := rfl
  have e1 : Flt.sgnW = 9223372036854775808 := rfl
  unfold Flt.mag U64
  rw [e1, e4]; omega
theorem top_neginf {a : Int} (ha : U64 a) : iTop a 18442240474082181120 = iCanon a := by
  rw [top_eq, if_neg]
  rw [Bool.not_eq_true]
  refine p_less_no.2 ?_
  rw [p_neginf]
  have := p_rank_ge ha
  omega
theorem top_nan {a : Int} (ha : U64 a) : iTop a 9221120237041090561 = 9221120237041090561 := by
  rw [top_eq]
  have hn : iCanon 9221120237041090561 = 9221120237041090561 := by decide +kernel
  by_cases h : bLess a 9221120237041090561 = true
  · rw [if_pos h, hn]
  · rw [if_neg h, ← hn]
    rw [Bool.not_eq_true, p_less_no, p_nan] at h
    refine (p_rank_inj ha (u64_of (by decide +kernel))).1 ?_
    have := (p_rank_le ha).1
    rw [p_nan]; omega
theorem canon_nan {a : Int} (h : iKind a = 3) : iCanon a = 9221120237041090561 := by rw [kind_canon, if_pos h]
theorem inf_word {a : Int} (ha : U64 a) (h : iKind a = 2) : a = 9218868437227405312 ∨ a = 18442240474082181120 := by
  rw [kind2] at h
  unfold U64 at ha
  have e4 : Flt.infR = 9218868437227405312 := rfl
  have e1 : Flt.sgnW = 9223372036854775808 := rfl
  unfold Flt.mag at h
  rw [e1, e4] at h; omega
theorem sum_inf_r {a : Int} (ha : U64 a) (h3 : ¬ iKind a = 3) (h2 : ¬ iKind a = 2) : iSum a 9218868437227405312 = 9218868437227405312 ∧ iSum 18442240474082181120 a = 18442240474082181120 := by
  rw [kind3] at h3
  rw [kind2] at h2
  have h := Flt.sum_inf_right a.toNat (u64_nat ha) (by omega)
  have e1 : (9218868437227405312 : Int).toNat = Flt.infR := rfl
  have e2 : (18442240474082181120 : Int).toNat = 18442240474082181120 := rfl
  unfold iSum
  rw [e1, e2, h.1, h.2]
  exact ⟨rfl, rfl⟩
theorem kind0 {a : Int} (ha : U64 a) : iKind a = 0 ↔ iCanon a = 0 := by
  have hk := @kind_canon a
  have kc := kind_of ha
  unfold U64 at ha
  constructor
  · intro h; rw [hk, h]; rfl
  · intro h
    by_cases g3 : iKind a = 3
    · rw [hk, if_pos g3] at h; omega
    · by_cases g0 : iKind a = 0
      · exact g0
      · rw [hk, if_neg g3, if_neg g0] at h
        have : a = 0 := by omega
        subst this
        decide +kernel

set_option maxRecDepth 10000 in
set_option maxHeartbeats 1000000 in
theorem fltNothing_walk (a b : Int) (ha : U64 a) (hb : U64 b) (w : World) : Calls Try.prog 9 #[.int .u64 a, .int .u64 b] w fun e w' => e = .returned (.bool true) ∧ Below w.heap.size w w' := by
  have f1 : (iTop a 18442240474082181120 != iCanon a) = false := nyes (top_neginf ha)
  have f2 : (iTop a 9221120237041090561 != 9221120237041090561) = false := nyes (top_nan ha)
  have n1 := (nan_plus hb).1
  have n2 := (nan_plus hb).2
  have f3 : (iSum a (9221120237041090561 + b % 1000) != 9221120237041090561) = false := nyes (sum_nan_r n2 n1)
  have f4 : (iCanon (iSum a b) != iSum a b) = false := nyes (p_sum_canon ha hb)
  have hs := u64_sum ha hb
  have u1 : U64 18442240474082181120 := u64_of (by decide +kernel)
  have u2 : U64 9221120237041090561 := u64_of (by decide +kernel)
  have u3 : U64 9218868437227405312 := u64_of (by decide +kernel)
  clear n1
  obtain ⟨b0, b1⟩ := id hb
  by_cases k3 : iKind a = 3
  · have g1 : (iKind a == 3) = true := byes k3
    have g2 : (iCanon a == 9221120237041090561) = true := byes (canon_nan k3)
    clear k3
    go_enter Try.func9, Try.ntmps9
    go_wp2_with (first | (go_at_call 11; refine (awake_any _).mono ?_; rintro e w' ⟨rfl, n, rfl⟩) | (go_at_call 22; refine (sum_any _ _ (by assumption) (by assumption) _).mono ?_; rintro e w' ⟨rfl, n, rfl⟩) | (go_at_call 12; refine (canon_any _ (by assumption) _).mono ?_; rintro e w' ⟨rfl, rfl⟩) | (go_at_call 18; refine (less_any _ _ (by assumption) (by assumption) _).mono ?_; rintro e w' ⟨rfl, rfl⟩) | (go_at_call 20; refine (max_any _ _ (by assumption) (by assumption) _).mono ?_; rintro e w' ⟨rfl, rfl⟩) | (go_at_call 14; refine (kind_any _ (by assumption) _).mono ?_; rintro e w' ⟨rfl, rfl⟩) | (go_at_call 16; refine (rank_any _ (by assumption) _).mono ?_; rintro e w' ⟨rfl, rfl⟩) | (go_at_call 24; refine (word_any _ (by assumption) _).mono ?_; rintro e w' ⟨rfl, rfl⟩))
    go_ret
    exact ⟨rfl, quiet_below ⟨_, rfl⟩⟩
  · have g1 : (iKind a == 3) = false := bnot k3
    by_cases k2 : iKind a = 2
    · have g2 : (iKind a == 2) = true := byes k2
      rcases inf_word ha k2 with rfl | rfl
      · clear k2 k3
        go_enter Try.func9, Try.ntmps9
        go_wp2_with (first | (go_at_call 11; refine (awake_any _).mono ?_; rintro e w' ⟨rfl, n, rfl⟩) | (go_at_call 22; refine (sum_any _ _ (by assumption) (by assumption) _).mono ?_; rintro e w' ⟨rfl, n, rfl⟩) | (go_at_call 12; refine (canon_any _ (by assumption) _).mono ?_; rintro e w' ⟨rfl, rfl⟩) | (go_at_call 18; refine (less_any _ _ (by assumption) (by assumption) _).mono ?_; rintro e w' ⟨rfl, rfl⟩) | (go_at_call 20; refine (max_any _ _ (by assumption) (by assumption) _).mono ?_; rintro e w' ⟨rfl, rfl⟩) | (go_at_call 14; refine (kind_any _ (by assumption) _).mono ?_; rintro e w' ⟨rfl, rfl⟩) | (go_at_call 16; refine (rank_any _ (by assumption) _).mono ?_; rintro e w' ⟨rfl, rfl⟩) | (go_at_call 24; refine (word_any _ (by assumption) _).mono ?_; rintro e w' ⟨rfl, rfl⟩))
        go_ret
        exact ⟨rfl, quiet_below ⟨_, rfl⟩⟩
      · clear k2 k3
        go_enter Try.func9, Try.ntmps9
        go_wp2_with (first | (go_at_call 11; refine (awake_any _).mono ?_; rintro e w' ⟨rfl, n, rfl⟩) | (go_at_call 22; refine (sum_any _ _ (by assumption) (by assumption) _).mono ?_; rintro e w' ⟨rfl, n, rfl⟩) | (go_at_call 12; refine (canon_any _ (by assumption) _).mono ?_; rintro e w' ⟨rfl, rfl⟩) | (go_at_call 18; refine (less_any _ _ (by assumption) (by assumption) _).mono ?_; rintro e w' ⟨rfl, rfl⟩) | (go_at_call 20; refine (max_any _ _ (by assumption) (by assumption) _).mono ?_; rintro e w' ⟨rfl, rfl⟩) | (go_at_call 14; refine (kind_any _ (by assumption) _).mono ?_; rintro e w' ⟨rfl, rfl⟩) | (go_at_call 16; refine (rank_any _ (by assumption) _).mono ?_; rintro e w' ⟨rfl, rfl⟩) | (go_at_call 24; refine (word_any _ (by assumption) _).mono ?_; rintro e w' ⟨rfl, rfl⟩))
        go_ret
        exact ⟨rfl, quiet_below ⟨_, rfl⟩⟩
    · have g2 : (iKind a == 2) = false := bnot k2
      have g3 : (iSum a 9218868437227405312 == 9218868437227405312) = true := byes (sum_inf_r ha k3 k2).1
      have g4 : (iSum 18442240474082181120 a == 18442240474082181120) = true := byes (sum_inf_r ha k3 k2).2
      have hk := kind0 ha
      clear k2 k3
      by_cases z : iKind a = 0
      · have z1 : (iKind a == 0) = true := byes z
        have z2 : (iCanon a == 0) = true := byes (hk.1 z)
        clear z hk
        go_enter Try.func9, Try.ntmps9
        go_wp2_with (first | (go_at_call 11; refine (awake_any _).mono ?_; rintro e w' ⟨rfl, n, rfl⟩) | (go_at_call 22; refine (sum_any _ _ (by assumption) (by assumption) _).mono ?_; rintro e w' ⟨rfl, n, rfl⟩) | (go_at_call 12; refine (canon_any _ (by assumption) _).mono ?_; rintro e w' ⟨rfl, rfl⟩) | (go_at_call 18; refine (less_any _ _ (by assumption) (by assumption) _).mono ?_; rintro e w' ⟨rfl, rfl⟩) | (go_at_call 20; refine (max_any _ _ (by assumption) (by assumption) _).mono ?_; rintro e w' ⟨rfl, rfl⟩) | (go_at_call 14; refine (kind_any _ (by assumption) _).mono ?_; rintro e w' ⟨rfl, rfl⟩) | (go_at_call 16; refine (rank_any _ (by assumption) _).mono ?_; rintro e w' ⟨rfl, rfl⟩) | (go_at_call 24; refine (word_any _ (by assumption) _).mono ?_; rintro e w' ⟨rfl, rfl⟩))
        go_ret
        exact ⟨rfl, quiet_below ⟨_, rfl⟩⟩
      · have z1 : (iKind a == 0) = false := bnot z
        have z2 : (iCanon a == 0) = false := bnot (fun h => z (hk.2 h))
        clear z hk
        go_enter Try.func9, Try.ntmps9
        go_wp2_with (first | (go_at_call 11; refine (awake_any _).mono ?_; rintro e w' ⟨rfl, n, rfl⟩) | (go_at_call 22; refine (sum_any _ _ (by assumption) (by assumption) _).mono ?_; rintro e w' ⟨rfl, n, rfl⟩) | (go_at_call 12; refine (canon_any _ (by assumption) _).mono ?_; rintro e w' ⟨rfl, rfl⟩) | (go_at_call 18; refine (less_any _ _ (by assumption) (by assumption) _).mono ?_; rintro e w' ⟨rfl, rfl⟩) | (go_at_call 20; refine (max_any _ _ (by assumption) (by assumption) _).mono ?_; rintro e w' ⟨rfl, rfl⟩) | (go_at_call 14; refine (kind_any _ (by assumption) _).mono ?_; rintro e w' ⟨rfl, rfl⟩) | (go_at_call 16; refine (rank_any _ (by assumption) _).mono ?_; rintro e w' ⟨rfl, rfl⟩) | (go_at_call 24; refine (word_any _ (by assumption) _).mono ?_; rintro e w' ⟨rfl, rfl⟩))
        go_ret
        exact ⟨rfl, quiet_below ⟨_, rfl⟩⟩
end Go.Proofs.Ytenkkkadkgkkkaa
