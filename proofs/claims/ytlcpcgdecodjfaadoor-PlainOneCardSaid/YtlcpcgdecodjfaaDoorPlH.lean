/- PlainWinner's walk. -/
import Derived.Test.YtlcpcgdecodjfaaDoorPlG

namespace Go.Proofs.YtlcpcgdecodjfaaDoor
open Go.RowKit Go.Proofs.YtlcpcgdecodjfaaDoor.Am
set_option linter.unusedVariables false
set_option linter.unusedSimpArgs false

noncomputable def ctxPlH (P : Program) (h : EqR P) : Ctx := ctx P glR [eAwake, eBox, eChoices, eCast, eWinner, eApply, eWords] [55] h [] (fun _ h => by cases h)
theorem ctxPlH_good : (ctxPlH Tryd.prog eqR).good := ctx_good (by kernel_rfl) (AllOk.mem ⟨eAwake_ok, eBox_ok, eChoices_ok, eCast_ok, eWinner_ok, eApply_ok, eWords_ok, trivial⟩) glR_two
attribute [local irreducible] foldS castS winS applyS chs castW win
set_option maxRecDepth 100000 in
set_option maxHeartbeats 4000000 in
theorem winner_pure (room : Int) (hr : I64 room) (m : Nat) (raw : List Int) (hx : AllI raw) : Pure Tryd.prog glR 5 [.v (.int .i64 room), .fl [.i64] m raw] (.v (.bool true)) := by
  refine pure_wf fun hw => ?_
  obtain ⟨-, ⟨w1, w2⟩, -⟩ := hw
  simp only [List.length_cons, List.length_nil, Nat.zero_add, Nat.mul_one] at w1
  obtain ⟨b1, b2⟩ := ipick_bounds room (n := 12) (by omega)
  obtain ⟨n, hn⟩ := Int.eq_ofNat_of_zero_le (a := 1 + ipick room 12) (by omega)
  have n1 : 1 ≤ n := by omega
  have n2 : n ≤ 256 := by omega
  have hl : (chs n raw).length = min m n := by simp [chs]; omega
  have ho : okV (chs n raw) = true := okV_chs _ _
  have hp := pad_len (n := n) (l := chs n raw) (by omega)
  have hq := okV_pad (n := n) ho
  have hcw := castW_pad n (chs n raw)
  have l1 := cast_ok n1 n2 (l := chs n raw) (by omega) ho
  have l2 := win_cast n1 n2 hp hq
  have l3 := apply_close n1 n2 hp hq
  have l4 := win_close n1 n2 hp hq
  rw [hcw] at l2 l3 l4
  obtain ⟨b, hbd⟩ : ∃ b, win (pad n (chs n raw)) = b := ⟨_, rfl⟩
  have hb : b < 9 := hbd ▸ win_lt _
  rw [hbd] at l2 l4
  have hU : AllU (castW n (chs n raw)) := allU_cast ho (by omega)
  refine pure_of (C := ctxPlH Tryd.prog eqR) ctxPlH_good Tryd.func5 (c := bodyOf Tryd.f5) (by rfl) (Nat.le_of_ble_eq_true (by rfl)) 4 0 [0, 1, 4, 5, 6, 7, 8, 9, 10, 11, 12, 13, 14, 15, 17, 18, 19, 20, 21, 22, 23, 24, 25, 26, 27, 59, 63, 76, 99, 124, 133] ?_
  conv => whnf
  refine And.intro hr ?_
  rw [hn]
  conv => whnf
  refine And.intro ⟨by omega, hx⟩ ?_
  conv => whnf
  rw [l1]
  conv => whnf
  refine And.intro hU ?_
  rw [l2]
  conv => whnf
  repeat' (first | (refine ifB_t (by assumption) ?_; conv => whnf) | (refine ifB_f (by assumption) ?_; conv => whnf) | (refine ifB_dec (fun h => ?_) (fun h => ?_) <;> (first | (exfalso; omega) | (conv => whnf))) | (refine ifB_eq (fun h => ?_) (fun h => ?_) <;> (first | (exfalso; omega) | (conv => whnf))) | (refine ifB_ne (fun h => ?_) (fun h => ?_) <;> (first | (exfalso; omega) | (conv => whnf))) | (refine ifB_not ?_; conv => whnf) | (refine ifB_and ?_; conv => whnf) | (refine ifB_or ?_; conv => whnf) | (refine And.intro ?_ ?_; (first | omega | assumption | (exact allU_getD (by assumption) _) | (simp only [cutL]; omega) | (refine And.intro ?_ ?_ <;> first | assumption | exact allU_getD (by assumption) _) | (simp only [cutL, IntKind.wrap_u64, IntKind.wrap_i64] at *; omega) | decide); conv => whnf) | (refine ifB_mk (fun h => ?_) (fun h => ?_) <;> (conv => whnf)))
  refine TW.loopD ctxPlH_good 0 (base := 0) (lv := [0, 1, 4, 5, 6, 7, 8, 9, 10, 11, 12, 13, 14, 15, 17, 18, 19, 20, 21, 22, 23, 24, 25, 26, 27, 59, 63, 76, 99, 124, 133]) [13] [48] [(48, 48)] (fun j : Nat => [.v (.int .i64 j)]) (fun j => [.fl [.i64] (tally9 ((chs n raw).take j))]) (fun j => j ≤ min m n) (fun j => min m n - j) ?_
  conv => whnf
  refine ⟨⟨0, ⟨rfl, rfl, rfl⟩, Nat.zero_le _⟩, fun j hj => ?_⟩
  conv => whnf
  replace hj : j ≤ min m n := hj
  have hv := okV_getD ho j
  have ev : (chs n raw).getD (0 + addN 0 (j : Int).toNat * (0 + 1)) 0 = (chs n raw).getD j 0 := by simp [addN_eq]
  refine ifB_dec (fun h => ?_) (fun h => ?_)
  · conv => whnf
    refine And.intro (by omega) ?_
    conv => whnf
    rw [ev]
    repeat' (first | (refine ifB_t (by assumption) ?_; conv => whnf) | (refine ifB_f (by assumption) ?_; conv => whnf) | (refine ifB_dec (fun h => ?_) (fun h => ?_) <;> (first | (exfalso; omega) | (conv => whnf))) | (refine ifB_eq (fun h => ?_) (fun h => ?_) <;> (first | (exfalso; omega) | (conv => whnf))) | (refine ifB_ne (fun h => ?_) (fun h => ?_) <;> (first | (exfalso; omega) | (conv => whnf))) | (refine ifB_not ?_; conv => whnf) | (refine ifB_and ?_; conv => whnf) | (refine ifB_or ?_; conv => whnf) | (refine And.intro ?_ ?_; (first | omega | assumption | (exact allU_getD (by assumption) _) | (simp only [cutL]; omega) | (refine And.intro ?_ ?_ <;> first | assumption | exact allU_getD (by assumption) _) | (simp only [cutL, IntKind.wrap_u64, IntKind.wrap_i64] at *; omega) | decide); conv => whnf) | (refine ifB_mk (fun h => ?_) (fun h => ?_) <;> (conv => whnf)))
    rw [wsucc (n := min m n) (by omega) (by omega)]
    have e2 : 0 + ((chs n raw).getD j 0).toNat * (0 + 1) = ((chs n raw).getD j 0).toNat := by omega
    have e3 : 0 + ((chs n raw).getD j 0).toNat * (0 + 1) + 0 = ((chs n raw).getD j 0).toNat := by omega
    rw [e3, e2, tally_stepI _ _ hv.1 hv.2 (by simp; omega), ← take_snoc (by omega)]
    exact ⟨j + 1, [(48, 48)], ⟨rfl, rfl, rfl⟩, (by omega : j + 1 ≤ min m n), by (try dsimp only); omega⟩
  · conv => whnf
    have et : (chs n raw).take j = chs n raw := List.take_of_length_le (by omega)
    clear hv ev
    repeat' (first | (refine ifB_t (by assumption) ?_; conv => whnf) | (refine ifB_f (by assumption) ?_; conv => whnf) | (refine ifB_dec (fun h => ?_) (fun h => ?_) <;> (first | (exfalso; omega) | (conv => whnf))) | (refine ifB_eq (fun h => ?_) (fun h => ?_) <;> (first | (exfalso; omega) | (conv => whnf))) | (refine ifB_ne (fun h => ?_) (fun h => ?_) <;> (first | (exfalso; omega) | (conv => whnf))) | (refine ifB_not ?_; conv => whnf) | (refine ifB_and ?_; conv => whnf) | (refine ifB_or ?_; conv => whnf) | (refine And.intro ?_ ?_; (first | omega | assumption | (exact allU_getD (by assumption) _) | (simp only [cutL]; omega) | (refine And.intro ?_ ?_ <;> first | assumption | exact allU_getD (by assumption) _) | (simp only [cutL, IntKind.wrap_u64, IntKind.wrap_i64] at *; omega) | decide); conv => whnf) | (refine ifB_mk (fun h => ?_) (fun h => ?_) <;> (conv => whnf)))
    rw [et]
    have hB : ∀ q, q < 9 → (talL (chs n raw)).getD q 0 ≤ (talL (chs n raw)).getD b 0 ∧ (q < b → (talL (chs n raw)).getD q 0 < (talL (chs n raw)).getD b 0) := fun q hq => by
      have := win_best (chs n raw) q hq
      rw [win_pad] at hbd
      rwa [hbd] at this
    refine TW.loopD ctxPlH_good 0 (base := 0) (lv := [0, 1, 4, 5, 6, 7, 8, 9, 10, 11, 12, 13, 14, 15, 17, 18, 19, 20, 21, 22, 23, 24, 25, 26, 27, 59, 63, 76, 99, 124, 133]) [14] [48] [(48, 48)] (fun k : Nat => [.v (.int .i64 k)]) (fun k => [.fl [.i64] (talL (chs n raw))]) (fun k => k ≤ 9) (fun k => 9 - k) ?_
    conv => whnf
    refine ⟨⟨0, ⟨rfl, rfl, rfl⟩, Nat.zero_le _⟩, fun k hk => ?_⟩
    replace hk : k ≤ 9 := hk
    conv => whnf
    refine ifB_dec (fun h => ?_) (fun h => ?_)
    · conv => whnf
      have hBk := hB k (by omega)
      repeat' (first | (refine ifB_t (by assumption) ?_; conv => whnf) | (refine ifB_f (by assumption) ?_; conv => whnf) | (refine ifB_dec (fun h => ?_) (fun h => ?_) <;> (first | (exfalso; omega) | (conv => whnf))) | (refine ifB_eq (fun h => ?_) (fun h => ?_) <;> (first | (exfalso; omega) | (conv => whnf))) | (refine ifB_ne (fun h => ?_) (fun h => ?_) <;> (first | (exfalso; omega) | (conv => whnf))) | (refine ifB_not ?_; conv => whnf) | (refine ifB_and ?_; conv => whnf) | (refine ifB_or ?_; conv => whnf) | (refine And.intro ?_ ?_; (first | omega | assumption | (exact allU_getD (by assumption) _) | (simp only [cutL]; omega) | (refine And.intro ?_ ?_ <;> first | assumption | exact allU_getD (by assumption) _) | (simp only [cutL, IntKind.wrap_u64, IntKind.wrap_i64] at *; omega) | decide); conv => whnf) | (refine ifB_mk (fun h => ?_) (fun h => ?_) <;> (conv => whnf)))
      all_goals first | (exfalso; simp only [Nat.zero_add, Nat.mul_one, Int.toNat_natCast] at *; omega) | (rw [wsucc (n := 9) (by omega) (by omega)]; exact ⟨k + 1, [(48, 48)], ⟨rfl, rfl, rfl⟩, (by omega : k + 1 ≤ 9), by (try dsimp only); omega⟩)
    · conv => whnf
      refine And.intro ⟨hU, u64_of (by decide +kernel), u64_of (by decide +kernel)⟩ ?_
      rw [l3]
      conv => whnf
      refine And.intro (allU_set hU _ ⟨by omega, by omega⟩) ?_
      rw [l4]
      conv => whnf
      repeat' (first | (refine ifB_t (by assumption) ?_; conv => whnf) | (refine ifB_f (by assumption) ?_; conv => whnf) | (refine ifB_dec (fun h => ?_) (fun h => ?_) <;> (first | (exfalso; omega) | (conv => whnf))) | (refine ifB_eq (fun h => ?_) (fun h => ?_) <;> (first | (exfalso; omega) | (conv => whnf))) | (refine ifB_ne (fun h => ?_) (fun h => ?_) <;> (first | (exfalso; omega) | (conv => whnf))) | (refine ifB_not ?_; conv => whnf) | (refine ifB_and ?_; conv => whnf) | (refine ifB_or ?_; conv => whnf) | (refine And.intro ?_ ?_; (first | omega | assumption | (exact allU_getD (by assumption) _) | (simp only [cutL]; omega) | (refine And.intro ?_ ?_ <;> first | assumption | exact allU_getD (by assumption) _) | (simp only [cutL, IntKind.wrap_u64, IntKind.wrap_i64] at *; omega) | decide); conv => whnf) | (refine ifB_mk (fun h => ?_) (fun h => ?_) <;> (conv => whnf)))
      · rename_i g1 g2
        have g2 : ¬ (b : Int) = 0 := h
        have eL : IntKind.u64.wrap ((min m (n : Int).toNat : Nat) : Int) = ((min m n : Nat) : Int) := wrapU (by omega) (by omega)
        have eb : IntKind.u64.wrap (b : Int) = b := wrapU (by omega) (by omega)
        have kn : min m n < n := by omega
        have h0 : (pad n (chs n raw)).getD (min m n) 0 = 0 := by
          rw [pad_getD]; simp [List.getD, List.getElem?_eq_none (Nat.le_of_eq hl)]
        have hv : (1 : Int) ≤ b ∧ (b : Int) ≤ 8 := by omega
        have l5 := apply_cast (v := b) n1 n2 hp hq kn h0 hv
        have l7 := apply_closed (v := b) n1 n2 hp hq kn hv
        have hp' : ((pad n (chs n raw)).set (min m n) b).length = n := by rw [List.length_set, hp]
        have hq' := okV_set (k := min m n) hq (v := b) (by omega)
        have l6 := win_cast n1 n2 hp' hq'
        have hm := win_more (by omega) h0 (by omega)
        rw [hbd] at hm
        rw [hm] at l6
        rw [hcw] at l5 l7
        have hU2 : AllU (castW n ((pad n (chs n raw)).set (min m n) b)) := allU_cast hq' (by omega)
        refine And.intro ⟨hU, by rw [eL]; exact ⟨by omega, by omega⟩, by show U64 (IntKind.u64.wrap (b : Int)); rw [eb]; exact ⟨by omega, by omega⟩⟩ ?_
        rw [eL, eb, l5]
        conv => whnf
        refine And.intro hU2 ?_
        rw [l6]
        conv => whnf
        refine And.intro ⟨allU_set hU _ ⟨by omega, by omega⟩, by rw [eL]; exact ⟨by omega, by omega⟩, by show U64 (IntKind.u64.wrap (b : Int)); rw [eb]; exact ⟨by omega, by omega⟩⟩ ?_
        rw [eL, eb, l7]
        conv => whnf
        repeat' (first | (refine ifB_t (by assumption) ?_; conv => whnf) | (refine ifB_f (by assumption) ?_; conv => whnf) | (refine ifB_dec (fun h => ?_) (fun h => ?_) <;> (first | (exfalso; omega) | (conv => whnf))) | (refine ifB_eq (fun h => ?_) (fun h => ?_) <;> (first | (exfalso; omega) | (conv => whnf))) | (refine ifB_ne (fun h => ?_) (fun h => ?_) <;> (first | (exfalso; omega) | (conv => whnf))) | (refine ifB_not ?_; conv => whnf) | (refine ifB_and ?_; conv => whnf) | (refine ifB_or ?_; conv => whnf) | (refine And.intro ?_ ?_; (first | omega | assumption | (exact allU_getD (by assumption) _) | (simp only [cutL]; omega) | (refine And.intro ?_ ?_ <;> first | assumption | exact allU_getD (by assumption) _) | (simp only [cutL, IntKind.wrap_u64, IntKind.wrap_i64] at *; omega) | decide); conv => whnf) | (refine ifB_mk (fun h => ?_) (fun h => ?_) <;> (conv => whnf)))
        exact congrArg (fun b => T.v (Value.bool b)) (by simp)
end Go.Proofs.YtlcpcgdecodjfaaDoor
