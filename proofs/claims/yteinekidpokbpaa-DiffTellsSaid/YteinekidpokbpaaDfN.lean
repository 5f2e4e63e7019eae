/- DiffTells' walk. -/
import Derived.Test.YteinekidpokbpaaDfM
namespace Go.Proofs.Yteinekidpokbpaa.DfT
open Go.RowKit Go.Proofs.Yteinekidpokbpaa.Am Go.Proofs.Yteinekidpokbpaa Go.Proofs.Yteinekidpokbpaa.PrT
set_option linter.unusedVariables false
set_option linter.unusedSimpArgs false


theorem tw01 : IntKind.i64.wrap ((0 : Int) + 1) = 1 := by decide
theorem tw12 : IntKind.i64.wrap ((1 : Int) + 1) = 2 := by decide
theorem tw23 : IntKind.i64.wrap ((2 : Int) + 1) = 3 := by decide
theorem min_nat (m : Nat) (q : Nat) : ∃ c : Nat, (if (q : Int) < m then (q : Int) else (m : Int)) = (c : Int) ∧ c ≤ q ∧ c ≤ m := by
  split
  · exact ⟨q, rfl, Nat.le_refl _, by omega⟩
  · exact ⟨m, rfl, by omega, Nat.le_refl _⟩
theorem wf_take {l : List Int} {m z : Nat} (h : WfW (recs m 2 l)) (hz : z ≤ m) : WfW (recs z 2 (cutN (1 + 1) none (some (z : Int)) l)) := by
  have e : cutN (1 + 1) none (some (z : Int)) l = l.take (z * 2) := by
    show l.take (mulN (z : Int).toNat (1 + 1)) = _
    rw [mulN_eq, Int.toNat_natCast]
  rw [e]
  intro w hw
  obtain ⟨i, hi, rfl⟩ := List.getElem_of_mem hw
  rw [recs_len] at hi
  have h2 := h.at (j := i) (by rw [recs_len]; omega)
  unfold kR at h2
  rw [recs2_get (by omega)] at h2
  have h3 : (recs z 2 (l.take (z * 2)))[i] = gR (recs z 2 (l.take (z * 2))) i := by
    unfold gR; rw [List.getD_eq_getElem?_getD, List.getElem?_eq_getElem (by rw [recs_len]; exact hi)]; rfl
  rw [h3, recs2_get hi]
  show I64 ((l.take (z * 2)).getD (i * 2) 0)
  rw [List.getD_eq_getElem?_getD, List.getElem?_take_of_lt (by omega), ← List.getD_eq_getElem?_getD]
  exact h2
noncomputable def ctxTl (P : Program) : Ctx := ctx P glR [eAwk, ePick05, eWords, eWrites, eOf, eROf, eWr, eDSame, eSame, eDZero, eRZero, ePatch, eRPatch, eThen, eRThen] [] (noEq P) [] (fun _ h => by cases h)
theorem ctxTl_good : (ctxTl Try.prog).good := ctx_good (by kernel_rfl) (AllOk.mem ⟨eAwk_ok, ePick05_ok, eWords_ok, eWrites_ok, eOf_ok, eROf_ok, eWr_ok, eDSame_ok, eSame_ok, eDZero_ok, eRZero_ok, ePatch_ok, eRPatch_ok, eThen_ok, eRThen_ok, trivial⟩) glR_two
attribute [local irreducible] recs dfs ptL Bd thn ofL ofE ptS ptE zB wrdS wrsS ipick
set_option maxHeartbeats 20000000 in
set_option maxRecDepth 100000 in
theorem tells05_pure (m1 m2 m3 m4 m5 m6 : Nat) (a b l raw other some_ : List Int) (base : Int) (h1 : I64 base) (hl : WfW (recs m3 2 l)) (hr : AllI raw) (ho : AllI other) (hs : AllI some_) : Pure Try.prog glR 3 [.fl [.u64] m1 a, .fl [.u64] m2 b, .v (.int .i64 base), .fl [.i64, .u64] m3 l, .fl [.i64] m4 raw, .fl [.i64] m5 other, .fl [.i64, .i64] m6 some_] (.v (.bool true)) := by
  obtain ⟨n, en, hn⟩ := ipick_nat base (n := 30) (by decide)
  obtain ⟨K, eK, hK⟩ := ipick_nat base (n := 1000) (by decide)
  have lA := wrdS_len raw n
  have lB := wrdS_len other n
  refine pure_of (C := ctxTl Try.prog) ctxTl_good Try.func3 (c := bodyOf Try.f3) (by rfl) (Nat.le_of_ble_eq_true (by rfl)) 4 0 [0, 1, 2, 3, 4, 5, 6, 14, 15, 16, 17, 18, 19, 20, 21, 22, 23, 25, 27, 28, 29, 30, 31, 33, 34, 35, 36, 37, 70, 71, 72, 73, 85, 86, 87, 88, 139, 142, 143, 144, 145, 172] ?_
  conv => whnf
  repeat (refine And.intro (by first | omega | exact ⟨by omega, by omega, by assumption⟩ | exact ⟨by assumption, by decide, by decide⟩) ?_; conv => whnf)
  rw [en, eK, Int.toNat_natCast]
  obtain ⟨c1, ec1, hc1, hm1⟩ := min_nat m1 60
  obtain ⟨c2, ec2, hc2, hm2⟩ := min_nat m2 60
  obtain ⟨c3, ec3, hc3, hm3⟩ := min_nat m3 20
  have ec1 : (if (60 : Int) < m1 then (60 : Int) else (m1 : Int)) = (c1 : Int) := ec1
  have ec2 : (if (60 : Int) < m2 then (60 : Int) else (m2 : Int)) = (c2 : Int) := ec2
  have ec3 : (if (20 : Int) < m3 then (20 : Int) else (m3 : Int)) = (c3 : Int) := ec3
  rw [ec1, ec2, ec3, show cutL m1 none (some (c1 : Int)) = c1 from Int.toNat_natCast c1, show cutL m2 none (some (c2 : Int)) = c2 from Int.toNat_natCast c2, show cutL m3 none (some (c3 : Int)) = c3 from Int.toNat_natCast c3]
  have wM := wf_take hl hm3
  generalize cutN (1 + 1) none (some (c3 : Int)) l = M at *
  generalize cutN (0 + 1) none (some (c1 : Int)) a = X at *
  generalize cutN (0 + 1) none (some (c2 : Int)) b = Y at *
  have lW := wrsS_len (recs m6 2 some_) K n
  have fW := wrsS_fit (recs m6 2 some_) K n
  have wW := fit_wf (by omega) (by omega) fW
  generalize wrsS (recs m6 2 some_) K n = W at *
  have wW2 : WfW (recs W.length 2 (flat 2 W)) := by rw [recs_dfs]; exact wW
  generalize wrdS raw n = A at *
  generalize wrdS other n = B at *
  refine TW.loopD ctxTl_good 0 (base := 0) (lv := [0, 1, 2, 3, 4, 5, 6, 14, 15, 16, 17, 18, 19, 20, 21, 22, 23, 25, 27, 28, 29, 30, 31, 33, 34, 35, 36, 37, 70, 71, 72, 73, 85, 86, 87, 88, 139, 142, 143, 144, 145, 172]) [72] [] [] (fun i : Nat => [.v (.int .i64 i)]) (fun _ => []) (fun i => i ≤ 2) (fun i => 2 - i) ?_
  conv => whnf
  refine ⟨⟨0, ⟨rfl, rfl, rfl⟩, by omega⟩, fun i hi => ?_⟩
  replace hi : i ≤ 2 := hi
  conv => whnf
  refine ifB_dec (fun h => ?_) (fun h => ?_)
  · replace h : (i : Int) < 2 := h
    conv => whnf
    repeat (refine And.intro (by omega) ?_; conv => whnf)
    generalize [base, (K : Int)].getD (0 + addN 0 (i : Int).toNat * (0 + 1)) 0 = k
    refine TW.loopD ctxTl_good 0 (base := 0) (lv := [0, 1, 2, 3, 4, 5, 6, 14, 15, 16, 17, 18, 19, 20, 21, 22, 23, 25, 27, 28, 29, 30, 31, 33, 34, 35, 36, 37, 70, 71, 72, 73, 85, 86, 87, 88, 139, 142, 143, 144, 145, 172]) [87] [] [] (fun q : Nat => [.v (.int .i64 q)]) (fun _ => []) (fun q => q ≤ 3) (fun q => 3 - q) ?_
    conv => whnf
    refine ⟨⟨0, ⟨rfl, rfl, rfl⟩, by omega⟩, fun q hq => ?_⟩
    have hq3 : q = 0 ∨ q = 1 ∨ q = 2 ∨ q = 3 := by omega
    rcases hq3 with rfl | rfl | rfl | rfl
    · conv => whnf
      repeat (first | (refine ifB_f (by simp) ?_; conv => whnf) | (refine And.intro (by first | omega | exact ⟨by omega, wM⟩ | exact ⟨by omega, wW2⟩) ?_; conv => whnf))
      refine TW.loopD ctxTl_good 0 (base := 0) (lv := [0, 1, 2, 3, 4, 5, 6, 14, 15, 16, 17, 18, 19, 20, 21, 22, 23, 25, 27, 28, 29, 30, 31, 33, 34, 35, 36, 37, 70, 71, 72, 73, 85, 86, 87, 88, 139, 142, 143, 144, 145, 172]) [144] [] [] (fun u : Nat => [.v (.int .i64 u)]) (fun _ => []) (fun u => u ≤ 2) (fun u => 2 - u) ?_
      conv => whnf
      refine ⟨⟨0, ⟨rfl, rfl, rfl⟩, by omega⟩, fun u hu => ?_⟩
      have hu3 : u = 0 ∨ u = 1 ∨ u = 2 := by omega
      rcases hu3 with rfl | rfl | rfl
      · conv => whnf
        repeat (first | (refine ifB_f (by simp) ?_; conv => whnf) | (refine And.intro (by first | omega | exact ⟨by omega, wM⟩ | exact ⟨by omega, wW2⟩) ?_; conv => whnf))
        exact ⟨1, [], ⟨rfl, rfl, rfl⟩, (by decide : 1 ≤ 2), by decide⟩
      · conv => whnf
        repeat (first | (refine ifB_f (by simp) ?_; conv => whnf) | (refine And.intro (by first | omega | exact ⟨by omega, wM⟩ | exact ⟨by omega, wW2⟩) ?_; conv => whnf))
        exact ⟨2, [], ⟨rfl, rfl, rfl⟩, (by decide : 2 ≤ 2), by decide⟩
      · conv => whnf
        exact ⟨1, [], ⟨rfl, rfl, rfl⟩, (by decide : 1 ≤ 3), by decide⟩
    · conv => whnf
      repeat (first | (refine ifB_f (by simp) ?_; conv => whnf) | (refine And.intro (by first | omega | exact ⟨by omega, wM⟩ | exact ⟨by omega, wW2⟩) ?_; conv => whnf))
      refine TW.loopD ctxTl_good 0 (base := 0) (lv := [0, 1, 2, 3, 4, 5, 6, 14, 15, 16, 17, 18, 19, 20, 21, 22, 23, 25, 27, 28, 29, 30, 31, 33, 34, 35, 36, 37, 70, 71, 72, 73, 85, 86, 87, 88, 139, 142, 143, 144, 145, 172]) [144] [] [] (fun u : Nat => [.v (.int .i64 u)]) (fun _ => []) (fun u => u ≤ 2) (fun u => 2 - u) ?_
      conv => whnf
      refine ⟨⟨0, ⟨rfl, rfl, rfl⟩, by omega⟩, fun u hu => ?_⟩
      have hu3 : u = 0 ∨ u = 1 ∨ u = 2 := by omega
      rcases hu3 with rfl | rfl | rfl
      · conv => whnf
        repeat (first | (refine ifB_f (by simp) ?_; conv => whnf) | (refine And.intro (by first | omega | exact ⟨by omega, wM⟩ | exact ⟨by omega, wW2⟩) ?_; conv => whnf))
        exact ⟨1, [], ⟨rfl, rfl, rfl⟩, (by decide : 1 ≤ 2), by decide⟩
      · conv => whnf
        repeat (first | (refine ifB_f (by simp) ?_; conv => whnf) | (refine And.intro (by first | omega | exact ⟨by omega, wM⟩ | exact ⟨by omega, wW2⟩) ?_; conv => whnf))
        exact ⟨2, [], ⟨rfl, rfl, rfl⟩, (by decide : 2 ≤ 2), by decide⟩
      · conv => whnf
        exact ⟨2, [], ⟨rfl, rfl, rfl⟩, (by decide : 2 ≤ 3), by decide⟩
    · conv => whnf
      repeat (first | (refine ifB_f (by simp) ?_; conv => whnf) | (refine And.intro (by first | omega | exact ⟨by omega, wM⟩ | exact ⟨by omega, wW2⟩) ?_; conv => whnf))
      refine TW.loopD ctxTl_good 0 (base := 0) (lv := [0, 1, 2, 3, 4, 5, 6, 14, 15, 16, 17, 18, 19, 20, 21, 22, 23, 25, 27, 28, 29, 30, 31, 33, 34, 35, 36, 37, 70, 71, 72, 73, 85, 86, 87, 88, 139, 142, 143, 144, 145, 172]) [144] [] [] (fun u : Nat => [.v (.int .i64 u)]) (fun _ => []) (fun u => u ≤ 2) (fun u => 2 - u) ?_
      conv => whnf
      refine ⟨⟨0, ⟨rfl, rfl, rfl⟩, by omega⟩, fun u hu => ?_⟩
      have hu3 : u = 0 ∨ u = 1 ∨ u = 2 := by omega
      rcases hu3 with rfl | rfl | rfl
      · conv => whnf
        repeat (first | (refine ifB_f (by simp) ?_; conv => whnf) | (refine And.intro (by first | omega | exact ⟨by omega, wM⟩ | exact ⟨by omega, wW2⟩) ?_; conv => whnf))
        exact ⟨1, [], ⟨rfl, rfl, rfl⟩, (by decide : 1 ≤ 2), by decide⟩
      · conv => whnf
        repeat (first | (refine ifB_f (by simp) ?_; conv => whnf) | (refine And.intro (by first | omega | exact ⟨by omega, wM⟩ | exact ⟨by omega, wW2⟩) ?_; conv => whnf))
        exact ⟨2, [], ⟨rfl, rfl, rfl⟩, (by decide : 2 ≤ 2), by decide⟩
      · conv => whnf
        exact ⟨3, [], ⟨rfl, rfl, rfl⟩, (by decide : 3 ≤ 3), by decide⟩
    · conv => whnf
      rw [wsucc (j := i) (n := 2) (by omega) (by omega)]
      exact ⟨i + 1, [], ⟨rfl, rfl, rfl⟩, (by omega : i + 1 ≤ 2), by dsimp only; omega⟩
  · replace h : ¬ (i : Int) < 2 := h
    conv => whnf
    refine And.intro ⟨by omega, wM, wW2⟩ ?_
    conv => whnf
    repeat (first | (refine ifB_t (by simp) ?_; conv => whnf) | (refine And.intro (by first | omega | exact ⟨by omega, wM, wW2⟩ | exact ⟨by omega, wW2, wW2⟩) ?_; conv => whnf))
    exact congrArg (fun b => Am.T.v (Value.bool b)) (by simp)
end Go.Proofs.Yteinekidpokbpaa.DfT
