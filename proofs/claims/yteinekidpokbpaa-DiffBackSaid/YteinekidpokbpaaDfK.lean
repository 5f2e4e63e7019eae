/- DiffBack's walk. -/
import Derived.Test.YteinekidpokbpaaDfJ
namespace Go.Proofs.Yteinekidpokbpaa.DfT
open Go.RowKit Go.Proofs.Yteinekidpokbpaa.Am Go.Proofs.Yteinekidpokbpaa Go.Proofs.Yteinekidpokbpaa.PrT
set_option linter.unusedVariables false
set_option linter.unusedSimpArgs false


theorem ipick_nat (c : Int) {n : Int} (hn : 0 < n) : ∃ q : Nat, ipick c n = (q : Int) ∧ (q : Int) < n := by
  obtain ⟨h1, h2⟩ := ipick_bounds c hn
  exact ⟨(ipick c n).toNat, by omega, by omega⟩
theorem recs_dfs (T : List R) : recs T.length 2 (flat 2 T) = T := recs_flat (.inr rfl) rfl (fun q => by cases q)
theorem fit_wf {base : Int} {n : Nat} {l : List R} (h1 : 0 ≤ base ∧ base ≤ 4096) (h2 : n ≤ 4096) (h : Fit base n l) : WfW l := fun w hw => by
  have := h w hw; exact ⟨by omega, by omega⟩
theorem of_w {a b : List Int} {base : Int} {n : Nat} (ha : a.length = n) (hb : b.length = n) (h1 : 0 ≤ base ∧ base ≤ 1000) : ofE a b base = 0 ∧ ofL a b base = dfs a b base n := by
  have := of_yes (a := a) (b := b) (base := base) ⟨by omega, by unfold Bd; omega⟩
  rw [ha] at this; exact this
theorem pt_w {a : List Int} {l : List R} {base : Int} {n : Nat} (ha : a.length = n) (h1 : 0 ≤ base ∧ base ≤ 1000) (hf : Fit base n l) : ptE base n l = 0 ∧ ptS base a l = ptL base l a := by
  have := pt_yes (a := a) (l := l) (base := base) ⟨by unfold Bd; omega, by rw [ha]; exact hf⟩
  rw [ha] at this; exact this
theorem part_a (D : List R) (p : Nat) (hp : p ≤ D.length) : List.take (mulN (cutL D.length none (some (p : Int))) (1 + 1)) (List.drop (mulN (addN 0 (loN none)) (1 + 1)) (flat 2 D)) = flat 2 (D.take p) ∧ cutL D.length none (some (p : Int)) = (D.take p).length := by
  obtain ⟨c1, c2⟩ := flat_cut (.inr rfl) D hp
  constructor
  · rw [mulN_eq, mulN_eq, addN_eq]
    show List.take (p * 2) (List.drop ((0 + 0) * 2) (flat 2 D)) = _
    rw [show (0 + 0) * 2 = 0 from rfl, List.drop_zero, c1]
  · show p = _
    rw [List.length_take]; omega
theorem part_b (D : List R) (p : Nat) (hp : p ≤ D.length) : List.take (mulN (cutL D.length (some (p : Int)) none) (1 + 1)) (List.drop (mulN (addN 0 (loN (some (p : Int)))) (1 + 1)) (flat 2 D)) = flat 2 (D.drop p) ∧ cutL D.length (some (p : Int)) none = (D.drop p).length := by
  obtain ⟨c1, c2⟩ := flat_cut (.inr rfl) D hp
  constructor
  · rw [mulN_eq, mulN_eq, addN_eq]
    show List.take ((D.length - p) * 2) (List.drop ((0 + p) * 2) (flat 2 D)) = _
    rw [Nat.zero_add, c2, List.take_of_length_le]
    rw [flat_len (.inr rfl), List.length_drop]; exact Nat.le_refl _
  · show D.length - p = _
    rw [List.length_drop]
noncomputable def ctxBk (P : Program) : Ctx := ctx P glR [eAwk, ePick05, eWords, eOf, ePatch, eSame, eDSame] [] (noEq P) [] (fun _ h => by cases h)
theorem ctxBk_good : (ctxBk Try.prog).good := ctx_good (by kernel_rfl) (AllOk.mem ⟨eAwk_ok, ePick05_ok, eWords_ok, eOf_ok, ePatch_ok, eSame_ok, eDSame_ok, trivial⟩) glR_two
attribute [local irreducible] recs dfs ptL Bd thn ofL ofE ptS ptE zB wrdS ipick
set_option maxHeartbeats 1000000 in
set_option maxRecDepth 100000 in
theorem back_pure (m1 m2 : Nat) (raw other : List Int) (many base at_ : Int) (hr : AllI raw) (ho : AllI other) (h1 : I64 many) (h2 : I64 base) (h3 : I64 at_) : Pure Try.prog glR 4 [.fl [.i64] m1 raw, .fl [.i64] m2 other, .v (.int .i64 many), .v (.int .i64 base), .v (.int .i64 at_)] (.v (.bool true)) := by
  obtain ⟨n, en, hn⟩ := ipick_nat many (n := 30) (by decide)
  obtain ⟨K, eK, hK⟩ := ipick_nat base (n := 1000) (by decide)
  have lA := wrdS_len raw n
  have lB := wrdS_len other n
  refine pure_of (C := ctxBk Try.prog) ctxBk_good Try.func4 (c := bodyOf Try.f4) (by rfl) (Nat.le_of_ble_eq_true (by rfl)) 4 0 [0, 1, 2, 3, 4, 10, 11, 12, 13, 14, 15, 16, 17, 18, 19, 20, 21, 22, 23, 24, 25, 88, 91] ?_
  conv => whnf
  refine And.intro ⟨h1, by decide, by decide⟩ ?_
  conv => whnf
  rw [en]
  repeat (refine And.intro (by first | omega | exact ⟨by omega, by omega, by assumption⟩ | exact ⟨by assumption, by decide, by decide⟩) ?_; conv => whnf)
  rw [Int.toNat_natCast, eK]
  generalize wrdS raw n = A at *
  generalize wrdS other n = B at *
  obtain ⟨f1, f2⟩ := of_w (base := K) lA lB (by omega)
  have hfit := dfs_fit A B K n
  have hnd := dfs_nd A B K n
  have hDl := dfs_len_le A B K n
  have hback : ptL K (dfs A B K n) A = B := by have := dfs_back (a := A) (b := B) (base := K) (by omega); rwa [lA] at this
  have htw : ptL K (dfs A B K n) B = B := by have := dfs_twice (a := A) (b := B) (base := K) (by omega); rwa [lA] at this
  have hnil : dfs A B K n = [] ↔ A = B := by have := dfs_nil_iff (a := A) (b := B) (base := K) (by omega); rwa [lA] at this
  have hless : ∀ p, p < (dfs A B K n).length → ptL K ((dfs A B K n).take p ++ (dfs A B K n).drop (p + 1)) A ≠ B := fun p hp => by have := dfs_less (a := A) (b := B) (base := K) (p := p) (by omega) (by rw [lA]; exact hp); rwa [lA] at this
  rw [f1, f2]
  generalize dfs A B K n = D at *
  obtain ⟨g1, g2⟩ := pt_w (base := K) lA (by omega) hfit
  obtain ⟨g3, g4⟩ := pt_w (base := K) lB (by omega) hfit
  rw [recs_dfs, g1, g2, hback]
  refine And.intro ⟨by omega, fit_wf (by omega) (by omega) hfit⟩ ?_
  conv => whnf
  rw [recs_dfs, lB, g3, g4, htw]
  refine And.intro ⟨by omega, fit_wf (by omega) (by omega) hfit⟩ ?_
  conv => whnf
  have hlen : decide (A = B) = ((D.length : Int) == 0) := by
    by_cases q : A = B
    · rw [decide_eq_true q, hnil.2 q]; rfl
    · rw [decide_eq_false q]
      have : D.length ≠ 0 := fun e => q (hnil.1 (List.eq_nil_of_length_eq_zero e))
      simp; exact fun e => this (by rw [e]; rfl)
  refine ifB_f (by simp) ?_
  conv => whnf
  refine ifB_f (by simp) ?_
  conv => whnf
  refine ifB_f (by rw [hlen]; simp) ?_
  conv => whnf
  refine ifB_eq (x := (D.length : Int)) (y := 0) (fun h => ?_) (fun h => ?_)
  · conv => whnf
    repeat' (first | exact trivial | exact rfl | (refine And.intro ?_ ?_) | ((conv => whnf); done) | ((conv => whnf); (first | rfl | (refine congrArg (fun b => T.v (Value.bool b)) ?_; first | rfl | exact (decide_eq_true (by omega)).symm | exact (decide_eq_false (by omega)).symm | exact decide_eq_decide.2 (by omega)) | (refine congrArg (fun b => T.v (Value.int _ b)) ?_; first | rfl | omega) | omega)) | (first | rfl | (refine congrArg (fun b => T.v (Value.bool b)) ?_; first | rfl | exact (decide_eq_true (by omega)).symm | exact (decide_eq_false (by omega)).symm | exact decide_eq_decide.2 (by omega)) | (refine congrArg (fun b => T.v (Value.int _ b)) ?_; first | rfl | omega) | omega))
  · conv => whnf
    refine And.intro ⟨h3, by omega, by omega⟩ ?_
    conv => whnf
    obtain ⟨p, ep, hp⟩ := ipick_nat at_ (n := (D.length : Int)) (by omega)
    rw [ep]
    have ew : IntKind.i64.wrap ((p : Int) + 1) = ((p + 1 : Nat) : Int) := by rw [wrap64 (by omega) (by omega)]; rfl
    repeat (refine And.intro (by first | omega | (show p * 16 ≤ 140737488355328; omega) | (dsimp only [cutL]; omega)) ?_; conv => whnf)
    try rw [ew]
    repeat (refine And.intro (by first | omega | (show p * 16 ≤ 140737488355328; omega) | (dsimp only [cutL]; omega)) ?_; conv => whnf)
    obtain ⟨q1, q2⟩ := part_a D p (by omega)
    obtain ⟨q3, q4⟩ := part_b D (p + 1) (by omega)
    rw [q1, q2, q3, q4, ← flat_append, ← List.length_append, recs_dfs]
    have hle := hless p (by omega)
    have hfe : Fit K n (D.take p ++ D.drop (p + 1)) := fun w hw => by
      rcases List.mem_append.1 hw with q | q
      · exact hfit w (List.mem_of_mem_take q)
      · exact hfit w (List.mem_of_mem_drop q)
    generalize D.take p ++ D.drop (p + 1) = E at *
    obtain ⟨g5, g6⟩ := pt_w (base := K) lA (by omega) hfe
    rw [g5, g6]
    refine And.intro ⟨by omega, fit_wf (by omega) (by omega) hfe⟩ ?_
    conv => whnf
    refine ifB_t (by rw [decide_eq_false hle]; rfl) ?_
    conv => whnf
    rw [decide_eq_false hle]
    repeat' (first | exact trivial | exact rfl | (refine And.intro ?_ ?_) | ((conv => whnf); done) | ((conv => whnf); (first | rfl | (refine congrArg (fun b => T.v (Value.bool b)) ?_; first | rfl | exact (decide_eq_true (by omega)).symm | exact (decide_eq_false (by omega)).symm | exact decide_eq_decide.2 (by omega)) | (refine congrArg (fun b => T.v (Value.int _ b)) ?_; first | rfl | omega) | omega)) | (first | rfl | (refine congrArg (fun b => T.v (Value.bool b)) ?_; first | rfl | exact (decide_eq_true (by omega)).symm | exact (decide_eq_false (by omega)).symm | exact decide_eq_decide.2 (by omega)) | (refine congrArg (fun b => T.v (Value.int _ b)) ?_; first | rfl | omega) | omega))
end Go.Proofs.Yteinekidpokbpaa.DfT
