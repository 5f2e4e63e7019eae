/- diff: what makes words others; words that are written: the document's. -/
import Derived.Test.YteinekidpokbpaaDfC
namespace Go.Proofs.Yteinekidpokbpaa.DfT
open Go.RowKit Go.Proofs.Yteinekidpokbpaa.Am Go.Proofs.Yteinekidpokbpaa Go.Proofs.Yteinekidpokbpaa.PrT
set_option linter.unusedVariables false
set_option linter.unusedSimpArgs false

def Bd (base : Int) : Prop := 0 ≤ base ∧ base ≤ 1048576
instance (base : Int) : Decidable (Bd base) := by unfold Bd; exact inferInstance
def ofE (a b : List Int) (base : Int) : Int := if a.length = b.length ∧ Bd base then 0 else 1
def ofL (a b : List Int) (base : Int) : List R := if a.length = b.length ∧ Bd base then dfs a b base a.length else []
theorem of_yes {a b : List Int} {base : Int} (h : a.length = b.length ∧ Bd base) : ofE a b base = 0 ∧ ofL a b base = dfs a b base a.length := by unfold ofE ofL; rw [if_pos h, if_pos h]; exact ⟨rfl, rfl⟩
theorem of_no {a b : List Int} {base : Int} (h : ¬ (a.length = b.length ∧ Bd base)) : ofE a b base = 1 ∧ ofL a b base = [] := by unfold ofE ofL; rw [if_neg h, if_neg h]; exact ⟨rfl, rfl⟩
instance (base : Int) (n : Nat) (l : List R) : Decidable (Fit base n l) := by unfold Fit; exact inferInstance
def ptE (base : Int) (n : Nat) (l : List R) : Int := if Bd base ∧ Fit base n l then 0 else 1
def ptS (base : Int) (a : List Int) (l : List R) : List Int := if Bd base ∧ Fit base a.length l then ptL base l a else []
theorem pt_yes {a : List Int} {l : List R} {base : Int} (h : Bd base ∧ Fit base a.length l) : ptE base a.length l = 0 ∧ ptS base a l = ptL base l a := by unfold ptE ptS; rw [if_pos h, if_pos h]; exact ⟨rfl, rfl⟩
theorem pt_no {a : List Int} {l : List R} {base : Int} (h : ¬ (Bd base ∧ Fit base a.length l)) : ptE base a.length l = 1 ∧ ptS base a l = [] := by unfold ptE ptS; rw [if_neg h, if_neg h]; exact ⟨rfl, rfl⟩
attribute [local irreducible] recs dfs ptL
set_option maxHeartbeats 1000000 in
set_option maxRecDepth 100000 in
theorem rof_pure (n m : Nat) (a b : List Int) (base : Int) (hn : n ≤ 4096) : Pure Try.prog glR 12 [.fl [.u64] n a, .fl [.u64] m b, .v (.int .i64 base)] (.tup [.ow 0 2 (ofL a b base).length, .v (.int .i64 (ofE a b base))]) [(0, .fl [.i64, .u64] (flat 2 (ofL a b base)))] := by
  refine pure_wf fun hw => ?_
  obtain ⟨⟨w1, w2⟩, ⟨w3, w4⟩, -⟩ := hw
  simp only [List.length_cons, List.length_nil, Nat.zero_add, Nat.mul_one] at w1 w3
  by_cases hg : a.length = b.length ∧ Bd base
  · obtain ⟨e1, e2⟩ := of_yes hg
    rw [e1, e2]
    obtain ⟨hl, hb1, hb2⟩ := hg
    refine pure_of (C := ctx0 Try.prog) ctx0_good Try.func12 (c := bodyOf Try.f12) (by rfl) (Nat.le_of_ble_eq_true (by rfl)) 4 0 [0, 1, 2, 6, 7, 8, 9, 22, 26, 37] ?_
    conv => whnf
    refine ifB_ne (fun h => absurd h (by omega)) (fun h => ?_)
    conv => whnf
    refine ifB_dec (fun h => absurd h (by omega)) (fun h => ?_)
    conv => whnf
    refine ifB_dec (fun h => absurd h (by omega)) (fun h => ?_)
    conv => whnf
    refine TW.nilOwn 8 5000 2 (.fl [.i64, .u64] []) rfl rfl (.inr ⟨_, _, rfl⟩) (by decide) ?_
    refine TW.loopD ctx0_good 0 (base := 0) (lv := [0, 1, 2, 6, 7, 8, 9, 22, 26, 37]) [8, 9] [5000] [(5000, 5000)] (fun x : Nat × List R => [.ow 5000 2 x.2.length, .v (.int .i64 x.1)]) (fun x => [.fl [.i64, .u64] (flat 2 x.2)]) (fun x => x.1 ≤ n ∧ x.2 = dfs a b base x.1 ∧ x.2.length ≤ x.1) (fun x => n - x.1) ?_
    conv => whnf
    refine ⟨⟨(0, []), ⟨rfl, rfl, rfl⟩, Nat.zero_le _, (dfs_zero a b base).symm, Nat.le_refl _⟩, fun ⟨j, U⟩ ⟨hj, hU, hUl⟩ => ?_⟩
    replace hj : j ≤ n := hj
    replace hU : U = dfs a b base j := hU
    replace hUl : U.length ≤ j := hUl
    conv => whnf
    refine ifB_dec (fun h => ?_) (fun h => ?_)
    · replace h : (j : Int) < n := h
      have hs := dfs_succ a b base j
      conv => whnf
      repeat (refine And.intro (by first | omega | (dsimp only; omega)) ?_; conv => whnf)
      have E0 : a.getD (0 + (((j, U) : Nat × List R).1 : Int).toNat * (0 + 1)) 0 = a.getD j 0 := by
        rw [show 0 + (((j, U) : Nat × List R).1 : Int).toNat * (0 + 1) = j by dsimp only; omega]
      have E1 : b.getD (0 + (((j, U) : Nat × List R).1 : Int).toNat * (0 + 1)) 0 = b.getD j 0 := by
        rw [show 0 + (((j, U) : Nat × List R).1 : Int).toNat * (0 + 1) = j by dsimp only; omega]
      rw [E0, E1]
      refine ifB_ne (x := a.getD j 0) (y := b.getD j 0) (fun h1 => ?_) (fun h1 => ?_)
      · rw [if_neg h1] at hs
        conv => whnf
        repeat (refine And.intro (by first | omega | (show U.length + 1 ≤ 1099511627776; omega) | (dsimp only; omega)) ?_; conv => whnf)
        rw [wsucc (j := j) (n := n) (by omega) w2]
        have E2 : IntKind.i64.wrap (base + (((j, U) : Nat × List R).1 : Int)) = base + (j : Nat) := wrap64 (by dsimp only; omega) (by dsimp only; omega)
        rw [E2, E1]
        refine ⟨(j + 1, U ++ [(base + (j : Nat), b.getD j 0)]), [(192, 5000)], ⟨rfl, ?_, ?_⟩, ⟨(by omega : j + 1 ≤ n), ?_, ?_⟩, by dsimp only; omega⟩
        · show _ = (8, Am.T.ow 5000 2 (U ++ [(base + (j : Nat), b.getD j 0)]).length) :: _
          rw [List.length_append]; rfl
        · show _ = (5000, Blk.fl [.i64, .u64] (flat 2 (U ++ [(base + (j : Nat), b.getD j 0)]))) :: _
          rw [flat_append]; rfl
        · dsimp only; rw [hs, hU]
        · dsimp only; rw [List.length_append]; simp; omega
      · rw [if_pos h1] at hs
        conv => whnf
        rw [wsucc (j := j) (n := n) (by omega) w2]
        refine ⟨(j + 1, U), [(5000, 5000)], ⟨rfl, rfl, rfl⟩, ⟨(by omega : j + 1 ≤ n), ?_, by dsimp only; omega⟩, by dsimp only; omega⟩
        dsimp only; rw [hs, hU]
    · replace h : ¬ (j : Int) < n := h
      obtain rfl : j = n := by omega
      conv => whnf
      rw [← w1] at hU
      rw [← hU]
      repeat' (first | exact trivial | exact rfl | (refine And.intro ?_ ?_) | ((conv => whnf); done) | ((conv => whnf); (first | rfl | (refine congrArg (fun b => T.v (Value.bool b)) ?_; first | rfl | exact (decide_eq_true (by omega)).symm | exact (decide_eq_false (by omega)).symm | exact decide_eq_decide.2 (by omega)) | (refine congrArg (fun b => T.v (Value.int _ b)) ?_; first | rfl | omega) | omega)) | (first | rfl | (refine congrArg (fun b => T.v (Value.bool b)) ?_; first | rfl | exact (decide_eq_true (by omega)).symm | exact (decide_eq_false (by omega)).symm | exact decide_eq_decide.2 (by omega)) | (refine congrArg (fun b => T.v (Value.int _ b)) ?_; first | rfl | omega) | omega))
  · obtain ⟨e1, e2⟩ := of_no hg
    rw [e1, e2]
    refine pure_of (C := ctx0 Try.prog) ctx0_good Try.func12 (c := bodyOf Try.f12) (by rfl) (Nat.le_of_ble_eq_true (by rfl)) 4 0 [0, 1, 2, 6, 7, 8, 9, 22, 26, 37] ?_
    conv => whnf
    refine ifB_ne (fun h => ?_) (fun h => ?_)
    · conv => whnf
      repeat' (first | exact trivial | exact rfl | (refine And.intro ?_ ?_) | ((conv => whnf); done) | ((conv => whnf); (first | rfl | (refine congrArg (fun b => T.v (Value.bool b)) ?_; first | rfl | exact (decide_eq_true (by omega)).symm | exact (decide_eq_false (by omega)).symm | exact decide_eq_decide.2 (by omega)) | (refine congrArg (fun b => T.v (Value.int _ b)) ?_; first | rfl | omega) | omega)) | (first | rfl | (refine congrArg (fun b => T.v (Value.bool b)) ?_; first | rfl | exact (decide_eq_true (by omega)).symm | exact (decide_eq_false (by omega)).symm | exact decide_eq_decide.2 (by omega)) | (refine congrArg (fun b => T.v (Value.int _ b)) ?_; first | rfl | omega) | omega))
    · conv => whnf
      refine ifB_dec (fun h1 => ?_) (fun h1 => ?_)
      · conv => whnf
        repeat' (first | exact trivial | exact rfl | (refine And.intro ?_ ?_) | ((conv => whnf); done) | ((conv => whnf); (first | rfl | (refine congrArg (fun b => T.v (Value.bool b)) ?_; first | rfl | exact (decide_eq_true (by omega)).symm | exact (decide_eq_false (by omega)).symm | exact decide_eq_decide.2 (by omega)) | (refine congrArg (fun b => T.v (Value.int _ b)) ?_; first | rfl | omega) | omega)) | (first | rfl | (refine congrArg (fun b => T.v (Value.bool b)) ?_; first | rfl | exact (decide_eq_true (by omega)).symm | exact (decide_eq_false (by omega)).symm | exact decide_eq_decide.2 (by omega)) | (refine congrArg (fun b => T.v (Value.int _ b)) ?_; first | rfl | omega) | omega))
      · conv => whnf
        refine ifB_dec (fun h2 => ?_) (fun h2 => ?_)
        · conv => whnf
          repeat' (first | exact trivial | exact rfl | (refine And.intro ?_ ?_) | ((conv => whnf); done) | ((conv => whnf); (first | rfl | (refine congrArg (fun b => T.v (Value.bool b)) ?_; first | rfl | exact (decide_eq_true (by omega)).symm | exact (decide_eq_false (by omega)).symm | exact decide_eq_decide.2 (by omega)) | (refine congrArg (fun b => T.v (Value.int _ b)) ?_; first | rfl | omega) | omega)) | (first | rfl | (refine congrArg (fun b => T.v (Value.bool b)) ?_; first | rfl | exact (decide_eq_true (by omega)).symm | exact (decide_eq_false (by omega)).symm | exact decide_eq_decide.2 (by omega)) | (refine congrArg (fun b => T.v (Value.int _ b)) ?_; first | rfl | omega) | omega))
        · exact absurd ⟨by omega, by unfold Bd; omega⟩ hg
def eROf : Entry := ⟨12, 4, fun l => match l with | [.fl [.u64] n a, .fl [.u64] m b, .v (.int .i64 base)] => some (some (n ≤ 4096), .tup [.ow 0 2 (ofL a b base).length, .v (.int .i64 (ofE a b base))], [(0, .fl [.i64, .u64] (flat 2 (ofL a b base)))]) | _ => none⟩
theorem eROf_ok : eROf.ok Try.prog glR := ⟨Am.enters_of Try.func12 (by kernel_rfl) (by kernel_rfl), by
  intro args c t bs h hc
  simp only [eROf] at h
  split at h <;> cases h
  replace hc := hc _ rfl
  exact rof_pure _ _ _ _ _ hc⟩
end Go.Proofs.Yteinekidpokbpaa.DfT
