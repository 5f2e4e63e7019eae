/- diff.Of: a range over a function. -/
import Derived.Test.YteinekidpokbpaaDfD
namespace Go.Proofs.Yteinekidpokbpaa.DfT
open Go.RowKit Go.Proofs.Yteinekidpokbpaa.Am Go.Proofs.Yteinekidpokbpaa Go.Proofs.Yteinekidpokbpaa.PrT
set_option linter.unusedVariables false
set_option linter.unusedSimpArgs false

set_option maxRecDepth 100000 in
theorem based_pure (base : Int) : Pure Try.prog glR 22 [.v (.int .i64 base)] (.v (.bool (decide (Bd base)))) := by
  refine pure_of (C := ctx0 Try.prog) ctx0_good Try.func22 (c := bodyOf Try.f22) (by rfl) (Nat.le_of_ble_eq_true (by rfl)) 4 0 [0, 2] ?_
  conv => whnf
  refine ifB_dec (fun h => ?_) (fun h => ?_)
  · conv => whnf
    have e : decide (Bd base) = decide (base ≤ 1048576) := decide_eq_decide.2 (by unfold Bd; omega)
    rw [e]
    repeat' (first | exact trivial | exact rfl | (refine And.intro ?_ ?_) | ((conv => whnf); done) | ((conv => whnf); (first | rfl | (refine congrArg (fun b => T.v (Value.bool b)) ?_; first | rfl | exact (decide_eq_true (by omega)).symm | exact (decide_eq_false (by omega)).symm | exact decide_eq_decide.2 (by omega)) | (refine congrArg (fun b => T.v (Value.int _ b)) ?_; first | rfl | omega) | omega)) | (first | rfl | (refine congrArg (fun b => T.v (Value.bool b)) ?_; first | rfl | exact (decide_eq_true (by omega)).symm | exact (decide_eq_false (by omega)).symm | exact decide_eq_decide.2 (by omega)) | (refine congrArg (fun b => T.v (Value.int _ b)) ?_; first | rfl | omega) | omega))
  · conv => whnf
    rw [decide_eq_false (fun q => by unfold Bd at q; omega)]
    repeat' (first | exact trivial | exact rfl | (refine And.intro ?_ ?_) | ((conv => whnf); done) | ((conv => whnf); (first | rfl | (refine congrArg (fun b => T.v (Value.bool b)) ?_; first | rfl | exact (decide_eq_true (by omega)).symm | exact (decide_eq_false (by omega)).symm | exact decide_eq_decide.2 (by omega)) | (refine congrArg (fun b => T.v (Value.int _ b)) ?_; first | rfl | omega) | omega)) | (first | rfl | (refine congrArg (fun b => T.v (Value.bool b)) ?_; first | rfl | exact (decide_eq_true (by omega)).symm | exact (decide_eq_false (by omega)).symm | exact decide_eq_decide.2 (by omega)) | (refine congrArg (fun b => T.v (Value.int _ b)) ?_; first | rfl | omega) | omega))

noncomputable def eBased : Entry := ⟨22, 3, fun l => match l with | [.v (.int .i64 base)] => some (none, .v (.bool (decide (Bd base))), []) | _ => none⟩
theorem eBased_ok : eBased.ok Try.prog glR := ⟨Am.enters_of Try.func22 (by kernel_rfl) (by kernel_rfl), by
  intro args c t bs h hc
  simp only [eBased] at h
  split at h <;> cases h
  exact based_pure _⟩
noncomputable def iUnl : Inl := ⟨23, Try.f23, bodyOf Try.f23, [0, 1, 2, 3, 4]⟩
theorem iUnl_ok : iUnl.ok Try.prog := Inl.mk_ok Try.func23 (by rfl) (by kernel_rfl) (by kernel_rfl)
noncomputable def iUnl1 : Inl := ⟨31, Try.f31, bodyOf Try.f31, [0, 1, 2, 4, 5, 6, 7, 8, 9, 25]⟩
theorem iUnl1_ok : iUnl1.ok Try.prog := Inl.mk_ok Try.func31 (by rfl) (by kernel_rfl) (by kernel_rfl)
noncomputable def ctxOf_inl : List Inl := [iUnl, iUnl1]
theorem ctxOf_inlOk : InlOk Try.prog ctxOf_inl := ⟨iUnl_ok, iUnl1_ok, trivial⟩
noncomputable def ctxOf (P : Program) (h : InlOk P ctxOf_inl) : Ctx := ctx P glR [eBased] [] (noEq P) ctxOf_inl h.mem
theorem ctxOf_good : (ctxOf Try.prog ctxOf_inlOk).good := ctx_good (by kernel_rfl) (AllOk.mem ⟨eBased_ok, trivial⟩) glR_two
attribute [local irreducible] recs dfs ptL Bd
set_option maxHeartbeats 1000000 in
set_option maxRecDepth 100000 in
theorem of_pure (n m : Nat) (a b : List Int) (base : Int) (hn : n ≤ 4096) : Pure Try.prog glR 11 [.fl [.u64] n a, .fl [.u64] m b, .v (.int .i64 base)] (.tup [.ow 0 2 (ofL a b base).length, .v (.int .i64 (ofE a b base))]) [(0, .fl [.i64, .u64] (flat 2 (ofL a b base)))] := by
  refine pure_wf fun hw => ?_
  obtain ⟨⟨w1, w2⟩, ⟨w3, w4⟩, -⟩ := hw
  simp only [List.length_cons, List.length_nil, Nat.zero_add, Nat.mul_one] at w1 w3
  by_cases hg : a.length = b.length ∧ Bd base
  · obtain ⟨e1, e2⟩ := of_yes hg
    rw [e1, e2]
    obtain ⟨hl, hb⟩ := hg
    have hb12 : 0 ≤ base ∧ base ≤ 1048576 := by unfold Bd at hb; exact hb
    obtain ⟨hb1, hb2⟩ := hb12
    refine pure_of (C := ctxOf Try.prog ctxOf_inlOk) ctxOf_good Try.func11 (c := bodyOf Try.f11) (by rfl) (Nat.le_of_ble_eq_true (by rfl)) 4 4 [0, 1, 2, 5, 6, 7, 8, 9, 19, 22, 23, 24] ?_
    conv => whnf
    refine ifB_ne (fun h => absurd h (by omega)) (fun h => ?_)
    conv => whnf
    refine ifB_f (by rw [decide_eq_true hb]; rfl) ?_
    conv => whnf
    repeat (refine And.intro (by omega) ?_; conv => whnf)
    intro l
    conv => whnf
    refine TW.nilOwnB 24 0 5000 2 _ (.fl [.i64, .u64] []) rfl rfl rfl (.inr ⟨_, _, rfl⟩) (by decide) ?_
    refine TW.loopD ctxOf_good 4 (base := 7000000) (lv := [0, 1, 2, 4, 5, 6, 7, 8, 9, 25]) [8] [24, 5000] [(24, 24), (5000, 5000)] (fun x : Nat × List R => [.v (.int .i64 x.1)]) (fun x => [.cs [.ow 5000 2 x.2.length], .fl [.i64, .u64] (flat 2 x.2)]) (fun x => x.1 ≤ n ∧ x.2 = dfs a b base x.1 ∧ x.2.length ≤ x.1) (fun x => n - x.1) ?_
    conv => whnf
    refine ⟨⟨(0, []), ⟨rfl, rfl, rfl⟩, Nat.zero_le _, (dfs_zero a b base).symm, Nat.le_refl _⟩, fun ⟨j, U⟩ ⟨hj, hU, hUl⟩ => ?_⟩
    replace hj : j ≤ n := hj
    replace hU : U = dfs a b base j := hU
    replace hUl : U.length ≤ j := hUl
    conv => whnf
    refine ifB_dec (fun h => ?_) (fun h => ?_)
    · replace h : (j : Int) < m := h
      have hs := dfs_succ a b base j
      conv => whnf
      repeat (refine And.intro (by first | omega | (dsimp only; omega)) ?_; conv => whnf)
      have E0 : a.getD (0 + (((j, U) : Nat × List R).1 : Int).toNat * (0 + 1)) 0 = a.getD j 0 := by
        rw [show 0 + (((j, U) : Nat × List R).1 : Int).toNat * (0 + 1) = j by dsimp only; omega]
      have E1 : b.getD (0 + (((j, U) : Nat × List R).1 : Int).toNat * (0 + 1)) 0 = b.getD j 0 := by
        rw [show 0 + (((j, U) : Nat × List R).1 : Int).toNat * (0 + 1) = j by dsimp only; omega]
      rw [E0, E1]
      refine ifB_ne (x := a.getD j 0) (y := b.getD j 0) (fun h1 => ?_) (fun h1 => ?_)
      · rw [if_neg h1] at hs
        conv => whnf
        repeat (refine And.intro (by first | rfl | omega | (show U.length + 1 ≤ 1099511627776; omega) | (dsimp only; omega)) ?_; conv => whnf)
        rw [wsucc (j := j) (n := n) (by omega) w2]
        have E2 : IntKind.i64.wrap (base + (((j, U) : Nat × List R).1 : Int)) = base + (j : Nat) := wrap64 (by dsimp only; omega) (by dsimp only; omega)
        rw [E2]
        refine ⟨(j + 1, U ++ [(base + (j : Nat), b.getD j 0)]), [(24, 24), (28672381064, 5000)], ⟨rfl, rfl, ?_⟩, ⟨(by omega : j + 1 ≤ n), ?_, ?_⟩, by dsimp only; omega⟩
        · show _ = (24, Blk.cs [Am.T.ow 5000 2 (U ++ [(base + (j : Nat), b.getD j 0)]).length]) :: (5000, Blk.fl [.i64, .u64] (flat 2 (U ++ [(base + (j : Nat), b.getD j 0)]))) :: _
          rw [flat_append, List.length_append]; rfl
        · dsimp only; rw [hs, hU]
        · dsimp only; rw [List.length_append]; simp; omega
      · rw [if_pos h1] at hs
        conv => whnf
        rw [wsucc (j := j) (n := n) (by omega) w2]
        refine ⟨(j + 1, U), [(24, 24), (5000, 5000)], ⟨rfl, rfl, rfl⟩, ⟨(by omega : j + 1 ≤ n), ?_, by dsimp only; omega⟩, by dsimp only; omega⟩
        dsimp only; rw [hs, hU]
    · replace h : ¬ (j : Int) < m := h
      conv => whnf
      obtain rfl : j = n := by omega
      rw [← w1] at hU
      repeat (refine And.intro (by first | rfl | omega | (show U.length + 1 ≤ 1099511627776; omega) | (dsimp only; omega)) ?_; conv => whnf)
      rw [← hU]
      repeat' (first | exact trivial | exact rfl | (refine And.intro ?_ ?_) | ((conv => whnf); done) | ((conv => whnf); (first | rfl | (refine congrArg (fun b => T.v (Value.bool b)) ?_; first | rfl | exact (decide_eq_true (by omega)).symm | exact (decide_eq_false (by omega)).symm | exact decide_eq_decide.2 (by omega)) | (refine congrArg (fun b => T.v (Value.int _ b)) ?_; first | rfl | omega) | omega)) | (first | rfl | (refine congrArg (fun b => T.v (Value.bool b)) ?_; first | rfl | exact (decide_eq_true (by omega)).symm | exact (decide_eq_false (by omega)).symm | exact decide_eq_decide.2 (by omega)) | (refine congrArg (fun b => T.v (Value.int _ b)) ?_; first | rfl | omega) | omega))
  · obtain ⟨e1, e2⟩ := of_no hg
    rw [e1, e2]
    refine pure_of (C := ctxOf Try.prog ctxOf_inlOk) ctxOf_good Try.func11 (c := bodyOf Try.f11) (by rfl) (Nat.le_of_ble_eq_true (by rfl)) 4 4 [0, 1, 2, 5, 6, 7, 8, 9, 19, 22, 23, 24] ?_
    conv => whnf
    refine ifB_ne (fun h => ?_) (fun h => ?_)
    · conv => whnf
      repeat' (first | exact trivial | exact rfl | (refine And.intro ?_ ?_) | ((conv => whnf); done) | ((conv => whnf); (first | rfl | (refine congrArg (fun b => T.v (Value.bool b)) ?_; first | rfl | exact (decide_eq_true (by omega)).symm | exact (decide_eq_false (by omega)).symm | exact decide_eq_decide.2 (by omega)) | (refine congrArg (fun b => T.v (Value.int _ b)) ?_; first | rfl | omega) | omega)) | (first | rfl | (refine congrArg (fun b => T.v (Value.bool b)) ?_; first | rfl | exact (decide_eq_true (by omega)).symm | exact (decide_eq_false (by omega)).symm | exact decide_eq_decide.2 (by omega)) | (refine congrArg (fun b => T.v (Value.int _ b)) ?_; first | rfl | omega) | omega))
    · conv => whnf
      have hb : ¬ Bd base := fun q => hg ⟨by omega, q⟩
      refine ifB_t (by rw [decide_eq_false hb]; rfl) ?_
      conv => whnf
      repeat' (first | exact trivial | exact rfl | (refine And.intro ?_ ?_) | ((conv => whnf); done) | ((conv => whnf); (first | rfl | (refine congrArg (fun b => T.v (Value.bool b)) ?_; first | rfl | exact (decide_eq_true (by omega)).symm | exact (decide_eq_false (by omega)).symm | exact decide_eq_decide.2 (by omega)) | (refine congrArg (fun b => T.v (Value.int _ b)) ?_; first | rfl | omega) | omega)) | (first | rfl | (refine congrArg (fun b => T.v (Value.bool b)) ?_; first | rfl | exact (decide_eq_true (by omega)).symm | exact (decide_eq_false (by omega)).symm | exact decide_eq_decide.2 (by omega)) | (refine congrArg (fun b => T.v (Value.int _ b)) ?_; first | rfl | omega) | omega))
noncomputable def eOf : Entry := ⟨11, 7, fun l => match l with | [.fl [.u64] n a, .fl [.u64] m b, .v (.int .i64 base)] => some (some (n ≤ 4096), .tup [.ow 0 2 (ofL a b base).length, .v (.int .i64 (ofE a b base))], [(0, .fl [.i64, .u64] (flat 2 (ofL a b base)))]) | _ => none⟩
theorem eOf_ok : eOf.ok Try.prog glR := ⟨Am.enters_of Try.func11 (by kernel_rfl) (by kernel_rfl), by
  intro args c t bs h hc
  simp only [eOf] at h
  split at h <;> cases h
  replace hc := hc _ rfl
  exact of_pure _ _ _ _ _ hc⟩
end Go.Proofs.Yteinekidpokbpaa.DfT
