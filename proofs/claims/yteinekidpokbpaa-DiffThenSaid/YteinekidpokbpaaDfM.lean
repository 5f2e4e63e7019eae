/- DiffSame's walk. -/
import Derived.Test.YteinekidpokbpaaDfL
namespace Go.Proofs.Yteinekidpokbpaa.DfT
open Go.RowKit Go.Proofs.Yteinekidpokbpaa.Am Go.Proofs.Yteinekidpokbpaa Go.Proofs.Yteinekidpokbpaa.PrT
set_option linter.unusedVariables false
set_option linter.unusedSimpArgs false


theorem zB_iff (xs : List Int) : zB xs = true ↔ xs = List.replicate xs.length 0 := by
  unfold zB
  rw [List.all_eq_true]
  constructor
  · intro h
    exact List.eq_replicate_iff.2 ⟨rfl, fun x hx => by simpa using h x hx⟩
  · intro h x hx
    rw [h] at hx
    simpa using (List.mem_replicate.1 hx).2
theorem len_zero {D : List R} : ((D.length : Int) == 0) = true ↔ D = [] := by
  cases D with
  | nil => simp
  | cons x D => simp; omega
theorem turn_row (D : List R) (t : Nat) (ht : t ≤ D.length) : List.take (mulN (cutL D.length (some (t : Int)) none) (1 + 1)) (List.drop (mulN (addN 0 (loN (some (t : Int)))) (1 + 1)) (flat 2 D)) ++ List.take (mulN (cutL D.length none (some (t : Int))) (1 + 1)) (List.drop (mulN (addN 0 (loN none)) (1 + 1)) (flat 2 D)) = flat 2 (D.drop t ++ D.take t) ∧ cutL D.length (some (t : Int)) none + cutL D.length none (some (t : Int)) = (D.drop t ++ D.take t).length := by
  obtain ⟨q1, q2⟩ := part_a D t ht
  obtain ⟨q3, q4⟩ := part_b D t ht
  rw [q1, q3, q2, q4, flat_append, List.length_append]
  exact ⟨rfl, rfl⟩
noncomputable def ctxSm (P : Program) : Ctx := ctx P glR [eAwk, ePick05, eWords, eOf, ePatch, eDSame, eDZero] [] (noEq P) [] (fun _ h => by cases h)
theorem ctxSm_good : (ctxSm Try.prog).good := ctx_good (by kernel_rfl) (AllOk.mem ⟨eAwk_ok, ePick05_ok, eWords_ok, eOf_ok, ePatch_ok, eDSame_ok, eDZero_ok, trivial⟩) glR_two
attribute [local irreducible] recs dfs ptL Bd thn ofL ofE ptS ptE zB wrdS wrsS ipick
set_option maxHeartbeats 2000000 in
set_option maxRecDepth 100000 in
theorem same05_pure (m1 m2 : Nat) (raw other : List Int) (many base turn : Int) (hr : AllI raw) (ho : AllI other) (h1 : I64 many) (h2 : I64 base) (h3 : I64 turn) : Pure Try.prog glR 6 [.fl [.i64] m1 raw, .fl [.i64] m2 other, .v (.int .i64 many), .v (.int .i64 base), .v (.int .i64 turn)] (.v (.bool true)) := by
  obtain ⟨n, en, hn⟩ := ipick_nat many (n := 30) (by decide)
  obtain ⟨K, eK, hK⟩ := ipick_nat base (n := 1000) (by decide)
  have lA := wrdS_len raw n
  have lB := wrdS_len other n
  refine pure_of (C := ctxSm Try.prog) ctxSm_good Try.func6 (c := bodyOf Try.f6) (by rfl) (Nat.le_of_ble_eq_true (by rfl)) 4 0 [0, 1, 2, 3, 4, 10, 11, 12, 13, 14, 15, 16, 17, 18, 19, 20, 21, 22, 23, 24, 25, 26, 108, 112, 174] ?_
  conv => whnf
  refine And.intro ⟨h1, by decide, by decide⟩ ?_
  conv => whnf
  rw [en]
  repeat (refine And.intro (by first | omega | exact ⟨by omega, by omega, by assumption⟩ | exact ⟨by assumption, by decide, by decide⟩) ?_; conv => whnf)
  rw [Int.toNat_natCast, eK]
  generalize wrdS raw n = A at *
  generalize wrdS other n = B at *
  rw [show List.replicate (mulN n (0 + 1)) (0 : Int) = List.replicate n 0 by rw [mulN_eq]; simp]
  have lZ : (List.replicate n (0 : Int)).length = n := List.length_replicate
  have hz := zB_iff A
  rw [lA] at hz
  generalize List.replicate n (0 : Int) = Z at *
  obtain ⟨f1, f2⟩ := of_w (base := K) lA lB (by omega)
  obtain ⟨f3, f4⟩ := of_w (base := K) lB lA (by omega)
  obtain ⟨f5, f6⟩ := of_w (base := K) lA lZ (by omega)
  have hDl := dfs_len_le A B K n
  have hfit := dfs_fit A B K n
  have hnd := dfs_nd A B K n
  have hback : ptL K (dfs A B K n) A = B := by have := dfs_back (a := A) (b := B) (base := K) (by omega); rwa [lA] at this
  have hnil : dfs A B K n = [] ↔ A = B := by have := dfs_nil_iff (a := A) (b := B) (base := K) (by omega); rwa [lA] at this
  have hzn : dfs A Z K n = [] ↔ A = Z := by have := dfs_nil_iff (a := A) (b := Z) (base := K) (by omega); rwa [lA] at this
  obtain ⟨hsl, hsw⟩ := dfs_swap A B K n
  rw [f1, f2, f3, f4, f5, f6]
  conv => whnf
  generalize dfs A B K n = D at *
  generalize dfs B A K n = E at *
  generalize dfs A Z K n = G at *
  have t1 : decide (A = B) = decide (B = A) := decide_eq_decide.2 ⟨fun e => e.symm, fun e => e.symm⟩
  have t2 : zB A = ((G.length : Int) == 0) := by
    rw [Bool.eq_iff_iff, len_zero, hzn]; exact hz
  have t3 : decide (A = B) = ((D.length : Int) == 0) := by
    rw [Bool.eq_iff_iff, len_zero, hnil]; exact decide_eq_true_iff
  refine ifB_f (by rw [hsl]; simp) ?_
  conv => whnf
  refine ifB_f (by rw [t1]; simp) ?_
  conv => whnf
  refine ifB_f (by simp) ?_
  conv => whnf
  refine ifB_f (by rw [t2]; simp) ?_
  conv => whnf
  refine ifB_f (by rw [t3]; simp) ?_
  conv => whnf
  refine TW.loopD ctxSm_good 0 (base := 0) (lv := [0, 1, 2, 3, 4, 10, 11, 12, 13, 14, 15, 16, 17, 18, 19, 20, 21, 22, 23, 24, 25, 26, 108, 112, 174]) [22] [] [] (fun i : Nat => [.v (.int .i64 i)]) (fun _ => []) (fun i => i ≤ D.length) (fun i => D.length - i) ?_
  conv => whnf
  refine ⟨⟨0, ⟨rfl, rfl, rfl⟩, Nat.zero_le _⟩, fun i hi => ?_⟩
  conv => whnf
  refine ifB_dec (fun h => ?_) (fun h => ?_)
  · obtain ⟨p, hp1, hne, e1, e2⟩ := hsw i (by omega)
    have E0 : (flat 2 D).getD (0 + addN 0 (i : Int).toNat * (1 + 1)) 0 = K + p := by
      rw [addN_eq, show 0 + (0 + (i : Int).toNat) * (1 + 1) = i * 2 by omega, flat_key (.inr rfl) D (by omega)]; unfold kR; rw [e1]
    have E1 : (flat 2 E).getD (0 + addN 0 (i : Int).toNat * (1 + 1)) 0 = K + p := by
      rw [addN_eq, show 0 + (0 + (i : Int).toNat) * (1 + 1) = i * 2 by omega, flat_key (.inr rfl) E (by omega)]; unfold kR; rw [e2]
    have E2 : (flat 2 D).getD (0 + 1 + addN 0 (i : Int).toNat * (1 + 1)) 0 = B.getD p 0 := by
      rw [addN_eq, show 0 + 1 + (0 + (i : Int).toNat) * (1 + 1) = i * 2 + 1 by omega, flat_val D (by omega), e1]
    have E3 : (flat 2 E).getD (0 + 1 + addN 0 (i : Int).toNat * (1 + 1)) 0 = A.getD p 0 := by
      rw [addN_eq, show 0 + 1 + (0 + (i : Int).toNat) * (1 + 1) = i * 2 + 1 by omega, flat_val E (by omega), e2]
    have ew : IntKind.i64.wrap ((K : Int) + p - K) = p := by rw [wrap64 (by omega) (by omega)]; omega
    conv => whnf
    repeat (refine And.intro (by omega) ?_; conv => whnf)
    rw [E0, E1, ew]
    refine ifB_f (by simp) ?_
    conv => whnf
    refine ifB_f (show decide ((p : Int) ≥ n) = false from decide_eq_false (by omega)) ?_
    conv => whnf
    repeat (refine And.intro (by omega) ?_; conv => whnf)
    rw [E2]
    have P0 : ∀ X : List Int, X.getD (0 + addN 0 (p : Int).toNat * (0 + 1)) 0 = X.getD p 0 := fun X => by rw [addN_eq, show 0 + (0 + (p : Int).toNat) * (0 + 1) = p by omega]
    rw [P0]
    refine ifB_f (by simp) ?_
    conv => whnf
    repeat (refine And.intro (by omega) ?_; conv => whnf)
    rw [E3, P0]
    refine ifB_f (by simp) ?_
    conv => whnf
    repeat (refine And.intro (by omega) ?_; conv => whnf)
    rw [P0, P0]
    refine ifB_f (by simpa using hne) ?_
    conv => whnf
    rw [wsucc (j := i) (n := D.length) (by omega) (by omega)]
    exact ⟨i + 1, [], ⟨rfl, rfl, rfl⟩, (by omega : i + 1 ≤ D.length), by dsimp only; omega⟩
  · conv => whnf
    rw [show IntKind.i64.wrap ((D.length : Int) + 1) = ((D.length + 1 : Nat) : Int) by rw [wrap64 (by omega) (by omega)]; rfl]
    refine And.intro ⟨h3, by omega, by omega⟩ ?_
    conv => whnf
    obtain ⟨t, et, ht⟩ := ipick_nat turn (n := ((D.length + 1 : Nat) : Int)) (by omega)
    rw [et]
    repeat (refine And.intro (by first | omega | (dsimp only [cutL]; omega) | (show (D.length - t) * 16 ≤ 140737488355328; omega)) ?_; conv => whnf)
    obtain ⟨r1, r2⟩ := turn_row D t (by omega)
    rw [r1, r2, recs_dfs]
    have hfe : Fit K n (D.drop t ++ D.take t) := fun w hw => by
      rcases List.mem_append.1 hw with q | q
      · exact hfit w (List.mem_of_mem_drop q)
      · exact hfit w (List.mem_of_mem_take q)
    have htp : ptL K (D.drop t ++ D.take t) A = B := by rw [turn_patch hnd (by rw [lA]; exact hfit) t, hback]
    generalize D.drop t ++ D.take t = F at *
    obtain ⟨g5, g6⟩ := pt_w (base := K) lA (by omega) hfe
    rw [g5, g6, htp]
    refine And.intro ⟨by omega, fit_wf (by omega) (by omega) hfe⟩ ?_
    conv => whnf
    rw [show decide (B = B) = true from decide_eq_true rfl]
    repeat' (first | exact trivial | exact rfl | (refine And.intro ?_ ?_) | ((conv => whnf); done) | ((conv => whnf); (first | rfl | (refine congrArg (fun b => T.v (Value.bool b)) ?_; first | rfl | exact (decide_eq_true (by omega)).symm | exact (decide_eq_false (by omega)).symm | exact decide_eq_decide.2 (by omega)) | (refine congrArg (fun b => T.v (Value.int _ b)) ?_; first | rfl | omega) | omega)) | (first | rfl | (refine congrArg (fun b => T.v (Value.bool b)) ?_; first | rfl | exact (decide_eq_true (by omega)).symm | exact (decide_eq_false (by omega)).symm | exact decide_eq_decide.2 (by omega)) | (refine congrArg (fun b => T.v (Value.int _ b)) ?_; first | rfl | omega) | omega))
end Go.Proofs.Yteinekidpokbpaa.DfT
