/- DiffThen's walk. -/
import Derived.Test.YteinekidpokbpaaDfK
namespace Go.Proofs.Yteinekidpokbpaa.DfT
open Go.RowKit Go.Proofs.Yteinekidpokbpaa.Am Go.Proofs.Yteinekidpokbpaa Go.Proofs.Yteinekidpokbpaa.PrT
set_option linter.unusedVariables false
set_option linter.unusedSimpArgs false


theorem wrsS_fit (L : List R) (base : Int) (n : Nat) : Fit base n (wrsS L base n) := by
  unfold wrsS
  split
  · intro w hw; cases hw
  · intro w hw
    unfold wrs at hw
    obtain ⟨r, _, rfl⟩ := List.mem_map.1 hw
    obtain ⟨p1, p2⟩ := ipick_bounds r.1 (n := n) (by omega)
    exact ⟨by dsimp only; omega, by dsimp only; omega⟩
theorem wrsS_len (L : List R) (base : Int) (n : Nat) : (wrsS L base n).length ≤ 20 := by
  unfold wrsS
  split
  · exact Nat.zero_le _
  · rw [wrs_len]; omega
theorem lt_key {T : List R} (h : T.Pairwise fun a b => a.1 < b.1) {i : Nat} (h1 : i + 1 < T.length) : kR T i < kR T (i + 1) := by
  have := List.pairwise_iff_getElem.1 h i (i + 1) (by omega) h1 (by omega)
  unfold kR gR
  rw [List.getD_eq_getElem?_getD, List.getD_eq_getElem?_getD, List.getElem?_eq_getElem h1, List.getElem?_eq_getElem (by omega : i < T.length)]
  exact this
noncomputable def ctxThn (P : Program) : Ctx := ctx P glR [eAwk, ePick05, eWords, eWrites, eThen, ePatch, eSame, eWr] [] (noEq P) [] (fun _ h => by cases h)
theorem ctxThn_good : (ctxThn Try.prog).good := ctx_good (by kernel_rfl) (AllOk.mem ⟨eAwk_ok, ePick05_ok, eWords_ok, eWrites_ok, eThen_ok, ePatch_ok, eSame_ok, eWr_ok, trivial⟩) glR_two
attribute [local irreducible] recs dfs ptL Bd thn ofL ofE ptS ptE zB wrdS wrsS ipick
set_option maxHeartbeats 1000000 in
set_option maxRecDepth 100000 in
theorem thenL_pure (m1 m2 m3 : Nat) (raw one two : List Int) (many base : Int) (hr : AllI raw) (ho : AllI one) (ht : AllI two) (h1 : I64 many) (h2 : I64 base) : Pure Try.prog glR 5 [.fl [.i64] m1 raw, .v (.int .i64 many), .v (.int .i64 base), .fl [.i64, .i64] m2 one, .fl [.i64, .i64] m3 two] (.v (.bool true)) := by
  obtain ⟨n', en, hn⟩ := ipick_nat many (n := 30) (by decide)
  obtain ⟨K, eK, hK⟩ := ipick_nat base (n := 1000) (by decide)
  have ew : IntKind.i64.wrap (1 + (n' : Int)) = ((n' + 1 : Nat) : Int) := by rw [wrap64 (by omega) (by omega)]; omega
  obtain ⟨n, hn1⟩ : ∃ n, n = n' + 1 := ⟨_, rfl⟩
  rw [← hn1] at ew
  have lA := wrdS_len raw n
  refine pure_of (C := ctxThn Try.prog) ctxThn_good Try.func5 (c := bodyOf Try.f5) (by rfl) (Nat.le_of_ble_eq_true (by rfl)) 4 0 [0, 1, 2, 3, 4, 10, 11, 12, 13, 14, 15, 16, 17, 18, 19, 20, 21, 22, 23, 24, 69, 83] ?_
  conv => whnf
  refine And.intro ⟨h1, by decide, by decide⟩ ?_
  conv => whnf
  rw [en, ew]
  repeat (refine And.intro (by first | omega | exact ⟨by omega, by omega, by assumption⟩ | exact ⟨by assumption, by decide, by decide⟩) ?_; conv => whnf)
  rw [eK, Int.toNat_natCast]
  have lL := wrsS_len (recs m2 2 one) K n
  have lM := wrsS_len (recs m3 2 two) K n
  have fL := wrsS_fit (recs m2 2 one) K n
  have fM := wrsS_fit (recs m3 2 two) K n
  generalize wrsS (recs m2 2 one) K n = L at *
  generalize wrsS (recs m3 2 two) K n = M at *
  generalize wrdS raw n = A at *
  rw [recs_dfs, recs_dfs]
  refine And.intro ⟨by omega, fit_wf (by omega) (by omega) fL, fit_wf (by omega) (by omega) fM⟩ ?_
  conv => whnf
  have fT := thn_fit fL fM
  have tL := thn_lt L M
  have tN := fit_len (thn_nd L M) fT
  obtain ⟨s1, s2⟩ := thn_self tL
  have hpt : ptL K (thn L M) A = ptL K M (ptL K L A) := thn_patch (by rw [lA]; exact fL) (by rw [lA]; exact fM)
  have lB : (ptL K L A).length = n := by rw [ptL_len, lA]
  generalize thn L M = T at *
  obtain ⟨g1, g2⟩ := pt_w (base := K) lA (by omega) fL
  obtain ⟨g3, g4⟩ := pt_w (base := K) lB (by omega) fM
  obtain ⟨g5, g6⟩ := pt_w (base := K) lA (by omega) fT
  rw [hpt] at g6
  rw [recs_dfs, g1, g2]
  refine And.intro ⟨by omega, fit_wf (by omega) (by omega) fL⟩ ?_
  conv => whnf
  rw [recs_dfs, lB, g3, g4]
  generalize ptL K L A = B at *
  generalize ptL K M B = C at *
  refine And.intro ⟨by omega, fit_wf (by omega) (by omega) fM⟩ ?_
  conv => whnf
  rw [recs_dfs, g5, g6]
  refine And.intro ⟨by omega, fit_wf (by omega) (by omega) fT⟩ ?_
  conv => whnf
  refine TW.loopD ctxThn_good 0 (base := 0) (lv := [0, 1, 2, 3, 4, 10, 11, 12, 13, 14, 15, 16, 17, 18, 19, 20, 21, 22, 23, 24, 69, 83]) [24] [] [] (fun i : Nat => [.v (.int .i64 i)]) (fun _ => []) (fun i => 1 ≤ i ∧ (i ≤ T.length ∨ i = 1)) (fun i => T.length - i) ?_
  conv => whnf
  refine ⟨⟨1, ⟨rfl, rfl, rfl⟩, Nat.le_refl _, .inr rfl⟩, fun i ⟨hi1, hi2⟩ => ?_⟩
  conv => whnf
  refine ifB_dec (fun h => ?_) (fun h => ?_)
  · have eb : IntKind.i64.wrap ((i : Int) - 1) = ((i - 1 : Nat) : Int) := by rw [wrap64 (by omega) (by omega)]; omega
    conv => whnf
    repeat (refine And.intro (by first | omega | (rw [eb]; omega)) ?_; conv => whnf)
    rw [eb]
    have E0 : (flat 2 T).getD (0 + addN 0 (i : Int).toNat * (1 + 1)) 0 = kR T i := by
      rw [addN_eq, show 0 + (0 + (i : Int).toNat) * (1 + 1) = i * 2 by omega]; exact flat_key (.inr rfl) T (by omega)
    have E1 : (flat 2 T).getD (0 + addN 0 ((i - 1 : Nat) : Int).toNat * (1 + 1)) 0 = kR T (i - 1) := by
      rw [addN_eq, show 0 + (0 + ((i - 1 : Nat) : Int).toNat) * (1 + 1) = (i - 1) * 2 by omega]; exact flat_key (.inr rfl) T (by omega)
    have hlt := lt_key tL (i := i - 1) (by omega)
    rw [show i - 1 + 1 = i by omega] at hlt
    rw [E0, E1]
    refine ifB_f (decide_eq_false (by omega)) ?_
    conv => whnf
    rw [wsucc (j := i) (n := T.length) (by omega) (by omega)]
    exact ⟨i + 1, [], ⟨rfl, rfl, rfl⟩, ⟨by omega, .inl (by omega)⟩, by dsimp only; omega⟩
  · conv => whnf
    refine ifB_t (by simp) ?_
    conv => whnf
    refine ifB_t (show decide ((T.length : Int) ≤ n) = true from decide_eq_true (by omega)) ?_
    conv => whnf
    rw [recs_dfs]
    refine And.intro ⟨by omega, fit_wf (by omega) (by omega) fT⟩ ?_
    conv => whnf
    rw [s1]
    refine ifB_t (by simp) ?_
    conv => whnf
    rw [recs_dfs]
    refine And.intro ⟨by omega, fit_wf (by omega) (by omega) fT⟩ ?_
    conv => whnf
    rw [s2]
    rw [show decide (flat 2 T = flat 2 T) = true from decide_eq_true rfl]
    repeat' (first | exact trivial | exact rfl | (refine And.intro ?_ ?_) | ((conv => whnf); done) | ((conv => whnf); (first | rfl | (refine congrArg (fun b => T.v (Value.bool b)) ?_; first | rfl | exact (decide_eq_true (by omega)).symm | exact (decide_eq_false (by omega)).symm | exact decide_eq_decide.2 (by omega)) | (refine congrArg (fun b => T.v (Value.int _ b)) ?_; first | rfl | omega) | omega)) | (first | rfl | (refine congrArg (fun b => T.v (Value.bool b)) ?_; first | rfl | exact (decide_eq_true (by omega)).symm | exact (decide_eq_false (by omega)).symm | exact decide_eq_decide.2 (by omega)) | (refine congrArg (fun b => T.v (Value.int _ b)) ?_; first | rfl | omega) | omega))
end Go.Proofs.Yteinekidpokbpaa.DfT
