/- Texts put together: PlZ, PlAA, PlAB, PlAC, PlAD, PlAE. -/
import Derived.Test.YtlcpcgdecodjfaaDoorPlainTellsM4
namespace Go.Proofs.YtlcpcgdecodjfaaDoor
open Go.RowKit Go.Proofs.YtlcpcgdecodjfaaDoor.Am
set_option linter.unusedVariables false
set_option linter.unusedSimpArgs false

attribute [local irreducible] fitsB encR homeI decR regDo balR
set_option maxRecDepth 100000 in
theorem rwinF_pure (k p n : Int) (m : Nat) (w : List Int) (hf : fitsB k p n = false) : Pure Tryd.prog glR 22 [.agg [.v (.int .i64 k), .v (.int .i64 p), .v (.int .i64 n)], .fl [.u64] m w] (.tup [.v (.int .i64 0), .v (.int .i64 5)]) := by
  refine pure_of (C := ctxPlY Tryd.prog) ctxPlY_good Tryd.func22 (c := bodyOf Tryd.f22) (by rfl) (Nat.le_of_ble_eq_true (by rfl)) 4 0 [0, 1, 2, 4, 5, 6, 7, 8, 9, 10, 11, 12, 20, 28, 31, 38, 47, 52] ?_
  conv => whnf
  repeat' (first | (refine ifB_t (by assumption) ?_; conv => whnf) | (refine ifB_f (by assumption) ?_; conv => whnf) | (refine ifB_dec (fun h => ?_) (fun h => ?_) <;> (first | (exfalso; omega) | (conv => whnf))) | (refine ifB_eq (fun h => ?_) (fun h => ?_) <;> (first | (exfalso; omega) | (conv => whnf))) | (refine ifB_ne (fun h => ?_) (fun h => ?_) <;> (first | (exfalso; omega) | (conv => whnf))) | (refine ifB_not ?_; conv => whnf) | (refine ifB_and ?_; conv => whnf) | (refine ifB_or ?_; conv => whnf) | (refine And.intro ?_ ?_; (first | omega | assumption | (exact allU_getD (by assumption) _) | (simp only [cutL]; omega) | (refine And.intro ?_ ?_ <;> first | assumption | exact allU_getD (by assumption) _) | (simp only [cutL, IntKind.wrap_u64, IntKind.wrap_i64] at *; omega) | decide); conv => whnf) | (refine ifB_mk (fun h => ?_) (fun h => ?_) <;> (conv => whnf)))
  repeat' (first | exact trivial | exact rfl | (refine And.intro ?_ ?_) | ((conv => whnf); done) | ((conv => whnf); (first | rfl | (refine congrArg (fun b => T.v (Value.bool b)) ?_; first | rfl | exact (decide_eq_true (by omega)).symm | exact (decide_eq_false (by omega)).symm | exact decide_eq_decide.2 (by omega)) | (refine congrArg (fun b => T.v (Value.int _ b)) ?_; first | rfl | omega) | omega)) | (first | rfl | (refine congrArg (fun b => T.v (Value.bool b)) ?_; first | rfl | exact (decide_eq_true (by omega)).symm | exact (decide_eq_false (by omega)).symm | exact decide_eq_decide.2 (by omega)) | (refine congrArg (fun b => T.v (Value.int _ b)) ?_; first | rfl | omega) | omega))
set_option maxRecDepth 100000 in
theorem rwinX_pure (k p n : Int) (m : Nat) (w : List Int) (hf : fitsB k p n = true) (h5 : k ≠ 5) : Pure Tryd.prog glR 22 [.agg [.v (.int .i64 k), .v (.int .i64 p), .v (.int .i64 n)], .fl [.u64] m w] (.tup [.v (.int .i64 0), .v (.int .i64 5)]) := by
  refine pure_of (C := ctxPlY Tryd.prog) ctxPlY_good Tryd.func22 (c := bodyOf Tryd.f22) (by rfl) (Nat.le_of_ble_eq_true (by rfl)) 4 0 [0, 1, 2, 4, 5, 6, 7, 8, 9, 10, 11, 12, 20, 28, 31, 38, 47, 52] ?_
  conv => whnf
  repeat' (first | (refine ifB_t (by assumption) ?_; conv => whnf) | (refine ifB_f (by assumption) ?_; conv => whnf) | (refine ifB_dec (fun h => ?_) (fun h => ?_) <;> (first | (exfalso; omega) | (conv => whnf))) | (refine ifB_eq (fun h => ?_) (fun h => ?_) <;> (first | (exfalso; omega) | (conv => whnf))) | (refine ifB_ne (fun h => ?_) (fun h => ?_) <;> (first | (exfalso; omega) | (conv => whnf))) | (refine ifB_not ?_; conv => whnf) | (refine ifB_and ?_; conv => whnf) | (refine ifB_or ?_; conv => whnf) | (refine And.intro ?_ ?_; (first | omega | assumption | (exact allU_getD (by assumption) _) | (simp only [cutL]; omega) | (refine And.intro ?_ ?_ <;> first | assumption | exact allU_getD (by assumption) _) | (simp only [cutL, IntKind.wrap_u64, IntKind.wrap_i64] at *; omega) | decide); conv => whnf) | (refine ifB_mk (fun h => ?_) (fun h => ?_) <;> (conv => whnf)))
  repeat' (first | exact trivial | exact rfl | (refine And.intro ?_ ?_) | ((conv => whnf); done) | ((conv => whnf); (first | rfl | (refine congrArg (fun b => T.v (Value.bool b)) ?_; first | rfl | exact (decide_eq_true (by omega)).symm | exact (decide_eq_false (by omega)).symm | exact decide_eq_decide.2 (by omega)) | (refine congrArg (fun b => T.v (Value.int _ b)) ?_; first | rfl | omega) | omega)) | (first | rfl | (refine congrArg (fun b => T.v (Value.bool b)) ?_; first | rfl | exact (decide_eq_true (by omega)).symm | exact (decide_eq_false (by omega)).symm | exact decide_eq_decide.2 (by omega)) | (refine congrArg (fun b => T.v (Value.int _ b)) ?_; first | rfl | omega) | omega))
set_option maxRecDepth 100000 in
theorem rwinE_pure (p n : Int) (m : Nat) (w : List Int) (hf : fitsB 5 p n = true) (hx : AllU w) (hd : decR 5 n w = (0, [], false, 2)) : Pure Tryd.prog glR 22 [.agg [.v (.int .i64 5), .v (.int .i64 p), .v (.int .i64 n)], .fl [.u64] m w] (.tup [.v (.int .i64 0), .v (.int .i64 2)]) := by
  refine pure_of (C := ctxPlY Tryd.prog) ctxPlY_good Tryd.func22 (c := bodyOf Tryd.f22) (by rfl) (Nat.le_of_ble_eq_true (by rfl)) 4 0 [0, 1, 2, 4, 5, 6, 7, 8, 9, 10, 11, 12, 20, 28, 31, 38, 47, 52] ?_
  conv => whnf
  repeat' (first | (refine ifB_t (by assumption) ?_; conv => whnf) | (refine ifB_f (by assumption) ?_; conv => whnf) | (refine ifB_dec (fun h => ?_) (fun h => ?_) <;> (first | (exfalso; omega) | (conv => whnf))) | (refine ifB_eq (fun h => ?_) (fun h => ?_) <;> (first | (exfalso; omega) | (conv => whnf))) | (refine ifB_ne (fun h => ?_) (fun h => ?_) <;> (first | (exfalso; omega) | (conv => whnf))) | (refine ifB_not ?_; conv => whnf) | (refine ifB_and ?_; conv => whnf) | (refine ifB_or ?_; conv => whnf) | (refine And.intro ?_ ?_; (first | omega | assumption | (exact allU_getD (by assumption) _) | (simp only [cutL]; omega) | (refine And.intro ?_ ?_ <;> first | assumption | exact allU_getD (by assumption) _) | (simp only [cutL, IntKind.wrap_u64, IntKind.wrap_i64] at *; omega) | decide); conv => whnf) | (refine ifB_mk (fun h => ?_) (fun h => ?_) <;> (conv => whnf)))
  refine And.intro ⟨.inr rfl, hf, hx⟩ ?_
  conv => whnf
  rw [hd]
  conv => whnf
  repeat' (first | exact trivial | exact rfl | (refine And.intro ?_ ?_) | ((conv => whnf); done) | ((conv => whnf); (first | rfl | (refine congrArg (fun b => T.v (Value.bool b)) ?_; first | rfl | exact (decide_eq_true (by omega)).symm | exact (decide_eq_false (by omega)).symm | exact decide_eq_decide.2 (by omega)) | (refine congrArg (fun b => T.v (Value.int _ b)) ?_; first | rfl | omega) | omega)) | (first | rfl | (refine congrArg (fun b => T.v (Value.bool b)) ?_; first | rfl | exact (decide_eq_true (by omega)).symm | exact (decide_eq_false (by omega)).symm | exact decide_eq_decide.2 (by omega)) | (refine congrArg (fun b => T.v (Value.int _ b)) ?_; first | rfl | omega) | omega))
set_option maxRecDepth 100000 in
theorem rwinV_pure (p : Int) (n m : Nat) (w : List Int) (hf : fitsB 5 p n = true) (hx : AllU w) (hm : m = n + 9) (hr : rightB n w = true) : Pure Tryd.prog glR 22 [.agg [.v (.int .i64 5), .v (.int .i64 p), .v (.int .i64 n)], .fl [.u64] m w] (.tup [.v (.int .i64 (bestN (tal (votesW n w)) 9)), .v (.int .i64 0)]) := by
  refine pure_wf fun hw => ?_
  obtain ⟨-, ⟨w1, w2⟩, -⟩ := hw
  simp only [List.length_cons, List.length_nil, Nat.zero_add, Nat.mul_one] at w1
  have hn := (fitsB_room hf).2.2.2.2
  have hl : (votesW n w).length = n := votesW_len (by omega)
  have ho := okV_right hx hr
  have hd : decR 5 n w = (0, votesW n w, decide (w.getD 0 0 = 1), 0) := by unfold decR; rw [if_pos (show (w.length : Int) = homeI 5 n by unfold homeI; show (w.length : Int) = 9 + n; omega)]; exact if_pos hr
  rw [tal_ok ho]
  obtain ⟨V, hV⟩ : ∃ V, votesW n w = V := ⟨_, rfl⟩
  obtain ⟨c, hc⟩ : ∃ c, decide (w.getD 0 0 = 1) = c := ⟨_, rfl⟩
  rw [hV, hc] at hd
  rw [hV] at hl ho ⊢
  refine pure_of (C := ctxPlY Tryd.prog) ctxPlY_good Tryd.func22 (c := bodyOf Tryd.f22) (by rfl) (Nat.le_of_ble_eq_true (by rfl)) 4 0 [0, 1, 2, 4, 5, 6, 7, 8, 9, 10, 11, 12, 20, 28, 31, 38, 47, 52] ?_
  conv => whnf
  repeat' (first | (refine ifB_t (by assumption) ?_; conv => whnf) | (refine ifB_f (by assumption) ?_; conv => whnf) | (refine ifB_dec (fun h => ?_) (fun h => ?_) <;> (first | (exfalso; omega) | (conv => whnf))) | (refine ifB_eq (fun h => ?_) (fun h => ?_) <;> (first | (exfalso; omega) | (conv => whnf))) | (refine ifB_ne (fun h => ?_) (fun h => ?_) <;> (first | (exfalso; omega) | (conv => whnf))) | (refine ifB_not ?_; conv => whnf) | (refine ifB_and ?_; conv => whnf) | (refine ifB_or ?_; conv => whnf) | (refine And.intro ?_ ?_; (first | omega | assumption | (exact allU_getD (by assumption) _) | (simp only [cutL]; omega) | (refine And.intro ?_ ?_ <;> first | assumption | exact allU_getD (by assumption) _) | (simp only [cutL, IntKind.wrap_u64, IntKind.wrap_i64] at *; omega) | decide); conv => whnf) | (refine ifB_mk (fun h => ?_) (fun h => ?_) <;> (conv => whnf)))
  refine And.intro ⟨.inr rfl, hf, hx⟩ ?_
  conv => whnf
  rw [hd]
  conv => whnf
  refine TW.loopD ctxPlY_good 0 (base := 0) (lv := [0, 1, 2, 4, 5, 6, 7, 8, 9, 10, 11, 12, 20, 28, 31, 38, 47, 52]) [8, 9, 10] [24, 98] [(24, 24), (98, 98)] (fun x : Nat × Int × Nat => [.v (.int .i64 x.1), .v (.int .i64 x.2.1), .v (.int .i64 x.2.2)]) (fun x => [.cs [.v (.int .u64 0), .ow 96 1 0, .ow 97 1 0, .ow 98 1 V.length, .v (.bool c)], .fl [.i64] V]) (fun x => (1 ≤ x.2.2 ∧ x.2.2 ≤ 9) ∧ x.1 = bestN (talL V) x.2.2 ∧ x.2.1 = (talL V).getD x.1 0) (fun x => 9 - x.2.2) ?_
  conv => whnf
  refine ⟨⟨(0, 0, 1), ⟨rfl, rfl, rfl⟩, ⟨by dsimp only; omega, by dsimp only; omega⟩, rfl, rfl⟩, fun ⟨b, t, k⟩ ⟨⟨hk1, hk2⟩, hb, ht⟩ => ?_⟩
  replace hk1 : 1 ≤ k := hk1
  replace hk2 : k ≤ 9 := hk2
  replace hb : b = bestN (talL V) k := hb
  replace ht : t = (talL V).getD b 0 := ht
  conv => whnf
  refine ifB_dec (fun h => ?_) (fun h => ?_)
  · replace h : (k : Int) ≤ 8 := h
    conv => whnf
    refine TW.loopD ctxPlY_good 0 (base := 0) (lv := [0, 1, 2, 4, 5, 6, 7, 8, 9, 10, 11, 12, 20, 28, 31, 38, 47, 52]) [11, 12] [] [] (fun i : Nat => [.v (.int .i64 (cnt (V.take i) k)), .v (.int .i64 i)]) (fun i => []) (fun i => i ≤ V.length) (fun i => V.length - i) ?_
    conv => whnf
    refine ⟨⟨0, ⟨rfl, rfl, rfl⟩, Nat.zero_le _⟩, fun i hi => ?_⟩
    replace hi : i ≤ V.length := hi
    conv => whnf
    refine ifB_dec (fun h => ?_) (fun h => ?_)
    · have e : V.getD (0 + addN 0 (i : Int).toNat * (0 + 1)) 0 = V.getD i 0 := by simp [addN_eq]
      have hc := cnt_le (V.take i) k
      have hli : (V.take i).length = i := by simp; omega
      have hs : cnt (V.take (i + 1)) k = cnt (V.take i) k + if V.getD i 0 = (k : Int) then 1 else 0 := by rw [take_snoc (by omega), cnt_snoc]
      conv => whnf
      repeat' (first | (refine ifB_t (by assumption) ?_; conv => whnf) | (refine ifB_f (by assumption) ?_; conv => whnf) | (refine ifB_dec (fun h => ?_) (fun h => ?_) <;> (first | (exfalso; omega) | (conv => whnf))) | (refine ifB_eq (fun h => ?_) (fun h => ?_) <;> (first | (exfalso; omega) | (conv => whnf))) | (refine ifB_ne (fun h => ?_) (fun h => ?_) <;> (first | (exfalso; omega) | (conv => whnf))) | (refine ifB_not ?_; conv => whnf) | (refine ifB_and ?_; conv => whnf) | (refine ifB_or ?_; conv => whnf) | (refine And.intro ?_ ?_; (first | omega | assumption | (exact allU_getD (by assumption) _) | (simp only [cutL]; omega) | (refine And.intro ?_ ?_ <;> first | assumption | exact allU_getD (by assumption) _) | (simp only [cutL, IntKind.wrap_u64, IntKind.wrap_i64] at *; omega) | decide); conv => whnf) | (refine ifB_mk (fun h => ?_) (fun h => ?_) <;> (conv => whnf)))
      · have h9 := h
        replace h9 : V.getD (0 + addN 0 (i : Int).toNat * (0 + 1)) 0 = (k : Int) := h9
        rw [e] at h9
        rw [if_pos h9] at hs
        rw [wsucc (n := V.length) (by omega) (by omega), wrap64 (by omega) (by omega), ← hs]
        exact ⟨i + 1, [], ⟨rfl, rfl, rfl⟩, (by omega : i + 1 ≤ V.length), by (try dsimp only); omega⟩
      · have h9 := h
        replace h9 : ¬ V.getD (0 + addN 0 (i : Int).toNat * (0 + 1)) 0 = (k : Int) := h9
        rw [e] at h9
        rw [if_neg h9, Int.add_zero] at hs
        rw [wsucc (n := V.length) (by omega) (by omega), ← hs]
        exact ⟨i + 1, [], ⟨rfl, rfl, rfl⟩, (by omega : i + 1 ≤ V.length), by (try dsimp only); omega⟩
    · conv => whnf
      have ei : V.take i = V := List.take_of_length_le (by omega)
      rw [ei]
      have hg := talL_getD V hk1 (by omega)
      have ek : IntKind.i64.wrap ((k : Int) + 1) = ((k + 1 : Nat) : Int) := wrap64 (by omega) (by omega)
      replace ek : IntKind.i64.wrap (((b, t, k).2.2 : Nat) + 1 : Int) = ((k + 1 : Nat) : Int) := ek
      repeat' (first | (refine ifB_t (by assumption) ?_; conv => whnf) | (refine ifB_f (by assumption) ?_; conv => whnf) | (refine ifB_dec (fun h => ?_) (fun h => ?_) <;> (first | (exfalso; omega) | (conv => whnf))) | (refine ifB_eq (fun h => ?_) (fun h => ?_) <;> (first | (exfalso; omega) | (conv => whnf))) | (refine ifB_ne (fun h => ?_) (fun h => ?_) <;> (first | (exfalso; omega) | (conv => whnf))) | (refine ifB_not ?_; conv => whnf) | (refine ifB_and ?_; conv => whnf) | (refine ifB_or ?_; conv => whnf) | (refine And.intro ?_ ?_; (first | omega | assumption | (exact allU_getD (by assumption) _) | (simp only [cutL]; omega) | (refine And.intro ?_ ?_ <;> first | assumption | exact allU_getD (by assumption) _) | (simp only [cutL, IntKind.wrap_u64, IntKind.wrap_i64] at *; omega) | decide); conv => whnf) | (refine ifB_mk (fun h => ?_) (fun h => ?_) <;> (conv => whnf)))
      · have h9 := h
        replace h9 : cnt V k > t := h9
        rw [ek]
        exact ⟨(k, cnt V k, k + 1), [(24, 24), (98, 98)], ⟨rfl, rfl, rfl⟩, ⟨⟨by dsimp only; omega, by dsimp only; omega⟩, (by show k = bestN (talL V) (k + 1); simp only [bestN]; rw [← hb, hg, ← ht, if_pos (by omega)]), hg.symm⟩, by dsimp only; omega⟩
      · have h9 := h
        replace h9 : ¬ cnt V k > t := h9
        rw [ek]
        exact ⟨(b, t, k + 1), [(24, 24), (98, 98)], ⟨rfl, rfl, rfl⟩, ⟨⟨by dsimp only; omega, by dsimp only; omega⟩, (by show b = bestN (talL V) (k + 1); simp only [bestN]; rw [← hb, hg, ← ht, if_neg (by omega)]), ht⟩, by dsimp only; omega⟩
  · replace h : ¬ (k : Int) ≤ 8 := h
    conv => whnf
    have e : k = 9 := by omega
    subst e
    rw [← hb]
    repeat' (first | exact trivial | exact rfl | (refine And.intro ?_ ?_) | ((conv => whnf); done) | ((conv => whnf); (first | rfl | (refine congrArg (fun b => T.v (Value.bool b)) ?_; first | rfl | exact (decide_eq_true (by omega)).symm | exact (decide_eq_false (by omega)).symm | exact decide_eq_decide.2 (by omega)) | (refine congrArg (fun b => T.v (Value.int _ b)) ?_; first | rfl | omega) | omega)) | (first | rfl | (refine congrArg (fun b => T.v (Value.bool b)) ?_; first | rfl | exact (decide_eq_true (by omega)).symm | exact (decide_eq_false (by omega)).symm | exact decide_eq_decide.2 (by omega)) | (refine congrArg (fun b => T.v (Value.int _ b)) ?_; first | rfl | omega) | omega))
theorem rwin_pure (k p n : Int) (m : Nat) (w : List Int) (hx : AllU w) : Pure Tryd.prog glR 22 [.agg [.v (.int .i64 k), .v (.int .i64 p), .v (.int .i64 n)], .fl [.u64] m w] (.tup [.v (.int .i64 (winS k p n w).1), .v (.int .i64 (winS k p n w).2)]) := by
  refine pure_wf fun hw => ?_
  obtain ⟨-, ⟨w1, w2⟩, -⟩ := hw
  simp only [List.length_cons, List.length_nil, Nat.zero_add, Nat.mul_one] at w1
  cases hf : fitsB k p n
  · have e : winS k p n w = (0, 5) := by unfold winS; rw [if_neg (by rw [hf]; exact fun h => Bool.false_ne_true h.1)]
    rw [e]; exact rwinF_pure _ _ _ _ _ hf
  by_cases h5 : k = 5
  · subst h5
    have hn := (fitsB_room hf).2.2.2.2
    obtain ⟨n0, rfl⟩ := Int.eq_ofNat_of_zero_le (a := n) (by omega)
    by_cases hm : m = n0 + 9
    · have hh : (w.length : Int) = homeI 5 n0 := by unfold homeI; show (w.length : Int) = 9 + n0; omega
      cases hr : rightB n0 w
      · have e : winS 5 p n0 w = (0, 2) := by unfold winS; rw [if_pos ⟨hf, rfl⟩, if_neg (fun h => Bool.false_ne_true (hr.symm.trans h.2))]
        rw [e]; exact rwinE_pure _ _ _ _ hf hx (by unfold decR; rw [if_pos hh, if_neg (by omega)]; exact if_neg (by rw [show rightB (n0 : Int).toNat w = false from hr]; exact Bool.false_ne_true))
      · have e : winS 5 p n0 w = (((bestN (tal (votesW n0 w)) 9 : Nat) : Int), (0 : Int)) := by unfold winS; rw [if_pos ⟨hf, rfl⟩, if_pos ⟨by omega, hr⟩]; rfl
        rw [e]; exact rwinV_pure _ _ _ _ hf hx hm hr
    · have e : winS 5 p n0 w = (0, 2) := by unfold winS; rw [if_pos ⟨hf, rfl⟩, if_neg (fun h => hm (by omega))]
      rw [e]; exact rwinE_pure _ _ _ _ hf hx (decR_len (by unfold homeI; show (w.length : Int) ≠ 9 + n0; omega))
  · have e : winS k p n w = (0, 5) := by unfold winS; rw [if_neg (fun h => h5 h.2)]
    rw [e]; exact rwinX_pure _ _ _ _ _ hf h5
def eRWinner : Entry := ⟨22, 3, fun l => match l with | [.agg [.v (.int .i64 k), .v (.int .i64 p), .v (.int .i64 n)], .fl [.u64] m w] => some (some (AllU w), .tup [.v (.int .i64 (winS k p n w).1), .v (.int .i64 (winS k p n w).2)], []) | _ => none⟩
theorem eRWinner_ok : eRWinner.ok Tryd.prog glR := ⟨enters_of Tryd.func22 (by kernel_rfl) (by kernel_rfl), by
  intro args c t bs h hc
  simp only [eRWinner] at h
  split at h <;> cases h
  replace hc := hc _ rfl
  exact rwin_pure _ _ _ _ _ hc⟩
end Go.Proofs.YtlcpcgdecodjfaaDoor
namespace Go.Proofs.YtlcpcgdecodjfaaDoor
open Go.RowKit Go.Proofs.YtlcpcgdecodjfaaDoor.Am
set_option linter.unusedVariables false
set_option linter.unusedSimpArgs false

theorem fits111 : fitsB 1 1 1 = true := by unfold fitsB; decide
attribute [local irreducible] fitsB encR homeI decR regDo balR
theorem regDo_fold {k x v : Int} (hk : k = 2 ∨ k = 3 ∨ k = 4) : (regDo x k v).1 = [turnF k x v] := by
  unfold regDo turnF
  rcases hk with rfl | rfl | rfl <;> rfl
theorem fold_ok {k : Int} (hk : k = 2 ∨ k = 3 ∨ k = 4) {xs : List Int} (hx : AllU xs) : iCanon (foldF k xs) = foldF k xs := by
  have key : ∀ (ys : List Int) (x : Int), AllU ys → U64 x → iCanon x = x → iCanon (ys.foldl (turnF k) x) = ys.foldl (turnF k) x := by
    intro ys
    induction ys with
    | nil => intro x _ _ h; exact h
    | cons y ys ih =>
      intro x hy ux hx
      obtain ⟨z, g1, g2, g3⟩ := regDo_ok (code := k) ux (hy y (List.mem_cons_self ..)) hx
      rw [regDo_fold hk] at g1
      cases g1
      exact ih _ (fun z hz => hy z (List.mem_cons_of_mem _ hz)) g2 g3
  exact key xs 0 hx ⟨by omega, by omega⟩ (by rfl)
set_option maxRecDepth 100000 in
theorem rfold_pure (k : Int) (hk : k = 2 ∨ k = 3 ∨ k = 4) (n : Nat) (xs : List Int) (hx : AllU xs) : Pure Tryd.prog glR 13 [.v (.int .i64 k), .fl [.u64] n xs] (.tup [.v (.int .u64 (foldF k xs)), .v (.int .i64 0)]) := by
  refine pure_wf fun hw => ?_
  obtain ⟨-, ⟨w1, w2⟩, -⟩ := hw
  simp only [List.length_cons, List.length_nil, Nat.zero_add, Nat.mul_one] at w1
  refine pure_of (C := ctxPlY Tryd.prog) ctxPlY_good Tryd.func13 (c := bodyOf Tryd.f13) (by rfl) (Nat.le_of_ble_eq_true (by rfl)) 4 0 [0, 1, 4, 5, 6, 7, 8, 20, 25] ?_
  conv => whnf
  repeat' (first | (refine ifB_t (by assumption) ?_; conv => whnf) | (refine ifB_f (by assumption) ?_; conv => whnf) | (refine ifB_dec (fun h => ?_) (fun h => ?_) <;> (first | (exfalso; omega) | (conv => whnf))) | (refine ifB_eq (fun h => ?_) (fun h => ?_) <;> (first | (exfalso; omega) | (conv => whnf))) | (refine ifB_ne (fun h => ?_) (fun h => ?_) <;> (first | (exfalso; omega) | (conv => whnf))) | (refine ifB_not ?_; conv => whnf) | (refine ifB_and ?_; conv => whnf) | (refine ifB_or ?_; conv => whnf) | (refine And.intro ?_ ?_; (first | omega | assumption | (exact allU_getD (by assumption) _) | (simp only [cutL]; omega) | (refine And.intro ?_ ?_ <;> first | assumption | exact allU_getD (by assumption) _) | (simp only [cutL, IntKind.wrap_u64, IntKind.wrap_i64] at *; omega) | decide); conv => whnf) | (refine ifB_mk (fun h => ?_) (fun h => ?_) <;> (conv => whnf)))
  all_goals (
    refine TW.nilOwnB 24 1 5001 1 _ (.fl [.u64] []) rfl rfl rfl (.inr ⟨_, _, rfl⟩) (by decide) ?_
    refine TW.nilOwnB 24 2 5002 1 _ (.fl [.u64] []) rfl rfl rfl (.inr ⟨_, _, rfl⟩) (by decide) ?_
    refine TW.nilOwnB 24 3 5003 1 _ (.fl [.i64] []) rfl rfl rfl (.inr ⟨_, _, rfl⟩) (by decide) ?_
    refine TW.loopD ctxPlY_good 0 (base := 0) (lv := [0, 1, 4, 5, 6, 7, 8, 20, 25]) [7] [24, 5001, 5002, 5003] [(24, 24), (5001, 5001), (5002, 5002), (5003, 5003)] (fun j : Nat => [.v (.int .i64 j)]) (fun j => [.cs [.v (.int .u64 (foldF k (xs.take j))), .ow 5001 1 0, .ow 5002 1 0, .ow 5003 1 0, .v (.bool false)], .fl [.u64] [], .fl [.u64] [], .fl [.i64] []]) (fun j => j ≤ n) (fun j => n - j) ?_
    conv => whnf
    refine ⟨⟨0, ⟨rfl, rfl, rfl⟩, Nat.zero_le _⟩, fun j hj => ?_⟩
    replace hj : j ≤ n := hj
    conv => whnf
    refine ifB_dec (fun h => ?_) (fun h => ?_)
    · have hxj : AllU (xs.take j) := fun x hx' => hx x (List.mem_of_mem_take hx')
      have e : xs.getD (0 + (j : Int).toNat * (0 + 1)) 0 = xs.getD j 0 := by simp
      have hr := regDo_fold (x := foldF k (xs.take j)) (v := xs.getD j 0) hk
      rw [← foldF_snoc, ← take_snoc (by omega)] at hr
      conv => whnf
      refine And.intro (by omega) ?_
      conv => whnf
      rw [e]
      refine And.intro ⟨rfl, rfl, rfl, rfl, ⟨by omega, by omega⟩, allU_getD hx _, .inl ⟨rfl, fits111, rfl, rfl, rfl, u64_foldF k _ hxj, fold_ok hk hxj⟩⟩ ?_
      conv => whnf
      rw [hr, wsucc (n := n) (by omega) w2]
      exact ⟨j + 1, [(24, 24), (148, 5001), (149, 5002), (150, 5003)], ⟨rfl, rfl, rfl⟩, (by omega : j + 1 ≤ n), by (try dsimp only); omega⟩
    · conv => whnf
      have ej : j = n := by omega
      rw [ej, List.take_of_length_le (by omega)]
      repeat' (first | exact trivial | exact rfl | (refine And.intro ?_ ?_) | ((conv => whnf); done) | ((conv => whnf); (first | rfl | (refine congrArg (fun b => T.v (Value.bool b)) ?_; first | rfl | exact (decide_eq_true (by omega)).symm | exact (decide_eq_false (by omega)).symm | exact decide_eq_decide.2 (by omega)) | (refine congrArg (fun b => T.v (Value.int _ b)) ?_; first | rfl | omega) | omega)) | (first | rfl | (refine congrArg (fun b => T.v (Value.bool b)) ?_; first | rfl | exact (decide_eq_true (by omega)).symm | exact (decide_eq_false (by omega)).symm | exact decide_eq_decide.2 (by omega)) | (refine congrArg (fun b => T.v (Value.int _ b)) ?_; first | rfl | omega) | omega)))
set_option maxRecDepth 100000 in
theorem rfoldX_pure (k : Int) (n : Nat) (xs : List Int) (hk : k ≠ 2 ∧ k ≠ 3 ∧ k ≠ 4) : Pure Tryd.prog glR 13 [.v (.int .i64 k), .fl [.u64] n xs] (.tup [.v (.int .u64 0), .v (.int .i64 1)]) := by
  refine pure_of (C := ctxPlY Tryd.prog) ctxPlY_good Tryd.func13 (c := bodyOf Tryd.f13) (by rfl) (Nat.le_of_ble_eq_true (by rfl)) 4 0 [0, 1, 4, 5, 6, 7, 8, 20, 25] ?_
  conv => whnf
  repeat' (first | (refine ifB_t (by assumption) ?_; conv => whnf) | (refine ifB_f (by assumption) ?_; conv => whnf) | (refine ifB_dec (fun h => ?_) (fun h => ?_) <;> (first | (exfalso; omega) | (conv => whnf))) | (refine ifB_eq (fun h => ?_) (fun h => ?_) <;> (first | (exfalso; omega) | (conv => whnf))) | (refine ifB_ne (fun h => ?_) (fun h => ?_) <;> (first | (exfalso; omega) | (conv => whnf))) | (refine ifB_not ?_; conv => whnf) | (refine ifB_and ?_; conv => whnf) | (refine ifB_or ?_; conv => whnf) | (refine And.intro ?_ ?_; (first | omega | assumption | (exact allU_getD (by assumption) _) | (simp only [cutL]; omega) | (refine And.intro ?_ ?_ <;> first | assumption | exact allU_getD (by assumption) _) | (simp only [cutL, IntKind.wrap_u64, IntKind.wrap_i64] at *; omega) | decide); conv => whnf) | (refine ifB_mk (fun h => ?_) (fun h => ?_) <;> (conv => whnf)))
  all_goals repeat' (first | exact trivial | exact rfl | (refine And.intro ?_ ?_) | ((conv => whnf); done) | ((conv => whnf); (first | rfl | (refine congrArg (fun b => T.v (Value.bool b)) ?_; first | rfl | exact (decide_eq_true (by omega)).symm | exact (decide_eq_false (by omega)).symm | exact decide_eq_decide.2 (by omega)) | (refine congrArg (fun b => T.v (Value.int _ b)) ?_; first | rfl | omega) | omega)) | (first | rfl | (refine congrArg (fun b => T.v (Value.bool b)) ?_; first | rfl | exact (decide_eq_true (by omega)).symm | exact (decide_eq_false (by omega)).symm | exact decide_eq_decide.2 (by omega)) | (refine congrArg (fun b => T.v (Value.int _ b)) ?_; first | rfl | omega) | omega))
theorem rfolds_pure (k : Int) (n : Nat) (xs : List Int) (hx : AllU xs) : Pure Tryd.prog glR 13 [.v (.int .i64 k), .fl [.u64] n xs] (.tup [.v (.int .u64 (foldS k xs).1), .v (.int .i64 (foldS k xs).2)]) := by
  by_cases hk : k = 2 ∨ k = 3 ∨ k = 4
  · have e : foldS k xs = (foldF k xs, 0) := if_pos hk
    rw [e]; exact rfold_pure k hk n xs hx
  · have e : foldS k xs = (0, 1) := if_neg hk
    rw [e]; exact rfoldX_pure k n xs ⟨fun h => hk (.inl h), fun h => hk (.inr (.inl h)), fun h => hk (.inr (.inr h))⟩
def eRFold : Entry := ⟨13, 3, fun l => match l with | [.v (.int .i64 k), .fl [.u64] n xs] => some (some (AllU xs), .tup [.v (.int .u64 (foldS k xs).1), .v (.int .i64 (foldS k xs).2)], []) | _ => none⟩
theorem eRFold_ok : eRFold.ok Tryd.prog glR := ⟨enters_of Tryd.func13 (by kernel_rfl) (by kernel_rfl), by
  intro args c t bs h hc
  simp only [eRFold] at h
  split at h <;> cases h
  replace hc := hc _ rfl
  exact rfolds_pure _ _ _ hc⟩
end Go.Proofs.YtlcpcgdecodjfaaDoor
namespace Go.Proofs.YtlcpcgdecodjfaaDoor
open Go.RowKit Go.Proofs.YtlcpcgdecodjfaaDoor.Am
set_option linter.unusedVariables false
set_option linter.unusedSimpArgs false

attribute [local irreducible] fitsB encR homeI decR regDo balR
set_option maxRecDepth 100000 in
theorem rcastN_pure (k p n : Int) (m : Nat) (l : List Int) (hf : fitsB k p n = true) (h5 : k ≠ 5) : Pure Tryd.prog glR 19 [.agg [.v (.int .i64 k), .v (.int .i64 p), .v (.int .i64 n)], .fl [.i64] m l] (.tup [.ow 0 1 0, .v (.int .i64 5)]) [(0, .fl [.u64] [])] := by
  refine pure_of (C := ctxPlY Tryd.prog) ctxPlY_good Tryd.func19 (c := bodyOf Tryd.f19) (by rfl) (Nat.le_of_ble_eq_true (by rfl)) 4 0 [0, 1, 2, 4, 5, 6, 7, 15, 20, 28, 42] ?_
  conv => whnf
  repeat' (first | (refine ifB_t (by assumption) ?_; conv => whnf) | (refine ifB_f (by assumption) ?_; conv => whnf) | (refine ifB_dec (fun h => ?_) (fun h => ?_) <;> (first | (exfalso; omega) | (conv => whnf))) | (refine ifB_eq (fun h => ?_) (fun h => ?_) <;> (first | (exfalso; omega) | (conv => whnf))) | (refine ifB_ne (fun h => ?_) (fun h => ?_) <;> (first | (exfalso; omega) | (conv => whnf))) | (refine ifB_not ?_; conv => whnf) | (refine ifB_and ?_; conv => whnf) | (refine ifB_or ?_; conv => whnf) | (refine And.intro ?_ ?_; (first | omega | assumption | (exact allU_getD (by assumption) _) | (simp only [cutL]; omega) | (refine And.intro ?_ ?_ <;> first | assumption | exact allU_getD (by assumption) _) | (simp only [cutL, IntKind.wrap_u64, IntKind.wrap_i64] at *; omega) | decide); conv => whnf) | (refine ifB_mk (fun h => ?_) (fun h => ?_) <;> (conv => whnf)))
  repeat' (first | exact trivial | exact rfl | (refine And.intro ?_ ?_) | ((conv => whnf); done) | ((conv => whnf); (first | rfl | (refine congrArg (fun b => T.v (Value.bool b)) ?_; first | rfl | exact (decide_eq_true (by omega)).symm | exact (decide_eq_false (by omega)).symm | exact decide_eq_decide.2 (by omega)) | (refine congrArg (fun b => T.v (Value.int _ b)) ?_; first | rfl | omega) | omega)) | (first | rfl | (refine congrArg (fun b => T.v (Value.bool b)) ?_; first | rfl | exact (decide_eq_true (by omega)).symm | exact (decide_eq_false (by omega)).symm | exact decide_eq_decide.2 (by omega)) | (refine congrArg (fun b => T.v (Value.int _ b)) ?_; first | rfl | omega) | omega))
set_option maxRecDepth 100000 in
theorem rcastF_pure (k p n : Int) (m : Nat) (l : List Int) (hf : fitsB k p n = false) : Pure Tryd.prog glR 19 [.agg [.v (.int .i64 k), .v (.int .i64 p), .v (.int .i64 n)], .fl [.i64] m l] (.tup [.ow 0 1 0, .v (.int .i64 5)]) [(0, .fl [.u64] [])] := by
  refine pure_of (C := ctxPlY Tryd.prog) ctxPlY_good Tryd.func19 (c := bodyOf Tryd.f19) (by rfl) (Nat.le_of_ble_eq_true (by rfl)) 4 0 [0, 1, 2, 4, 5, 6, 7, 15, 20, 28, 42] ?_
  conv => whnf
  repeat' (first | (refine ifB_t (by assumption) ?_; conv => whnf) | (refine ifB_f (by assumption) ?_; conv => whnf) | (refine ifB_dec (fun h => ?_) (fun h => ?_) <;> (first | (exfalso; omega) | (conv => whnf))) | (refine ifB_eq (fun h => ?_) (fun h => ?_) <;> (first | (exfalso; omega) | (conv => whnf))) | (refine ifB_ne (fun h => ?_) (fun h => ?_) <;> (first | (exfalso; omega) | (conv => whnf))) | (refine ifB_not ?_; conv => whnf) | (refine ifB_and ?_; conv => whnf) | (refine ifB_or ?_; conv => whnf) | (refine And.intro ?_ ?_; (first | omega | assumption | (exact allU_getD (by assumption) _) | (simp only [cutL]; omega) | (refine And.intro ?_ ?_ <;> first | assumption | exact allU_getD (by assumption) _) | (simp only [cutL, IntKind.wrap_u64, IntKind.wrap_i64] at *; omega) | decide); conv => whnf) | (refine ifB_mk (fun h => ?_) (fun h => ?_) <;> (conv => whnf)))
  repeat' (first | exact trivial | exact rfl | (refine And.intro ?_ ?_) | ((conv => whnf); done) | ((conv => whnf); (first | rfl | (refine congrArg (fun b => T.v (Value.bool b)) ?_; first | rfl | exact (decide_eq_true (by omega)).symm | exact (decide_eq_false (by omega)).symm | exact decide_eq_decide.2 (by omega)) | (refine congrArg (fun b => T.v (Value.int _ b)) ?_; first | rfl | omega) | omega)) | (first | rfl | (refine congrArg (fun b => T.v (Value.bool b)) ?_; first | rfl | exact (decide_eq_true (by omega)).symm | exact (decide_eq_false (by omega)).symm | exact decide_eq_decide.2 (by omega)) | (refine congrArg (fun b => T.v (Value.int _ b)) ?_; first | rfl | omega) | omega))
set_option maxRecDepth 100000 in
theorem rcastL_pure (p n : Int) (m : Nat) (l : List Int) (hf : fitsB 5 p n = true) (hm : (m : Int) > n) : Pure Tryd.prog glR 19 [.agg [.v (.int .i64 5), .v (.int .i64 p), .v (.int .i64 n)], .fl [.i64] m l] (.tup [.ow 0 1 0, .v (.int .i64 1)]) [(0, .fl [.u64] [])] := by
  refine pure_of (C := ctxPlY Tryd.prog) ctxPlY_good Tryd.func19 (c := bodyOf Tryd.f19) (by rfl) (Nat.le_of_ble_eq_true (by rfl)) 4 0 [0, 1, 2, 4, 5, 6, 7, 15, 20, 28, 42] ?_
  conv => whnf
  repeat' (first | (refine ifB_t (by assumption) ?_; conv => whnf) | (refine ifB_f (by assumption) ?_; conv => whnf) | (refine ifB_dec (fun h => ?_) (fun h => ?_) <;> (first | (exfalso; omega) | (conv => whnf))) | (refine ifB_eq (fun h => ?_) (fun h => ?_) <;> (first | (exfalso; omega) | (conv => whnf))) | (refine ifB_ne (fun h => ?_) (fun h => ?_) <;> (first | (exfalso; omega) | (conv => whnf))) | (refine ifB_not ?_; conv => whnf) | (refine ifB_and ?_; conv => whnf) | (refine ifB_or ?_; conv => whnf) | (refine And.intro ?_ ?_; (first | omega | assumption | (exact allU_getD (by assumption) _) | (simp only [cutL]; omega) | (refine And.intro ?_ ?_ <;> first | assumption | exact allU_getD (by assumption) _) | (simp only [cutL, IntKind.wrap_u64, IntKind.wrap_i64] at *; omega) | decide); conv => whnf) | (refine ifB_mk (fun h => ?_) (fun h => ?_) <;> (conv => whnf)))
  repeat' (first | exact trivial | exact rfl | (refine And.intro ?_ ?_) | ((conv => whnf); done) | ((conv => whnf); (first | rfl | (refine congrArg (fun b => T.v (Value.bool b)) ?_; first | rfl | exact (decide_eq_true (by omega)).symm | exact (decide_eq_false (by omega)).symm | exact decide_eq_decide.2 (by omega)) | (refine congrArg (fun b => T.v (Value.int _ b)) ?_; first | rfl | omega) | omega)) | (first | rfl | (refine congrArg (fun b => T.v (Value.bool b)) ?_; first | rfl | exact (decide_eq_true (by omega)).symm | exact (decide_eq_false (by omega)).symm | exact decide_eq_decide.2 (by omega)) | (refine congrArg (fun b => T.v (Value.int _ b)) ?_; first | rfl | omega) | omega))
set_option maxRecDepth 100000 in
theorem rcastV_pure (p : Int) (n m : Nat) (l : List Int) (hf : fitsB 5 p n = true) (hm : m ≤ n) : Pure Tryd.prog glR 19 [.agg [.v (.int .i64 5), .v (.int .i64 p), .v (.int .i64 n)], .fl [.i64] m l] (.tup [.ow 0 1 (castS 5 p n l).1.length, .v (.int .i64 (castS 5 p n l).2)]) [(0, .fl [.u64] (castS 5 p n l).1)] := by
  refine pure_wf fun hw => ?_
  obtain ⟨-, ⟨w1, w2⟩, -⟩ := hw
  simp only [List.length_cons, List.length_nil, Nat.zero_add, Nat.mul_one] at w1
  have hn := (fitsB_room hf).2.2.2.2
  have e : castS 5 p n l = if okV l = true then (castW n l, 0) else ([], 1) := by unfold castS; rw [if_pos ⟨hf, rfl⟩, if_pos (by omega)]; rfl
  rw [e]; clear e
  refine pure_of (C := ctxPlY Tryd.prog) ctxPlY_good Tryd.func19 (c := bodyOf Tryd.f19) (by rfl) (Nat.le_of_ble_eq_true (by rfl)) 4 0 [0, 1, 2, 4, 5, 6, 7, 15, 20, 28, 42] ?_
  conv => whnf
  repeat' (first | (refine ifB_t (by assumption) ?_; conv => whnf) | (refine ifB_f (by assumption) ?_; conv => whnf) | (refine ifB_dec (fun h => ?_) (fun h => ?_) <;> (first | (exfalso; omega) | (conv => whnf))) | (refine ifB_eq (fun h => ?_) (fun h => ?_) <;> (first | (exfalso; omega) | (conv => whnf))) | (refine ifB_ne (fun h => ?_) (fun h => ?_) <;> (first | (exfalso; omega) | (conv => whnf))) | (refine ifB_not ?_; conv => whnf) | (refine ifB_and ?_; conv => whnf) | (refine ifB_or ?_; conv => whnf) | (refine And.intro ?_ ?_; (first | omega | assumption | (exact allU_getD (by assumption) _) | (simp only [cutL]; omega) | (refine And.intro ?_ ?_ <;> first | assumption | exact allU_getD (by assumption) _) | (simp only [cutL, IntKind.wrap_u64, IntKind.wrap_i64] at *; omega) | decide); conv => whnf) | (refine ifB_mk (fun h => ?_) (fun h => ?_) <;> (conv => whnf)))
  have er : ∀ k, k = n → List.replicate k (0 : Int) = pad n (l.take 0) := fun k hk => by rw [hk]; simp [pad]
  rw [er _ (by simp only [mulN_eq]; omega)]
  refine TW.loopD ctxPlY_good 0 (base := 0) (lv := [0, 1, 2, 4, 5, 6, 7, 15, 20, 28, 42]) [7] [92] [(92, 92)] (fun j : Nat => [.v (.int .i64 j)]) (fun j => [.fl [.i64] (pad n (l.take j))]) (fun j => j ≤ m ∧ okV (l.take j) = true) (fun j => m - j) ?_
  conv => whnf
  refine ⟨⟨0, ⟨rfl, rfl, rfl⟩, by omega, rfl⟩, fun j ⟨hj, ht⟩ => ?_⟩
  conv => whnf
  refine ifB_dec (fun h => ?_) (fun h => ?_)
  · have ev : l.getD (0 + (j : Int).toNat * (0 + 1)) 0 = l.getD j 0 := by simp
    have e0 : (l.take j).length = j := by simp; omega
    have ep : (pad n (l.take j)).length = n := pad_len (by omega)
    conv => whnf
    repeat' (first | (refine ifB_t (by assumption) ?_; conv => whnf) | (refine ifB_f (by assumption) ?_; conv => whnf) | (refine ifB_dec (fun h => ?_) (fun h => ?_) <;> (first | (exfalso; omega) | (conv => whnf))) | (refine ifB_eq (fun h => ?_) (fun h => ?_) <;> (first | (exfalso; omega) | (conv => whnf))) | (refine ifB_ne (fun h => ?_) (fun h => ?_) <;> (first | (exfalso; omega) | (conv => whnf))) | (refine ifB_not ?_; conv => whnf) | (refine ifB_and ?_; conv => whnf) | (refine ifB_or ?_; conv => whnf) | (refine And.intro ?_ ?_; (first | omega | assumption | (exact allU_getD (by assumption) _) | (simp only [cutL]; omega) | (refine And.intro ?_ ?_ <;> first | assumption | exact allU_getD (by assumption) _) | (simp only [cutL, IntKind.wrap_u64, IntKind.wrap_i64] at *; omega) | decide); conv => whnf) | (refine ifB_mk (fun h => ?_) (fun h => ?_) <;> (conv => whnf)))
    · have hb : okV l = false := okV_at (j := j) (by omega) (fun hq => by rw [ev] at h; omega)
      rw [if_neg (by rw [hb]; exact Bool.false_ne_true)]
      repeat' (first | exact trivial | exact rfl | (refine And.intro ?_ ?_) | ((conv => whnf); done) | ((conv => whnf); (first | rfl | (refine congrArg (fun b => T.v (Value.bool b)) ?_; first | rfl | exact (decide_eq_true (by omega)).symm | exact (decide_eq_false (by omega)).symm | exact decide_eq_decide.2 (by omega)) | (refine congrArg (fun b => T.v (Value.int _ b)) ?_; first | rfl | omega) | omega)) | (first | rfl | (refine congrArg (fun b => T.v (Value.bool b)) ?_; first | rfl | exact (decide_eq_true (by omega)).symm | exact (decide_eq_false (by omega)).symm | exact decide_eq_decide.2 (by omega)) | (refine congrArg (fun b => T.v (Value.int _ b)) ?_; first | rfl | omega) | omega))
    · have hb : okV l = false := okV_at (j := j) (by omega) (fun hq => by rw [ev] at h; omega)
      rw [if_neg (by rw [hb]; exact Bool.false_ne_true)]
      repeat' (first | exact trivial | exact rfl | (refine And.intro ?_ ?_) | ((conv => whnf); done) | ((conv => whnf); (first | rfl | (refine congrArg (fun b => T.v (Value.bool b)) ?_; first | rfl | exact (decide_eq_true (by omega)).symm | exact (decide_eq_false (by omega)).symm | exact decide_eq_decide.2 (by omega)) | (refine congrArg (fun b => T.v (Value.int _ b)) ?_; first | rfl | omega) | omega)) | (first | rfl | (refine congrArg (fun b => T.v (Value.bool b)) ?_; first | rfl | exact (decide_eq_true (by omega)).symm | exact (decide_eq_false (by omega)).symm | exact decide_eq_decide.2 (by omega)) | (refine congrArg (fun b => T.v (Value.int _ b)) ?_; first | rfl | omega) | omega))
    · rename_i g2 g3
      rw [ev] at g3 h
      have e1 : 0 + addN 0 (j : Int).toNat * (0 + 1) + 0 = (l.take j).length := by simp [addN_eq]; omega
      have hs : (pad n (l.take j)).set (0 + addN 0 (j : Int).toNat * (0 + 1) + 0) (l.getD j 0) = pad n (l.take (j + 1)) := by
        rw [e1, ← pad_snoc _ (by omega), take_snoc (by omega)]
      rw [ev, hs, wsucc (n := m) (by omega) w2]
      refine ⟨j + 1, [(92, 92)], ⟨rfl, rfl, rfl⟩, ⟨by omega, ?_⟩, by (try dsimp only); omega⟩
      rw [take_snoc (by omega), okV_snoc, ht, Bool.true_and]
      exact decide_eq_true (by omega)
  · conv => whnf
    have ej : j = m := by omega
    rw [ej, List.take_of_length_le (by omega)] at ht ⊢
    rw [if_pos ht]
    refine And.intro ⟨by omega, by omega, (show (n : Int).toNat ≤ 1000 by omega), (show U64 0 from ⟨by omega, by omega⟩), .inr rfl, hf⟩ ?_
    conv => whnf
    have hpl : (pad n l).length = n := pad_len (by omega)
    have hr := encR_yes (n3 := (n : Int).toNat) ((right5_new (c := false) hf hpl).trans (okV_pad ht))
    rw [hr]
    conv => whnf
    have hcw : encB (pad n l) false = castW n l := by rw [encB_cast hpl, castW_pad]
    rw [show encL 5 0 (pad n l) false = castW n l from hcw]
    repeat' (first | exact trivial | exact rfl | (refine And.intro ?_ ?_) | ((conv => whnf); done) | ((conv => whnf); (first | rfl | (refine congrArg (fun b => T.v (Value.bool b)) ?_; first | rfl | exact (decide_eq_true (by omega)).symm | exact (decide_eq_false (by omega)).symm | exact decide_eq_decide.2 (by omega)) | (refine congrArg (fun b => T.v (Value.int _ b)) ?_; first | rfl | omega) | omega)) | (first | rfl | (refine congrArg (fun b => T.v (Value.bool b)) ?_; first | rfl | exact (decide_eq_true (by omega)).symm | exact (decide_eq_false (by omega)).symm | exact decide_eq_decide.2 (by omega)) | (refine congrArg (fun b => T.v (Value.int _ b)) ?_; first | rfl | omega) | omega))
    conv => whnf
    show 1 + ((n : Int).toNat + 8) = (castW n l).length
    rw [castW_len]; omega
theorem rcast_pure (k p n : Int) (m : Nat) (l : List Int) : Pure Tryd.prog glR 19 [.agg [.v (.int .i64 k), .v (.int .i64 p), .v (.int .i64 n)], .fl [.i64] m l] (.tup [.ow 0 1 (castS k p n l).1.length, .v (.int .i64 (castS k p n l).2)]) [(0, .fl [.u64] (castS k p n l).1)] := by
  refine pure_wf fun hw => ?_
  obtain ⟨-, ⟨w1, w2⟩, -⟩ := hw
  simp only [List.length_cons, List.length_nil, Nat.zero_add, Nat.mul_one] at w1
  cases hf : fitsB k p n
  · have e : castS k p n l = ([], 5) := by unfold castS; rw [if_neg (by rw [hf]; exact fun h => Bool.false_ne_true h.1)]
    rw [e]; exact rcastF_pure _ _ _ _ _ hf
  by_cases h5 : k = 5
  · subst h5
    by_cases hm : (m : Int) > n
    · have e : castS 5 p n l = ([], 1) := by unfold castS; rw [if_pos ⟨hf, rfl⟩, if_neg (by omega)]
      rw [e]; exact rcastL_pure _ _ _ _ hf hm
    · have hn := (fitsB_room hf).2.2.2.2
      obtain ⟨n0, rfl⟩ := Int.eq_ofNat_of_zero_le (a := n) (by omega)
      exact rcastV_pure _ _ _ _ hf (by omega)
  · have e : castS k p n l = ([], 5) := by unfold castS; rw [if_neg (fun h => h5 h.2)]
    rw [e]; exact rcastN_pure _ _ _ _ _ hf h5
def eRCast : Entry := ⟨19, 3, fun l => match l with | [.agg [.v (.int .i64 k), .v (.int .i64 p), .v (.int .i64 n)], .fl [.i64] m l] => some (none, .tup [.ow 0 1 (castS k p n l).1.length, .v (.int .i64 (castS k p n l).2)], [(0, .fl [.u64] (castS k p n l).1)]) | _ => none⟩
theorem eRCast_ok : eRCast.ok Tryd.prog glR := ⟨enters_of Tryd.func19 (by kernel_rfl) (by kernel_rfl), by
  intro args c t bs h hc
  simp only [eRCast] at h
  split at h <;> cases h
  exact rcast_pure _ _ _ _ _⟩
end Go.Proofs.YtlcpcgdecodjfaaDoor
namespace Go.Proofs.YtlcpcgdecodjfaaDoor
open Go.RowKit Go.Proofs.YtlcpcgdecodjfaaDoor.Am
set_option linter.unusedVariables false
set_option linter.unusedSimpArgs false

def confK (room : Int) : Int := if ipick room 4 = 0 then 1 else 5
def confN (room : Int) : Int := 1 + ipick room 12
theorem confK_or (room : Int) : confK room = 1 ∨ confK room = 5 := by unfold confK; split <;> simp
theorem confN_bounds (room : Int) : 1 ≤ confN room ∧ confN room ≤ 12 := by
  obtain ⟨b1, b2⟩ := ipick_bounds room (n := 12) (by omega)
  unfold confN; omega
theorem conf_fits (room : Int) : fitsB (confK room) 1 (confN room) = true := by
  obtain ⟨b1, b2⟩ := confN_bounds room
  unfold fitsB
  refine decide_eq_true ?_
  rcases confK_or room with h | h <;> rw [h] <;> omega
noncomputable def ctxPlAC (P : Program) : Ctx := ctx P glR [ePick14] [] (noEq P) [] (fun _ h => by cases h)
theorem ctxPlAC_good : (ctxPlAC Tryd.prog).good := ctx_good (by kernel_rfl) (AllOk.mem ⟨ePick14_ok, trivial⟩) glR_two
set_option maxRecDepth 100000 in
theorem conf14_pure (room : Int) (hc : I64 room) : Pure Tryd.prog glR 10 [.v (.int .i64 room)] (.agg [.v (.int .i64 (confK room)), .v (.int .i64 1), .v (.int .i64 (confN room))]) := by
  obtain ⟨b1, b2⟩ := ipick_bounds room (n := 12) (by omega)
  have hw : IntKind.i64.wrap (1 + ipick room 12) = confN room := wrap64 (by omega) (by omega)
  refine pure_of (C := ctxPlAC Tryd.prog) ctxPlAC_good Tryd.func10 (c := bodyOf Tryd.f10) (by rfl) (Nat.le_of_ble_eq_true (by rfl)) 4 0 [0, 2, 5] ?_
  conv => whnf
  refine And.intro ⟨hc, by omega, by omega⟩ ?_
  conv => whnf
  refine ifB_eq (fun h => ?_) (fun h => ?_)
  · conv => whnf
    refine And.intro ⟨hc, by omega, by omega⟩ ?_
    conv => whnf
    rw [hw, show confK room = 1 from if_pos h]
    repeat' (first | exact trivial | exact rfl | (refine And.intro ?_ ?_) | ((conv => whnf); done) | ((conv => whnf); (first | rfl | (refine congrArg (fun b => T.v (Value.bool b)) ?_; first | rfl | exact (decide_eq_true (by omega)).symm | exact (decide_eq_false (by omega)).symm | exact decide_eq_decide.2 (by omega)) | (refine congrArg (fun b => T.v (Value.int _ b)) ?_; first | rfl | omega) | omega)) | (first | rfl | (refine congrArg (fun b => T.v (Value.bool b)) ?_; first | rfl | exact (decide_eq_true (by omega)).symm | exact (decide_eq_false (by omega)).symm | exact decide_eq_decide.2 (by omega)) | (refine congrArg (fun b => T.v (Value.int _ b)) ?_; first | rfl | omega) | omega))
  · conv => whnf
    refine And.intro ⟨hc, by omega, by omega⟩ ?_
    conv => whnf
    rw [hw, show confK room = 5 from if_neg h]
    repeat' (first | exact trivial | exact rfl | (refine And.intro ?_ ?_) | ((conv => whnf); done) | ((conv => whnf); (first | rfl | (refine congrArg (fun b => T.v (Value.bool b)) ?_; first | rfl | exact (decide_eq_true (by omega)).symm | exact (decide_eq_false (by omega)).symm | exact decide_eq_decide.2 (by omega)) | (refine congrArg (fun b => T.v (Value.int _ b)) ?_; first | rfl | omega) | omega)) | (first | rfl | (refine congrArg (fun b => T.v (Value.bool b)) ?_; first | rfl | exact (decide_eq_true (by omega)).symm | exact (decide_eq_false (by omega)).symm | exact decide_eq_decide.2 (by omega)) | (refine congrArg (fun b => T.v (Value.int _ b)) ?_; first | rfl | omega) | omega))
def eConf14 : Entry := ⟨10, 3, fun l => match l with | [.v (.int .i64 room)] => some (some (I64 room), .agg [.v (.int .i64 (confK room)), .v (.int .i64 1), .v (.int .i64 (confN room))], []) | _ => none⟩
theorem eConf14_ok : eConf14.ok Tryd.prog glR := ⟨enters_of Tryd.func10 (by kernel_rfl) (by kernel_rfl), by
  intro args c t bs h hc
  simp only [eConf14] at h
  split at h <;> cases h
  replace hc := hc _ rfl
  exact conf14_pure _ hc⟩
theorem allU_enc {ws : List Int} {c : Bool} (ho : okV ws = true) (hl : ws.length ≤ 256) : AllU (encB ws c) := by
  intro x hx
  rcases List.mem_cons.1 hx with rfl | hx
  · cases c <;> exact ⟨by decide, by decide⟩
  · rcases List.mem_append.1 hx with hx | hx
    · unfold okV at ho
      rw [List.all_eq_true] at ho
      have := ho x hx
      simp at this
      exact ⟨this.1, by omega⟩
    · have : ∀ q, U64 (cnt ws q) := fun q => by have := cnt_le ws q; exact ⟨by omega, by omega⟩
      simp only [tally9, List.drop_succ_cons, List.drop_zero, List.mem_cons, List.not_mem_nil, or_false] at hx
      rcases hx with rfl | rfl | rfl | rfl | rfl | rfl | rfl | rfl <;> exact this _
/-- What Enc makes of a raw state. -/
theorem enc_state (room : Int) (m : Nat) (raw : List Int) (hx : AllI raw) : ∃ L : List Int, encR (confK room) 1 (confN room) (stR (confK room) (confN room) m raw) [] [] (stV (confK room) (confN room) m raw) (stC (confK room) (confN room) m raw) (if confK room = 1 then 0 else (confN room).toNat) = (L.length, L, 0) ∧ AllU L ∧ 0 < L.length ∧ L.length ≤ 1000 := by
  have hf := conf_fits room
  obtain ⟨b1, b2⟩ := confN_bounds room
  rcases confK_or room with h | h
  · rw [h] at hf ⊢
    obtain ⟨u, c⟩ := st1_ok raw hx (min m 30) (by omega)
    refine ⟨[st1 raw (min m 30)], encR_yes ((right1_new hf).trans (decide_eq_true c)), fun x hx => ?_, by simp, by simp⟩
    cases hx with | head => exact u | tail _ h => cases h
  · rw [h] at hf ⊢
    obtain ⟨n, hn⟩ := Int.eq_ofNat_of_zero_le (a := confN room) (by omega)
    rw [hn] at hf ⊢
    obtain ⟨l, o⟩ := st5_ok n raw hx (min m 30) (by omega)
    refine ⟨encB (st5 n raw (min m 30)).1 (st5 n raw (min m 30)).2, ?_, allU_enc o (by omega), by rw [encB_len]; omega, by rw [encB_len]; omega⟩
    have hr := encR_yes (n3 := n) ((right5_new (c := (st5 n raw (min m 30)).2) hf l).trans o)
    rw [encB_len, l, show n + 9 = 1 + (n + 8) by omega]
    exact hr
theorem right_state (room : Int) (m : Nat) (raw : List Int) (hx : AllI raw) : U64 (stR (confK room) (confN room) m raw) := by
  unfold stR
  split
  · exact (st1_ok raw hx (min m 30) (by omega)).1
  · exact ⟨by omega, by omega⟩
end Go.Proofs.YtlcpcgdecodjfaaDoor
namespace Go.Proofs.YtlcpcgdecodjfaaDoor
open Go.RowKit Go.Proofs.YtlcpcgdecodjfaaDoor.Am
set_option linter.unusedVariables false
set_option linter.unusedSimpArgs false

noncomputable def ctxPlAD (P : Program) (h : EqR P) : Ctx := ctx P glR [eAwake, eConf14, ePick14, eFold, eRFold, eState09, eEncA, eBox, eChoices, eCastN, eRCast, eWords, eWinner, eRWinner, eOp09, eApply, eRApply] [55] h [] (fun _ h => by cases h)
theorem ctxPlAD_good : (ctxPlAD Tryd.prog eqR).good := ctx_good (by kernel_rfl) (AllOk.mem ⟨eAwake_ok, eConf14_ok, ePick14_ok, eFold_ok, eRFold_ok, eState09_ok, eEncA_ok, eBox_ok, eChoices_ok, eCastN_ok, eRCast_ok, eWords_ok, eWinner_ok, eRWinner_ok, eOp09_ok, eApply_ok, eRApply_ok, trivial⟩) glR_two
attribute [local irreducible] fitsB encR homeI decR regDo balR foldS castS winS applyS confK confN stR stV stC codeS keyS opV chs
theorem allU_cut {xs : List Int} (h : AllU xs) (s : Nat) (lo hi : Option Int) : AllU (cutN s lo hi xs) := by
  intro x hx
  unfold cutN at hx
  split at hx
  · exact h x hx
  · exact h x (List.mem_of_mem_drop hx)
  · exact h x (List.mem_of_mem_take hx)
  · exact h x (List.mem_of_mem_take (List.mem_of_mem_drop hx))
theorem notSame (b : List Int) : (bif false then true else !decide (b = b)) = false := by simp
set_option maxRecDepth 100000 in
set_option maxHeartbeats 4000000 in
theorem tells14_pure (room : Int) (hroom : I64 room) (ok op on : Int) (hok : I64 ok ∧ I64 op ∧ I64 on) (code : Int) (hcode : I64 code) (n1 : Nat) (vals : List Int) (hvals : AllU vals) (n2 : Nat) (any : List Int) (n3 : Nat) (raw : List Int) (hraw : AllI raw) (n4 : Nat) (st : List Int) (hst : AllI st) (n5 : Nat) (w : List Int) (hw : AllU w) (at_ : Int) (hat : I64 at_) (x : Int) (hx : U64 x) (k1 k2 k3 : Int) (hk : I64 k1 ∧ I64 k2 ∧ I64 k3) (oc okey ov : Int) (hop : I64 oc ∧ U64 okey ∧ U64 ov) :
    Pure Tryd.prog glR 3 [.v (.int .i64 room), .agg [.v (.int .i64 ok), .v (.int .i64 op), .v (.int .i64 on)], .v (.int .i64 code), .fl [.u64] n1 vals, .fl [.i64] n2 any, .fl [.i64] n3 raw, .fl [.i64, .i64, .i64] n4 st, .fl [.u64] n5 w, .v (.int .i64 at_), .v (.int .u64 x), .agg [.v (.int .i64 k1), .v (.int .i64 k2), .v (.int .i64 k3)], .agg [.v (.int .i64 oc), .v (.int .u64 okey), .v (.int .u64 ov)]] (.v (.bool true)) := by
  refine pure_of (C := ctxPlAD Tryd.prog eqR) ctxPlAD_good Tryd.func3 (c := bodyOf Tryd.f3) (by rfl) (Nat.le_of_ble_eq_true (by rfl)) 4 0 [0, 1, 2, 3, 4, 5, 6, 7, 8, 9, 10, 11, 13, 22, 23, 24, 25, 26, 28, 29, 30, 31, 32, 33, 35, 37, 39, 40, 41, 42, 43, 45, 46, 47, 48, 49, 51, 52, 53, 54, 55, 56, 57, 68, 74, 75, 76, 77, 107, 128, 129, 130, 131, 143, 144, 145, 146, 169, 178, 179, 180, 181, 203, 209, 210, 211, 212, 244] ?_
  conv => whnf
  refine And.intro hroom ?_
  conv => whnf
  obtain ⟨b1, b2⟩ := ipick_bounds code (n := 5) (by omega)
  have e5 : IntKind.i64.wrap (1 + ipick code 5) = 1 + ipick code 5 := wrap64 (by omega) (by omega)
  obtain ⟨L, hE, hL, hL0, hL1⟩ := enc_state room n4 st hst
  have hn1 : (if confK room = 1 then 0 else (confN room).toNat) ≤ 1000 := by have := confN_bounds room; split <;> omega
  have hrb : 0 ≤ 1 + ipick room 12 ∧ 1 + ipick room 12 ≤ 256 := by have := ipick_bounds room (n := 12) (by omega); omega
  refine ifB_dec (fun h1 => ?_) (fun h1 => ?_)
  · conv => whnf
    refine ifB_dec (fun h2 => ?_) (fun h2 => ?_)
    · conv => whnf
      refine And.intro ⟨hcode, by omega, by omega⟩ ?_
      conv => whnf
      rw [e5]
      refine TW.loopD ctxPlAD_good 0 (base := 0) (lv := [0, 1, 2, 3, 4, 5, 6, 7, 8, 9, 10, 11, 13, 22, 23, 24, 25, 26, 28, 29, 30, 31, 32, 33, 35, 37, 39, 40, 41, 42, 43, 45, 46, 47, 48, 49, 51, 52, 53, 54, 55, 56, 57, 68, 74, 75, 76, 77, 107, 128, 129, 130, 131, 143, 144, 145, 146, 169, 178, 179, 180, 181, 203, 209, 210, 211, 212, 244]) [76] [] [] (fun j : Nat => [.v (.int .i64 j)]) (fun j => []) (fun j => j ≤ 2) (fun j => 2 - j) ?_
      conv => whnf
      refine ⟨⟨0, ⟨rfl, rfl, rfl⟩, by omega⟩, fun j hj => ?_⟩
      replace hj : j ≤ 2 := hj
      conv => whnf
      refine ifB_dec (fun h => ?_) (fun h => ?_)
      · conv => whnf
        refine And.intro (by omega) ?_
        conv => whnf
        refine And.intro (by split <;> omega) ?_
        conv => whnf
        refine And.intro (allU_cut hvals _ _ _) ?_
        conv => whnf
        refine And.intro (by split <;> omega) ?_
        conv => whnf
        refine And.intro (allU_cut hvals _ _ _) ?_
        conv => whnf
        refine ifB_ne (fun h9 => (h9 rfl).elim) (fun _ => ?_)
        conv => whnf
        refine ifB_ne (fun h9 => (h9 rfl).elim) (fun _ => ?_)
        conv => whnf
        rw [wsucc (n := 2) (by omega) (by omega)]
        exact ⟨j + 1, [], ⟨rfl, rfl, rfl⟩, (by omega : j + 1 ≤ 2), by (try dsimp only); omega⟩
      · conv => whnf
        refine And.intro ⟨confK_or room, conf_fits room, hst⟩ ?_
        conv => whnf
        refine And.intro ⟨by omega, by omega, hn1, right_state room n4 st hst, confK_or room, conf_fits room⟩ ?_
        conv => whnf
        rw [hE]
        conv => whnf
        refine And.intro (show L.length * 8 ≤ 140737488355328 by omega) ?_
        conv => whnf
        refine And.intro ⟨hat, (show (0 : Int) < (L.length : Nat) by omega), (show ((L.length : Nat) : Int) ≤ 4096 by omega)⟩ ?_
        conv => whnf
        refine And.intro (ipick_bounds at_ (n := ((L.length : Nat) : Int)) (by omega)) ?_
        conv => whnf
        refine TW.loopD ctxPlAD_good 0 (base := 0) (lv := [0, 1, 2, 3, 4, 5, 6, 7, 8, 9, 10, 11, 13, 22, 23, 24, 25, 26, 28, 29, 30, 31, 32, 33, 35, 37, 39, 40, 41, 42, 43, 45, 46, 47, 48, 49, 51, 52, 53, 54, 55, 56, 57, 68, 74, 75, 76, 77, 107, 128, 129, 130, 131, 143, 144, 145, 146, 169, 178, 179, 180, 181, 203, 209, 210, 211, 212, 244]) [130, 33, 35] [456, 472] [(456, 456), (472, 472)] (fun j : Nat => [.v (.int .i64 j), .ow 456 1 L.length, .ow 472 1 L.length]) (fun j => [.fl [.u64] L, .fl [.u64] (L.set (0 + addN 0 (ipick at_ (L.length : Nat)).toNat * (0 + 1) + 0) x)]) (fun j => j ≤ 2) (fun j => 2 - j) ?_
        conv => whnf
        refine ⟨⟨0, ⟨rfl, rfl, rfl⟩, by omega⟩, fun j hj => ?_⟩
        replace hj : j ≤ 2 := hj
        conv => whnf
        refine ifB_dec (fun h => ?_) (fun h => ?_)
        · conv => whnf
          refine And.intro (by omega) ?_
          conv => whnf
          refine And.intro (by split <;> omega) ?_
          conv => whnf
          refine And.intro hroom ?_
          conv => whnf
          refine And.intro ⟨hrb, hraw⟩ ?_
          conv => whnf
          refine TW.loopD ctxPlAD_good 0 (base := 0) (lv := [0, 1, 2, 3, 4, 5, 6, 7, 8, 9, 10, 11, 13, 22, 23, 24, 25, 26, 28, 29, 30, 31, 32, 33, 35, 37, 39, 40, 41, 42, 43, 45, 46, 47, 48, 49, 51, 52, 53, 54, 55, 56, 57, 68, 74, 75, 76, 77, 107, 128, 129, 130, 131, 143, 144, 145, 146, 169, 178, 179, 180, 181, 203, 209, 210, 211, 212, 244]) [145] [] [] (fun j : Nat => [.v (.int .i64 j)]) (fun j => []) (fun j => j ≤ 2) (fun j => 2 - j) ?_
          conv => whnf
          refine ⟨⟨0, ⟨rfl, rfl, rfl⟩, by omega⟩, fun q hq => ?_⟩
          replace hq : q ≤ 2 := hq
          conv => whnf
          refine ifB_dec (fun h => ?_) (fun h => ?_)
          · have hq2 : q = 0 ∨ q = 1 := by omega
            rcases hq2 with rfl | rfl
            · conv => whnf
              refine And.intro (by omega) ?_
              conv => whnf
              refine ifB_ne (fun h9 => (h9 rfl).elim) (fun _ => ?_)
              conv => whnf
              refine ifB_f (notSame _) ?_
              conv => whnf
              exact ⟨1, [], ⟨rfl, rfl, rfl⟩, by omega, (by dsimp only; omega)⟩
            · conv => whnf
              refine And.intro (by omega) ?_
              conv => whnf
              refine ifB_ne (fun h9 => (h9 rfl).elim) (fun _ => ?_)
              conv => whnf
              refine ifB_f (notSame _) ?_
              conv => whnf
              exact ⟨2, [], ⟨rfl, rfl, rfl⟩, by omega, (by dsimp only; omega)⟩
          · conv => whnf
            refine And.intro (by split <;> omega) ?_
            conv => whnf
            refine TW.loopD ctxPlAD_good 0 (base := 0) (lv := [0, 1, 2, 3, 4, 5, 6, 7, 8, 9, 10, 11, 13, 22, 23, 24, 25, 26, 28, 29, 30, 31, 32, 33, 35, 37, 39, 40, 41, 42, 43, 45, 46, 47, 48, 49, 51, 52, 53, 54, 55, 56, 57, 68, 74, 75, 76, 77, 107, 128, 129, 130, 131, 143, 144, 145, 146, 169, 178, 179, 180, 181, 203, 209, 210, 211, 212, 244]) [180] [] [] (fun j : Nat => [.v (.int .i64 j)]) (fun j => []) (fun j => j ≤ 3) (fun j => 3 - j) ?_
            conv => whnf
            refine ⟨⟨0, ⟨rfl, rfl, rfl⟩, by omega⟩, fun q hq => ?_⟩
            replace hq : q ≤ 3 := hq
            conv => whnf
            refine ifB_dec (fun h => ?_) (fun h => ?_)
            · have hq2 : q = 0 ∨ q = 1 ∨ q = 2 := by omega
              rcases hq2 with rfl | rfl | rfl
              · conv => whnf
                refine And.intro (by omega) ?_
                conv => whnf
                refine And.intro hL ?_
                conv => whnf
                refine And.intro hL ?_
                conv => whnf
                refine ifB_ne (fun h9 => (h9 rfl).elim) (fun _ => ?_)
                conv => whnf
                refine ifB_ne (fun h9 => (h9 rfl).elim) (fun _ => ?_)
                conv => whnf
                refine And.intro ⟨confK_or room, hk.1, hk.2.1, hk.2.2⟩ ?_
                conv => whnf
                refine TW.loopD ctxPlAD_good 0 (base := 0) (lv := [0, 1, 2, 3, 4, 5, 6, 7, 8, 9, 10, 11, 13, 22, 23, 24, 25, 26, 28, 29, 30, 31, 32, 33, 35, 37, 39, 40, 41, 42, 43, 45, 46, 47, 48, 49, 51, 52, 53, 54, 55, 56, 57, 68, 74, 75, 76, 77, 107, 128, 129, 130, 131, 143, 144, 145, 146, 169, 178, 179, 180, 181, 203, 209, 210, 211, 212, 244]) [211] [] [] (fun j : Nat => [.v (.int .i64 j)]) (fun j => []) (fun j => j ≤ 2) (fun j => 2 - j) ?_
                conv => whnf
                refine ⟨⟨0, ⟨rfl, rfl, rfl⟩, by omega⟩, fun z hz => ?_⟩
                replace hz : z ≤ 2 := hz
                conv => whnf
                refine ifB_dec (fun h => ?_) (fun h => ?_)
                · conv => whnf
                  have hz2 : z = 0 ∨ z = 1 := by omega
                  refine And.intro (by omega) ?_
                  conv => whnf
                  refine And.intro ⟨hL, (by rcases hz2 with rfl | rfl; exact hop.2.1; exact (u64_keyS hx : U64 (keyS (confK room) k2 x))), (by rcases hz2 with rfl | rfl; exact hop.2.2; exact (u64_opV hx : U64 (opV (confK room) k1 k3 x)))⟩ ?_
                  conv => whnf
                  refine And.intro ⟨hL, (by rcases hz2 with rfl | rfl; exact hop.2.1; exact (u64_keyS hx : U64 (keyS (confK room) k2 x))), (by rcases hz2 with rfl | rfl; exact hop.2.2; exact (u64_opV hx : U64 (opV (confK room) k1 k3 x)))⟩ ?_
                  conv => whnf
                  refine ifB_ne (fun h9 => (h9 rfl).elim) (fun _ => ?_)
                  conv => whnf
                  refine ifB_f (by simp) ?_
                  conv => whnf
                  refine ifB_f (notSame _) ?_
                  conv => whnf
                  rw [wsucc (n := 2) (by omega) (by omega)]
                  exact ⟨z + 1, [], ⟨rfl, rfl, rfl⟩, (by omega : z + 1 ≤ 2), by (try dsimp only); omega⟩
                · conv => whnf
                  exact ⟨1, [], ⟨rfl, rfl, rfl⟩, by omega, (by dsimp only; omega)⟩
              · conv => whnf
                refine And.intro (by omega) ?_
                conv => whnf
                refine And.intro (allU_set hL _ hx) ?_
                conv => whnf
                refine And.intro (allU_set hL _ hx) ?_
                conv => whnf
                refine ifB_ne (fun h9 => (h9 rfl).elim) (fun _ => ?_)
                conv => whnf
                refine ifB_ne (fun h9 => (h9 rfl).elim) (fun _ => ?_)
                conv => whnf
                refine And.intro ⟨confK_or room, hk.1, hk.2.1, hk.2.2⟩ ?_
                conv => whnf
                refine TW.loopD ctxPlAD_good 0 (base := 0) (lv := [0, 1, 2, 3, 4, 5, 6, 7, 8, 9, 10, 11, 13, 22, 23, 24, 25, 26, 28, 29, 30, 31, 32, 33, 35, 37, 39, 40, 41, 42, 43, 45, 46, 47, 48, 49, 51, 52, 53, 54, 55, 56, 57, 68, 74, 75, 76, 77, 107, 128, 129, 130, 131, 143, 144, 145, 146, 169, 178, 179, 180, 181, 203, 209, 210, 211, 212, 244]) [211] [] [] (fun j : Nat => [.v (.int .i64 j)]) (fun j => []) (fun j => j ≤ 2) (fun j => 2 - j) ?_
                conv => whnf
                refine ⟨⟨0, ⟨rfl, rfl, rfl⟩, by omega⟩, fun z hz => ?_⟩
                replace hz : z ≤ 2 := hz
                conv => whnf
                refine ifB_dec (fun h => ?_) (fun h => ?_)
                · conv => whnf
                  have hz2 : z = 0 ∨ z = 1 := by omega
                  refine And.intro (by omega) ?_
                  conv => whnf
                  refine And.intro ⟨(allU_set hL _ hx), (by rcases hz2 with rfl | rfl; exact hop.2.1; exact (u64_keyS hx : U64 (keyS (confK room) k2 x))), (by rcases hz2 with rfl | rfl; exact hop.2.2; exact (u64_opV hx : U64 (opV (confK room) k1 k3 x)))⟩ ?_
                  conv => whnf
                  refine And.intro ⟨(allU_set hL _ hx), (by rcases hz2 with rfl | rfl; exact hop.2.1; exact (u64_keyS hx : U64 (keyS (confK room) k2 x))), (by rcases hz2 with rfl | rfl; exact hop.2.2; exact (u64_opV hx : U64 (opV (confK room) k1 k3 x)))⟩ ?_
                  conv => whnf
                  refine ifB_ne (fun h9 => (h9 rfl).elim) (fun _ => ?_)
                  conv => whnf
                  refine ifB_f (by simp) ?_
                  conv => whnf
                  refine ifB_f (notSame _) ?_
                  conv => whnf
                  rw [wsucc (n := 2) (by omega) (by omega)]
                  exact ⟨z + 1, [], ⟨rfl, rfl, rfl⟩, (by omega : z + 1 ≤ 2), by (try dsimp only); omega⟩
                · conv => whnf
                  exact ⟨2, [], ⟨rfl, rfl, rfl⟩, by omega, (by dsimp only; omega)⟩
              · conv => whnf
                refine And.intro (by omega) ?_
                conv => whnf
                refine And.intro (allU_cut hw _ _ _) ?_
                conv => whnf
                refine And.intro (allU_cut hw _ _ _) ?_
                conv => whnf
                refine ifB_ne (fun h9 => (h9 rfl).elim) (fun _ => ?_)
                conv => whnf
                refine ifB_ne (fun h9 => (h9 rfl).elim) (fun _ => ?_)
                conv => whnf
                refine And.intro ⟨confK_or room, hk.1, hk.2.1, hk.2.2⟩ ?_
                conv => whnf
                refine TW.loopD ctxPlAD_good 0 (base := 0) (lv := [0, 1, 2, 3, 4, 5, 6, 7, 8, 9, 10, 11, 13, 22, 23, 24, 25, 26, 28, 29, 30, 31, 32, 33, 35, 37, 39, 40, 41, 42, 43, 45, 46, 47, 48, 49, 51, 52, 53, 54, 55, 56, 57, 68, 74, 75, 76, 77, 107, 128, 129, 130, 131, 143, 144, 145, 146, 169, 178, 179, 180, 181, 203, 209, 210, 211, 212, 244]) [211] [] [] (fun j : Nat => [.v (.int .i64 j)]) (fun j => []) (fun j => j ≤ 2) (fun j => 2 - j) ?_
                conv => whnf
                refine ⟨⟨0, ⟨rfl, rfl, rfl⟩, by omega⟩, fun z hz => ?_⟩
                replace hz : z ≤ 2 := hz
                conv => whnf
                refine ifB_dec (fun h => ?_) (fun h => ?_)
                · conv => whnf
                  have hz2 : z = 0 ∨ z = 1 := by omega
                  refine And.intro (by omega) ?_
                  conv => whnf
                  refine And.intro ⟨(allU_cut hw _ _ _), (by rcases hz2 with rfl | rfl; exact hop.2.1; exact (u64_keyS hx : U64 (keyS (confK room) k2 x))), (by rcases hz2 with rfl | rfl; exact hop.2.2; exact (u64_opV hx : U64 (opV (confK room) k1 k3 x)))⟩ ?_
                  conv => whnf
                  refine And.intro ⟨(allU_cut hw _ _ _), (by rcases hz2 with rfl | rfl; exact hop.2.1; exact (u64_keyS hx : U64 (keyS (confK room) k2 x))), (by rcases hz2 with rfl | rfl; exact hop.2.2; exact (u64_opV hx : U64 (opV (confK room) k1 k3 x)))⟩ ?_
                  conv => whnf
                  refine ifB_ne (fun h9 => (h9 rfl).elim) (fun _ => ?_)
                  conv => whnf
                  refine ifB_f (by simp) ?_
                  conv => whnf
                  refine ifB_f (notSame _) ?_
                  conv => whnf
                  rw [wsucc (n := 2) (by omega) (by omega)]
                  exact ⟨z + 1, [], ⟨rfl, rfl, rfl⟩, (by omega : z + 1 ≤ 2), by (try dsimp only); omega⟩
                · conv => whnf
                  exact ⟨3, [], ⟨rfl, rfl, rfl⟩, by omega, (by dsimp only; omega)⟩
            · conv => whnf
              rw [wsucc (n := 2) (by omega) (by omega)]
              exact ⟨j + 1, [(456, 456), (472, 472)], ⟨rfl, rfl, rfl⟩, (by omega : j + 1 ≤ 2), by (try dsimp only); omega⟩
        · conv => whnf
    · conv => whnf
      refine And.intro ⟨hcode, by omega, by omega⟩ ?_
      conv => whnf
      rw [e5]
      refine TW.loopD ctxPlAD_good 0 (base := 0) (lv := [0, 1, 2, 3, 4, 5, 6, 7, 8, 9, 10, 11, 13, 22, 23, 24, 25, 26, 28, 29, 30, 31, 32, 33, 35, 37, 39, 40, 41, 42, 43, 45, 46, 47, 48, 49, 51, 52, 53, 54, 55, 56, 57, 68, 74, 75, 76, 77, 107, 128, 129, 130, 131, 143, 144, 145, 146, 169, 178, 179, 180, 181, 203, 209, 210, 211, 212, 244]) [76] [] [] (fun j : Nat => [.v (.int .i64 j)]) (fun j => []) (fun j => j ≤ 2) (fun j => 2 - j) ?_
      conv => whnf
      refine ⟨⟨0, ⟨rfl, rfl, rfl⟩, by omega⟩, fun j hj => ?_⟩
      replace hj : j ≤ 2 := hj
      conv => whnf
      refine ifB_dec (fun h => ?_) (fun h => ?_)
      · conv => whnf
        refine And.intro (by omega) ?_
        conv => whnf
        refine And.intro (by split <;> omega) ?_
        conv => whnf
        refine And.intro (allU_cut hvals _ _ _) ?_
        conv => whnf
        refine And.intro (by split <;> omega) ?_
        conv => whnf
        refine And.intro (allU_cut hvals _ _ _) ?_
        conv => whnf
        refine ifB_ne (fun h9 => (h9 rfl).elim) (fun _ => ?_)
        conv => whnf
        refine ifB_ne (fun h9 => (h9 rfl).elim) (fun _ => ?_)
        conv => whnf
        rw [wsucc (n := 2) (by omega) (by omega)]
        exact ⟨j + 1, [], ⟨rfl, rfl, rfl⟩, (by omega : j + 1 ≤ 2), by (try dsimp only); omega⟩
      · conv => whnf
        refine And.intro ⟨confK_or room, conf_fits room, hst⟩ ?_
        conv => whnf
        refine And.intro ⟨by omega, by omega, hn1, right_state room n4 st hst, confK_or room, conf_fits room⟩ ?_
        conv => whnf
        rw [hE]
        conv => whnf
        refine And.intro (show L.length * 8 ≤ 140737488355328 by omega) ?_
        conv => whnf
        refine And.intro ⟨hat, (show (0 : Int) < (L.length : Nat) by omega), (show ((L.length : Nat) : Int) ≤ 4096 by omega)⟩ ?_
        conv => whnf
        refine And.intro (ipick_bounds at_ (n := ((L.length : Nat) : Int)) (by omega)) ?_
        conv => whnf
        refine TW.loopD ctxPlAD_good 0 (base := 0) (lv := [0, 1, 2, 3, 4, 5, 6, 7, 8, 9, 10, 11, 13, 22, 23, 24, 25, 26, 28, 29, 30, 31, 32, 33, 35, 37, 39, 40, 41, 42, 43, 45, 46, 47, 48, 49, 51, 52, 53, 54, 55, 56, 57, 68, 74, 75, 76, 77, 107, 128, 129, 130, 131, 143, 144, 145, 146, 169, 178, 179, 180, 181, 203, 209, 210, 211, 212, 244]) [130, 33, 35] [456, 472] [(456, 456), (472, 472)] (fun j : Nat => [.v (.int .i64 j), .ow 456 1 L.length, .ow 472 1 L.length]) (fun j => [.fl [.u64] L, .fl [.u64] (L.set (0 + addN 0 (ipick at_ (L.length : Nat)).toNat * (0 + 1) + 0) x)]) (fun j => j ≤ 2) (fun j => 2 - j) ?_
        conv => whnf
        refine ⟨⟨0, ⟨rfl, rfl, rfl⟩, by omega⟩, fun j hj => ?_⟩
        replace hj : j ≤ 2 := hj
        conv => whnf
        refine ifB_dec (fun h => ?_) (fun h => ?_)
        · conv => whnf
          refine And.intro (by omega) ?_
          conv => whnf
          refine And.intro (by split <;> omega) ?_
          conv => whnf
          refine And.intro hroom ?_
          conv => whnf
          refine And.intro ⟨hrb, hraw⟩ ?_
          conv => whnf
          refine TW.loopD ctxPlAD_good 0 (base := 0) (lv := [0, 1, 2, 3, 4, 5, 6, 7, 8, 9, 10, 11, 13, 22, 23, 24, 25, 26, 28, 29, 30, 31, 32, 33, 35, 37, 39, 40, 41, 42, 43, 45, 46, 47, 48, 49, 51, 52, 53, 54, 55, 56, 57, 68, 74, 75, 76, 77, 107, 128, 129, 130, 131, 143, 144, 145, 146, 169, 178, 179, 180, 181, 203, 209, 210, 211, 212, 244]) [145] [] [] (fun j : Nat => [.v (.int .i64 j)]) (fun j => []) (fun j => j ≤ 2) (fun j => 2 - j) ?_
          conv => whnf
          refine ⟨⟨0, ⟨rfl, rfl, rfl⟩, by omega⟩, fun q hq => ?_⟩
          replace hq : q ≤ 2 := hq
          conv => whnf
          refine ifB_dec (fun h => ?_) (fun h => ?_)
          · have hq2 : q = 0 ∨ q = 1 := by omega
            rcases hq2 with rfl | rfl
            · conv => whnf
              refine And.intro (by omega) ?_
              conv => whnf
              refine ifB_ne (fun h9 => (h9 rfl).elim) (fun _ => ?_)
              conv => whnf
              refine ifB_f (notSame _) ?_
              conv => whnf
              exact ⟨1, [], ⟨rfl, rfl, rfl⟩, by omega, (by dsimp only; omega)⟩
            · conv => whnf
              refine And.intro (by omega) ?_
              conv => whnf
              refine ifB_ne (fun h9 => (h9 rfl).elim) (fun _ => ?_)
              conv => whnf
              refine ifB_f (notSame _) ?_
              conv => whnf
              exact ⟨2, [], ⟨rfl, rfl, rfl⟩, by omega, (by dsimp only; omega)⟩
          · conv => whnf
            refine And.intro (by split <;> omega) ?_
            conv => whnf
            refine TW.loopD ctxPlAD_good 0 (base := 0) (lv := [0, 1, 2, 3, 4, 5, 6, 7, 8, 9, 10, 11, 13, 22, 23, 24, 25, 26, 28, 29, 30, 31, 32, 33, 35, 37, 39, 40, 41, 42, 43, 45, 46, 47, 48, 49, 51, 52, 53, 54, 55, 56, 57, 68, 74, 75, 76, 77, 107, 128, 129, 130, 131, 143, 144, 145, 146, 169, 178, 179, 180, 181, 203, 209, 210, 211, 212, 244]) [180] [] [] (fun j : Nat => [.v (.int .i64 j)]) (fun j => []) (fun j => j ≤ 3) (fun j => 3 - j) ?_
            conv => whnf
            refine ⟨⟨0, ⟨rfl, rfl, rfl⟩, by omega⟩, fun q hq => ?_⟩
            replace hq : q ≤ 3 := hq
            conv => whnf
            refine ifB_dec (fun h => ?_) (fun h => ?_)
            · have hq2 : q = 0 ∨ q = 1 ∨ q = 2 := by omega
              rcases hq2 with rfl | rfl | rfl
              · conv => whnf
                refine And.intro (by omega) ?_
                conv => whnf
                refine And.intro hL ?_
                conv => whnf
                refine And.intro hL ?_
                conv => whnf
                refine ifB_ne (fun h9 => (h9 rfl).elim) (fun _ => ?_)
                conv => whnf
                refine ifB_ne (fun h9 => (h9 rfl).elim) (fun _ => ?_)
                conv => whnf
                refine And.intro ⟨confK_or room, hk.1, hk.2.1, hk.2.2⟩ ?_
                conv => whnf
                refine TW.loopD ctxPlAD_good 0 (base := 0) (lv := [0, 1, 2, 3, 4, 5, 6, 7, 8, 9, 10, 11, 13, 22, 23, 24, 25, 26, 28, 29, 30, 31, 32, 33, 35, 37, 39, 40, 41, 42, 43, 45, 46, 47, 48, 49, 51, 52, 53, 54, 55, 56, 57, 68, 74, 75, 76, 77, 107, 128, 129, 130, 131, 143, 144, 145, 146, 169, 178, 179, 180, 181, 203, 209, 210, 211, 212, 244]) [211] [] [] (fun j : Nat => [.v (.int .i64 j)]) (fun j => []) (fun j => j ≤ 2) (fun j => 2 - j) ?_
                conv => whnf
                refine ⟨⟨0, ⟨rfl, rfl, rfl⟩, by omega⟩, fun z hz => ?_⟩
                replace hz : z ≤ 2 := hz
                conv => whnf
                refine ifB_dec (fun h => ?_) (fun h => ?_)
                · conv => whnf
                  have hz2 : z = 0 ∨ z = 1 := by omega
                  refine And.intro (by omega) ?_
                  conv => whnf
                  refine And.intro ⟨hL, (by rcases hz2 with rfl | rfl; exact hop.2.1; exact (u64_keyS hx : U64 (keyS (confK room) k2 x))), (by rcases hz2 with rfl | rfl; exact hop.2.2; exact (u64_opV hx : U64 (opV (confK room) k1 k3 x)))⟩ ?_
                  conv => whnf
                  refine And.intro ⟨hL, (by rcases hz2 with rfl | rfl; exact hop.2.1; exact (u64_keyS hx : U64 (keyS (confK room) k2 x))), (by rcases hz2 with rfl | rfl; exact hop.2.2; exact (u64_opV hx : U64 (opV (confK room) k1 k3 x)))⟩ ?_
                  conv => whnf
                  refine ifB_ne (fun h9 => (h9 rfl).elim) (fun _ => ?_)
                  conv => whnf
                  refine ifB_f (by simp) ?_
                  conv => whnf
                  refine ifB_f (notSame _) ?_
                  conv => whnf
                  rw [wsucc (n := 2) (by omega) (by omega)]
                  exact ⟨z + 1, [], ⟨rfl, rfl, rfl⟩, (by omega : z + 1 ≤ 2), by (try dsimp only); omega⟩
                · conv => whnf
                  exact ⟨1, [], ⟨rfl, rfl, rfl⟩, by omega, (by dsimp only; omega)⟩
              · conv => whnf
                refine And.intro (by omega) ?_
                conv => whnf
                refine And.intro (allU_set hL _ hx) ?_
                conv => whnf
                refine And.intro (allU_set hL _ hx) ?_
                conv => whnf
                refine ifB_ne (fun h9 => (h9 rfl).elim) (fun _ => ?_)
                conv => whnf
                refine ifB_ne (fun h9 => (h9 rfl).elim) (fun _ => ?_)
                conv => whnf
                refine And.intro ⟨confK_or room, hk.1, hk.2.1, hk.2.2⟩ ?_
                conv => whnf
                refine TW.loopD ctxPlAD_good 0 (base := 0) (lv := [0, 1, 2, 3, 4, 5, 6, 7, 8, 9, 10, 11, 13, 22, 23, 24, 25, 26, 28, 29, 30, 31, 32, 33, 35, 37, 39, 40, 41, 42, 43, 45, 46, 47, 48, 49, 51, 52, 53, 54, 55, 56, 57, 68, 74, 75, 76, 77, 107, 128, 129, 130, 131, 143, 144, 145, 146, 169, 178, 179, 180, 181, 203, 209, 210, 211, 212, 244]) [211] [] [] (fun j : Nat => [.v (.int .i64 j)]) (fun j => []) (fun j => j ≤ 2) (fun j => 2 - j) ?_
                conv => whnf
                refine ⟨⟨0, ⟨rfl, rfl, rfl⟩, by omega⟩, fun z hz => ?_⟩
                replace hz : z ≤ 2 := hz
                conv => whnf
                refine ifB_dec (fun h => ?_) (fun h => ?_)
                · conv => whnf
                  have hz2 : z = 0 ∨ z = 1 := by omega
                  refine And.intro (by omega) ?_
                  conv => whnf
                  refine And.intro ⟨(allU_set hL _ hx), (by rcases hz2 with rfl | rfl; exact hop.2.1; exact (u64_keyS hx : U64 (keyS (confK room) k2 x))), (by rcases hz2 with rfl | rfl; exact hop.2.2; exact (u64_opV hx : U64 (opV (confK room) k1 k3 x)))⟩ ?_
                  conv => whnf
                  refine And.intro ⟨(allU_set hL _ hx), (by rcases hz2 with rfl | rfl; exact hop.2.1; exact (u64_keyS hx : U64 (keyS (confK room) k2 x))), (by rcases hz2 with rfl | rfl; exact hop.2.2; exact (u64_opV hx : U64 (opV (confK room) k1 k3 x)))⟩ ?_
                  conv => whnf
                  refine ifB_ne (fun h9 => (h9 rfl).elim) (fun _ => ?_)
                  conv => whnf
                  refine ifB_f (by simp) ?_
                  conv => whnf
                  refine ifB_f (notSame _) ?_
                  conv => whnf
                  rw [wsucc (n := 2) (by omega) (by omega)]
                  exact ⟨z + 1, [], ⟨rfl, rfl, rfl⟩, (by omega : z + 1 ≤ 2), by (try dsimp only); omega⟩
                · conv => whnf
                  exact ⟨2, [], ⟨rfl, rfl, rfl⟩, by omega, (by dsimp only; omega)⟩
              · conv => whnf
                refine And.intro (by omega) ?_
                conv => whnf
                refine And.intro (allU_cut hw _ _ _) ?_
                conv => whnf
                refine And.intro (allU_cut hw _ _ _) ?_
                conv => whnf
                refine ifB_ne (fun h9 => (h9 rfl).elim) (fun _ => ?_)
                conv => whnf
                refine ifB_ne (fun h9 => (h9 rfl).elim) (fun _ => ?_)
                conv => whnf
                refine And.intro ⟨confK_or room, hk.1, hk.2.1, hk.2.2⟩ ?_
                conv => whnf
                refine TW.loopD ctxPlAD_good 0 (base := 0) (lv := [0, 1, 2, 3, 4, 5, 6, 7, 8, 9, 10, 11, 13, 22, 23, 24, 25, 26, 28, 29, 30, 31, 32, 33, 35, 37, 39, 40, 41, 42, 43, 45, 46, 47, 48, 49, 51, 52, 53, 54, 55, 56, 57, 68, 74, 75, 76, 77, 107, 128, 129, 130, 131, 143, 144, 145, 146, 169, 178, 179, 180, 181, 203, 209, 210, 211, 212, 244]) [211] [] [] (fun j : Nat => [.v (.int .i64 j)]) (fun j => []) (fun j => j ≤ 2) (fun j => 2 - j) ?_
                conv => whnf
                refine ⟨⟨0, ⟨rfl, rfl, rfl⟩, by omega⟩, fun z hz => ?_⟩
                replace hz : z ≤ 2 := hz
                conv => whnf
                refine ifB_dec (fun h => ?_) (fun h => ?_)
                · conv => whnf
                  have hz2 : z = 0 ∨ z = 1 := by omega
                  refine And.intro (by omega) ?_
                  conv => whnf
                  refine And.intro ⟨(allU_cut hw _ _ _), (by rcases hz2 with rfl | rfl; exact hop.2.1; exact (u64_keyS hx : U64 (keyS (confK room) k2 x))), (by rcases hz2 with rfl | rfl; exact hop.2.2; exact (u64_opV hx : U64 (opV (confK room) k1 k3 x)))⟩ ?_
                  conv => whnf
                  refine And.intro ⟨(allU_cut hw _ _ _), (by rcases hz2 with rfl | rfl; exact hop.2.1; exact (u64_keyS hx : U64 (keyS (confK room) k2 x))), (by rcases hz2 with rfl | rfl; exact hop.2.2; exact (u64_opV hx : U64 (opV (confK room) k1 k3 x)))⟩ ?_
                  conv => whnf
                  refine ifB_ne (fun h9 => (h9 rfl).elim) (fun _ => ?_)
                  conv => whnf
                  refine ifB_f (by simp) ?_
                  conv => whnf
                  refine ifB_f (notSame _) ?_
                  conv => whnf
                  rw [wsucc (n := 2) (by omega) (by omega)]
                  exact ⟨z + 1, [], ⟨rfl, rfl, rfl⟩, (by omega : z + 1 ≤ 2), by (try dsimp only); omega⟩
                · conv => whnf
                  exact ⟨3, [], ⟨rfl, rfl, rfl⟩, by omega, (by dsimp only; omega)⟩
            · conv => whnf
              rw [wsucc (n := 2) (by omega) (by omega)]
              exact ⟨j + 1, [(456, 456), (472, 472)], ⟨rfl, rfl, rfl⟩, (by omega : j + 1 ≤ 2), by (try dsimp only); omega⟩
        · conv => whnf
  · conv => whnf
    refine And.intro ⟨hcode, by omega, by omega⟩ ?_
    conv => whnf
    rw [e5]
    refine TW.loopD ctxPlAD_good 0 (base := 0) (lv := [0, 1, 2, 3, 4, 5, 6, 7, 8, 9, 10, 11, 13, 22, 23, 24, 25, 26, 28, 29, 30, 31, 32, 33, 35, 37, 39, 40, 41, 42, 43, 45, 46, 47, 48, 49, 51, 52, 53, 54, 55, 56, 57, 68, 74, 75, 76, 77, 107, 128, 129, 130, 131, 143, 144, 145, 146, 169, 178, 179, 180, 181, 203, 209, 210, 211, 212, 244]) [76] [] [] (fun j : Nat => [.v (.int .i64 j)]) (fun j => []) (fun j => j ≤ 2) (fun j => 2 - j) ?_
    conv => whnf
    refine ⟨⟨0, ⟨rfl, rfl, rfl⟩, by omega⟩, fun j hj => ?_⟩
    replace hj : j ≤ 2 := hj
    conv => whnf
    refine ifB_dec (fun h => ?_) (fun h => ?_)
    · conv => whnf
      refine And.intro (by omega) ?_
      conv => whnf
      refine And.intro (by split <;> omega) ?_
      conv => whnf
      refine And.intro (allU_cut hvals _ _ _) ?_
      conv => whnf
      refine And.intro (by split <;> omega) ?_
      conv => whnf
      refine And.intro (allU_cut hvals _ _ _) ?_
      conv => whnf
      refine ifB_ne (fun h9 => (h9 rfl).elim) (fun _ => ?_)
      conv => whnf
      refine ifB_ne (fun h9 => (h9 rfl).elim) (fun _ => ?_)
      conv => whnf
      rw [wsucc (n := 2) (by omega) (by omega)]
      exact ⟨j + 1, [], ⟨rfl, rfl, rfl⟩, (by omega : j + 1 ≤ 2), by (try dsimp only); omega⟩
    · conv => whnf
      refine And.intro ⟨confK_or room, conf_fits room, hst⟩ ?_
      conv => whnf
      refine And.intro ⟨by omega, by omega, hn1, right_state room n4 st hst, confK_or room, conf_fits room⟩ ?_
      conv => whnf
      rw [hE]
      conv => whnf
      refine And.intro (show L.length * 8 ≤ 140737488355328 by omega) ?_
      conv => whnf
      refine And.intro ⟨hat, (show (0 : Int) < (L.length : Nat) by omega), (show ((L.length : Nat) : Int) ≤ 4096 by omega)⟩ ?_
      conv => whnf
      refine And.intro (ipick_bounds at_ (n := ((L.length : Nat) : Int)) (by omega)) ?_
      conv => whnf
      refine TW.loopD ctxPlAD_good 0 (base := 0) (lv := [0, 1, 2, 3, 4, 5, 6, 7, 8, 9, 10, 11, 13, 22, 23, 24, 25, 26, 28, 29, 30, 31, 32, 33, 35, 37, 39, 40, 41, 42, 43, 45, 46, 47, 48, 49, 51, 52, 53, 54, 55, 56, 57, 68, 74, 75, 76, 77, 107, 128, 129, 130, 131, 143, 144, 145, 146, 169, 178, 179, 180, 181, 203, 209, 210, 211, 212, 244]) [130, 33, 35] [456, 472] [(456, 456), (472, 472)] (fun j : Nat => [.v (.int .i64 j), .ow 456 1 L.length, .ow 472 1 L.length]) (fun j => [.fl [.u64] L, .fl [.u64] (L.set (0 + addN 0 (ipick at_ (L.length : Nat)).toNat * (0 + 1) + 0) x)]) (fun j => j ≤ 2) (fun j => 2 - j) ?_
      conv => whnf
      refine ⟨⟨0, ⟨rfl, rfl, rfl⟩, by omega⟩, fun j hj => ?_⟩
      replace hj : j ≤ 2 := hj
      conv => whnf
      refine ifB_dec (fun h => ?_) (fun h => ?_)
      · conv => whnf
        refine And.intro (by omega) ?_
        conv => whnf
        refine And.intro (by split <;> omega) ?_
        conv => whnf
        refine And.intro hroom ?_
        conv => whnf
        refine And.intro ⟨hrb, hraw⟩ ?_
        conv => whnf
        refine TW.loopD ctxPlAD_good 0 (base := 0) (lv := [0, 1, 2, 3, 4, 5, 6, 7, 8, 9, 10, 11, 13, 22, 23, 24, 25, 26, 28, 29, 30, 31, 32, 33, 35, 37, 39, 40, 41, 42, 43, 45, 46, 47, 48, 49, 51, 52, 53, 54, 55, 56, 57, 68, 74, 75, 76, 77, 107, 128, 129, 130, 131, 143, 144, 145, 146, 169, 178, 179, 180, 181, 203, 209, 210, 211, 212, 244]) [145] [] [] (fun j : Nat => [.v (.int .i64 j)]) (fun j => []) (fun j => j ≤ 2) (fun j => 2 - j) ?_
        conv => whnf
        refine ⟨⟨0, ⟨rfl, rfl, rfl⟩, by omega⟩, fun q hq => ?_⟩
        replace hq : q ≤ 2 := hq
        conv => whnf
        refine ifB_dec (fun h => ?_) (fun h => ?_)
        · have hq2 : q = 0 ∨ q = 1 := by omega
          rcases hq2 with rfl | rfl
          · conv => whnf
            refine And.intro (by omega) ?_
            conv => whnf
            refine ifB_ne (fun h9 => (h9 rfl).elim) (fun _ => ?_)
            conv => whnf
            refine ifB_f (notSame _) ?_
            conv => whnf
            exact ⟨1, [], ⟨rfl, rfl, rfl⟩, by omega, (by dsimp only; omega)⟩
          · conv => whnf
            refine And.intro (by omega) ?_
            conv => whnf
            refine ifB_ne (fun h9 => (h9 rfl).elim) (fun _ => ?_)
            conv => whnf
            refine ifB_f (notSame _) ?_
            conv => whnf
            exact ⟨2, [], ⟨rfl, rfl, rfl⟩, by omega, (by dsimp only; omega)⟩
        · conv => whnf
          refine And.intro (by split <;> omega) ?_
          conv => whnf
          refine TW.loopD ctxPlAD_good 0 (base := 0) (lv := [0, 1, 2, 3, 4, 5, 6, 7, 8, 9, 10, 11, 13, 22, 23, 24, 25, 26, 28, 29, 30, 31, 32, 33, 35, 37, 39, 40, 41, 42, 43, 45, 46, 47, 48, 49, 51, 52, 53, 54, 55, 56, 57, 68, 74, 75, 76, 77, 107, 128, 129, 130, 131, 143, 144, 145, 146, 169, 178, 179, 180, 181, 203, 209, 210, 211, 212, 244]) [180] [] [] (fun j : Nat => [.v (.int .i64 j)]) (fun j => []) (fun j => j ≤ 3) (fun j => 3 - j) ?_
          conv => whnf
          refine ⟨⟨0, ⟨rfl, rfl, rfl⟩, by omega⟩, fun q hq => ?_⟩
          replace hq : q ≤ 3 := hq
          conv => whnf
          refine ifB_dec (fun h => ?_) (fun h => ?_)
          · have hq2 : q = 0 ∨ q = 1 ∨ q = 2 := by omega
            rcases hq2 with rfl | rfl | rfl
            · conv => whnf
              refine And.intro (by omega) ?_
              conv => whnf
              refine And.intro hL ?_
              conv => whnf
              refine And.intro hL ?_
              conv => whnf
              refine ifB_ne (fun h9 => (h9 rfl).elim) (fun _ => ?_)
              conv => whnf
              refine ifB_ne (fun h9 => (h9 rfl).elim) (fun _ => ?_)
              conv => whnf
              refine And.intro ⟨confK_or room, hk.1, hk.2.1, hk.2.2⟩ ?_
              conv => whnf
              refine TW.loopD ctxPlAD_good 0 (base := 0) (lv := [0, 1, 2, 3, 4, 5, 6, 7, 8, 9, 10, 11, 13, 22, 23, 24, 25, 26, 28, 29, 30, 31, 32, 33, 35, 37, 39, 40, 41, 42, 43, 45, 46, 47, 48, 49, 51, 52, 53, 54, 55, 56, 57, 68, 74, 75, 76, 77, 107, 128, 129, 130, 131, 143, 144, 145, 146, 169, 178, 179, 180, 181, 203, 209, 210, 211, 212, 244]) [211] [] [] (fun j : Nat => [.v (.int .i64 j)]) (fun j => []) (fun j => j ≤ 2) (fun j => 2 - j) ?_
              conv => whnf
              refine ⟨⟨0, ⟨rfl, rfl, rfl⟩, by omega⟩, fun z hz => ?_⟩
              replace hz : z ≤ 2 := hz
              conv => whnf
              refine ifB_dec (fun h => ?_) (fun h => ?_)
              · conv => whnf
                have hz2 : z = 0 ∨ z = 1 := by omega
                refine And.intro (by omega) ?_
                conv => whnf
                refine And.intro ⟨hL, (by rcases hz2 with rfl | rfl; exact hop.2.1; exact (u64_keyS hx : U64 (keyS (confK room) k2 x))), (by rcases hz2 with rfl | rfl; exact hop.2.2; exact (u64_opV hx : U64 (opV (confK room) k1 k3 x)))⟩ ?_
                conv => whnf
                refine And.intro ⟨hL, (by rcases hz2 with rfl | rfl; exact hop.2.1; exact (u64_keyS hx : U64 (keyS (confK room) k2 x))), (by rcases hz2 with rfl | rfl; exact hop.2.2; exact (u64_opV hx : U64 (opV (confK room) k1 k3 x)))⟩ ?_
                conv => whnf
                refine ifB_ne (fun h9 => (h9 rfl).elim) (fun _ => ?_)
                conv => whnf
                refine ifB_f (by simp) ?_
                conv => whnf
                refine ifB_f (notSame _) ?_
                conv => whnf
                rw [wsucc (n := 2) (by omega) (by omega)]
                exact ⟨z + 1, [], ⟨rfl, rfl, rfl⟩, (by omega : z + 1 ≤ 2), by (try dsimp only); omega⟩
              · conv => whnf
                exact ⟨1, [], ⟨rfl, rfl, rfl⟩, by omega, (by dsimp only; omega)⟩
            · conv => whnf
              refine And.intro (by omega) ?_
              conv => whnf
              refine And.intro (allU_set hL _ hx) ?_
              conv => whnf
              refine And.intro (allU_set hL _ hx) ?_
              conv => whnf
              refine ifB_ne (fun h9 => (h9 rfl).elim) (fun _ => ?_)
              conv => whnf
              refine ifB_ne (fun h9 => (h9 rfl).elim) (fun _ => ?_)
              conv => whnf
              refine And.intro ⟨confK_or room, hk.1, hk.2.1, hk.2.2⟩ ?_
              conv => whnf
              refine TW.loopD ctxPlAD_good 0 (base := 0) (lv := [0, 1, 2, 3, 4, 5, 6, 7, 8, 9, 10, 11, 13, 22, 23, 24, 25, 26, 28, 29, 30, 31, 32, 33, 35, 37, 39, 40, 41, 42, 43, 45, 46, 47, 48, 49, 51, 52, 53, 54, 55, 56, 57, 68, 74, 75, 76, 77, 107, 128, 129, 130, 131, 143, 144, 145, 146, 169, 178, 179, 180, 181, 203, 209, 210, 211, 212, 244]) [211] [] [] (fun j : Nat => [.v (.int .i64 j)]) (fun j => []) (fun j => j ≤ 2) (fun j => 2 - j) ?_
              conv => whnf
              refine ⟨⟨0, ⟨rfl, rfl, rfl⟩, by omega⟩, fun z hz => ?_⟩
              replace hz : z ≤ 2 := hz
              conv => whnf
              refine ifB_dec (fun h => ?_) (fun h => ?_)
              · conv => whnf
                have hz2 : z = 0 ∨ z = 1 := by omega
                refine And.intro (by omega) ?_
                conv => whnf
                refine And.intro ⟨(allU_set hL _ hx), (by rcases hz2 with rfl | rfl; exact hop.2.1; exact (u64_keyS hx : U64 (keyS (confK room) k2 x))), (by rcases hz2 with rfl | rfl; exact hop.2.2; exact (u64_opV hx : U64 (opV (confK room) k1 k3 x)))⟩ ?_
                conv => whnf
                refine And.intro ⟨(allU_set hL _ hx), (by rcases hz2 with rfl | rfl; exact hop.2.1; exact (u64_keyS hx : U64 (keyS (confK room) k2 x))), (by rcases hz2 with rfl | rfl; exact hop.2.2; exact (u64_opV hx : U64 (opV (confK room) k1 k3 x)))⟩ ?_
                conv => whnf
                refine ifB_ne (fun h9 => (h9 rfl).elim) (fun _ => ?_)
                conv => whnf
                refine ifB_f (by simp) ?_
                conv => whnf
                refine ifB_f (notSame _) ?_
                conv => whnf
                rw [wsucc (n := 2) (by omega) (by omega)]
                exact ⟨z + 1, [], ⟨rfl, rfl, rfl⟩, (by omega : z + 1 ≤ 2), by (try dsimp only); omega⟩
              · conv => whnf
                exact ⟨2, [], ⟨rfl, rfl, rfl⟩, by omega, (by dsimp only; omega)⟩
            · conv => whnf
              refine And.intro (by omega) ?_
              conv => whnf
              refine And.intro (allU_cut hw _ _ _) ?_
              conv => whnf
              refine And.intro (allU_cut hw _ _ _) ?_
              conv => whnf
              refine ifB_ne (fun h9 => (h9 rfl).elim) (fun _ => ?_)
              conv => whnf
              refine ifB_ne (fun h9 => (h9 rfl).elim) (fun _ => ?_)
              conv => whnf
              refine And.intro ⟨confK_or room, hk.1, hk.2.1, hk.2.2⟩ ?_
              conv => whnf
              refine TW.loopD ctxPlAD_good 0 (base := 0) (lv := [0, 1, 2, 3, 4, 5, 6, 7, 8, 9, 10, 11, 13, 22, 23, 24, 25, 26, 28, 29, 30, 31, 32, 33, 35, 37, 39, 40, 41, 42, 43, 45, 46, 47, 48, 49, 51, 52, 53, 54, 55, 56, 57, 68, 74, 75, 76, 77, 107, 128, 129, 130, 131, 143, 144, 145, 146, 169, 178, 179, 180, 181, 203, 209, 210, 211, 212, 244]) [211] [] [] (fun j : Nat => [.v (.int .i64 j)]) (fun j => []) (fun j => j ≤ 2) (fun j => 2 - j) ?_
              conv => whnf
              refine ⟨⟨0, ⟨rfl, rfl, rfl⟩, by omega⟩, fun z hz => ?_⟩
              replace hz : z ≤ 2 := hz
              conv => whnf
              refine ifB_dec (fun h => ?_) (fun h => ?_)
              · conv => whnf
                have hz2 : z = 0 ∨ z = 1 := by omega
                refine And.intro (by omega) ?_
                conv => whnf
                refine And.intro ⟨(allU_cut hw _ _ _), (by rcases hz2 with rfl | rfl; exact hop.2.1; exact (u64_keyS hx : U64 (keyS (confK room) k2 x))), (by rcases hz2 with rfl | rfl; exact hop.2.2; exact (u64_opV hx : U64 (opV (confK room) k1 k3 x)))⟩ ?_
                conv => whnf
                refine And.intro ⟨(allU_cut hw _ _ _), (by rcases hz2 with rfl | rfl; exact hop.2.1; exact (u64_keyS hx : U64 (keyS (confK room) k2 x))), (by rcases hz2 with rfl | rfl; exact hop.2.2; exact (u64_opV hx : U64 (opV (confK room) k1 k3 x)))⟩ ?_
                conv => whnf
                refine ifB_ne (fun h9 => (h9 rfl).elim) (fun _ => ?_)
                conv => whnf
                refine ifB_f (by simp) ?_
                conv => whnf
                refine ifB_f (notSame _) ?_
                conv => whnf
                rw [wsucc (n := 2) (by omega) (by omega)]
                exact ⟨z + 1, [], ⟨rfl, rfl, rfl⟩, (by omega : z + 1 ≤ 2), by (try dsimp only); omega⟩
              · conv => whnf
                exact ⟨3, [], ⟨rfl, rfl, rfl⟩, by omega, (by dsimp only; omega)⟩
          · conv => whnf
            rw [wsucc (n := 2) (by omega) (by omega)]
            exact ⟨j + 1, [(456, 456), (472, 472)], ⟨rfl, rfl, rfl⟩, (by omega : j + 1 ≤ 2), by (try dsimp only); omega⟩
      · conv => whnf
end Go.Proofs.YtlcpcgdecodjfaaDoor
namespace Go.Proofs.YtlcpcgdecodjfaaDoor
open Go.RowKit Go.Proofs.YtlcpcgdecodjfaaDoor.Am
set_option linter.unusedVariables false
set_option linter.unusedSimpArgs false

theorem plainTells_walk (w : World) (ho : Objs w) (room : Int) (hroom : I64 room) (ok : Int) (h1 : I64 ok) (op : Int) (h2 : I64 op) (on : Int) (h3 : I64 on) (code : Int) (hcode : I64 code) (a3 : Option Addr) (len3 cap3 : Nat) (vals : List Int) (s3 : SlIn .u64 w a3 len3 cap3 vals) (x3 : ∀ n ∈ vals, (Lit.int .u64 n).wf = true) (a4 : Option Addr) (len4 cap4 : Nat) (any : List Int) (s4 : SlIn .i64 w a4 len4 cap4 any) (x4 : ∀ n ∈ any, (Lit.int .i64 n).wf = true) (a5 : Option Addr) (len5 cap5 : Nat) (raw : List Int) (s5 : SlIn .i64 w a5 len5 cap5 raw) (x5 : ∀ n ∈ raw, (Lit.int .i64 n).wf = true) (a6 : Option Addr) (len6 cap6 : Nat) (st : List Int) (s6 : SlFl [.i64, .i64, .i64] w a6 len6 cap6 st) (a7 : Option Addr) (len7 cap7 : Nat) (ws : List Int) (s7 : SlIn .u64 w a7 len7 cap7 ws) (x7 : ∀ n ∈ ws, (Lit.int .u64 n).wf = true) (at_ : Int) (hat : I64 at_) (x : Int) (hx : U64 x) (k1 : Int) (g1 : I64 k1) (k2 : Int) (g2 : I64 k2) (k3 : Int) (g3 : I64 k3) (oc : Int) (o1 : I64 oc) (okey : Int) (o2 : U64 okey) (ov : Int) (o3 : U64 ov) :
    Calls Tryd.prog 3 #[.int .i64 room, .agg ⟨[.int .i64 ok, .int .i64 op, .int .i64 on]⟩, .int .i64 code, .slice a3 len3 cap3, .slice a4 len4 cap4, .slice a5 len5 cap5, .slice a6 len6 cap6, .slice a7 len7 cap7, .int .i64 at_, .int .u64 x, .agg ⟨[.int .i64 k1, .int .i64 k2, .int .i64 k3]⟩, .agg ⟨[.int .i64 oc, .int .u64 okey, .int .u64 ov]⟩] w fun e w' => e = .returned (.bool true) ∧ Below w.heap.size w w' := by
  have hst : AllI st := by
    intro y hy
    obtain ⟨i, hi, rfl⟩ := List.getElem_of_mem hy
    have := s6.2.2 i _ (List.getElem?_eq_getElem hi)
    have hk : kc [.i64, .i64, .i64] i = .i64 := by
      unfold kc
      have : i % 3 = 0 ∨ i % 3 = 1 ∨ i % 3 = 2 := by omega
      rcases this with h | h | h <;> simp [h]
    rw [hk] at this
    exact i64_of_wf this
  exact row_of (tells14_pure room hroom ok op on ⟨h1, h2, h3⟩ code hcode len3 vals (fun y hy => u64_of_wf (x3 y hy)) len4 any len5 raw (fun y hy => i64_of_wf (x5 y hy)) len6 st hst len7 ws (fun y hy => u64_of_wf (x7 y hy)) at_ hat x hx k1 k2 k3 ⟨g1, g2, g3⟩ oc okey ov ⟨o1, o2, o3⟩) w ho (.cons (.v rfl) (.cons (.agg (.cons (.v rfl) (.cons (.v rfl) (.cons (.v rfl) .nil)))) (.cons (.v rfl) (.cons (tv_slIn s3) (.cons (tv_slIn s4) (.cons (tv_slIn s5) (.cons s6.1 (.cons (tv_slIn s7) (.cons (.v rfl) (.cons (.v rfl) (.cons (.agg (.cons (.v rfl) (.cons (.v rfl) (.cons (.v rfl) .nil)))) (.cons (.agg (.cons (.v rfl) (.cons (.v rfl) (.cons (.v rfl) .nil)))) .nil))))))))))))
end Go.Proofs.YtlcpcgdecodjfaaDoor
