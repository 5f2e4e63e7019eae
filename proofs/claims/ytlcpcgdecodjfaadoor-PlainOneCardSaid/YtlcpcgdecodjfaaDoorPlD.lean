/- plain: ballots cast, winners; law14's small functions. -/
import Derived.Test.YtlcpcgdecodjfaaDoorPlC
namespace Go.Proofs.YtlcpcgdecodjfaaDoor
open Go.RowKit Go.Proofs.YtlcpcgdecodjfaaDoor.Am
set_option linter.unusedVariables false
set_option linter.unusedSimpArgs false

/-- A ballot's words behind votes. -/
def castW (n : Nat) (l : List Int) : List Int := (List.range (n + 9)).map fun q => if q = 0 then 0 else if q ≤ n then l.getD (q - 1) 0 else cnt l ((q - n : Nat) : Int)
theorem castW_len (n : Nat) (l : List Int) : (castW n l).length = n + 9 := by simp [castW]
theorem castW_getD (n : Nat) (l : List Int) {q : Nat} (hq : q < n + 9) : (castW n l).getD q 0 = if q = 0 then 0 else if q ≤ n then l.getD (q - 1) 0 else cnt l ((q - n : Nat) : Int) := by
  simp [castW, List.getD, hq]
theorem getD_ext {a b : List Int} (hl : a.length = b.length) (h : ∀ q, q < a.length → a.getD q 0 = b.getD q 0) : a = b := by
  refine List.ext_getElem hl fun q h1 h2 => ?_
  have := h q h1
  simpa [List.getD, h1, h2] using this
theorem getD_set (xs : List Int) (i j : Nat) (v : Int) : (xs.set i v).getD j 0 = if i = j ∧ j < xs.length then v else xs.getD j 0 := by
  by_cases h : i = j
  · subst h
    by_cases hi : i < xs.length
    · simp [List.getD, List.getElem?_set, hi]
    · simp [List.getD, List.getElem?_set, hi]
  · rw [getD_set_ne _ h, if_neg (fun h2 => h h2.1)]
theorem getD_snoc (l : List Int) (v : Int) (q : Nat) : (l ++ [v]).getD q 0 = if q = l.length then v else l.getD q 0 := by
  by_cases h : q < l.length
  · rw [if_neg (by omega)]; simp [List.getD, List.getElem?_append, h]
  · by_cases h2 : q = l.length
    · subst h2; simp [List.getD]
    · rw [if_neg h2]
      have h3 : (l ++ [v])[q]? = none := List.getElem?_eq_none (by simp; omega)
      have h4 : l[q]? = none := List.getElem?_eq_none (by omega)
      simp [List.getD, h3, h4]
theorem castW_step (n : Nat) (l : List Int) (v : Int) (hl : l.length < n) (h1 : 1 ≤ v) (h8 : v ≤ 8) (hn : n ≤ 1000) :
    ((castW n l).set (1 + l.length) v).set (n + v.toNat) (IntKind.u64.wrap ((castW n l).getD (n + v.toNat) 0 + 1)) = castW n (l ++ [v]) := by
  refine getD_ext (by simp [castW_len]) fun q hq => ?_
  simp only [List.length_set, castW_len] at hq
  simp only [getD_set, List.length_set, castW_len]
  rw [castW_getD n _ hq, castW_getD n _ hq, castW_getD n _ (by omega), cnt_snoc, getD_snoc]
  have hc := cnt_le l ((n + v.toNat - n : Nat) : Int)
  rw [if_neg (by omega : ¬ n + v.toNat = 0), if_neg (by omega : ¬ n + v.toNat ≤ n), wrapU (by omega) (by omega)]
  by_cases q0 : q = 0
  · subst q0; simp; omega
  rw [if_neg q0, if_neg q0]
  by_cases q1 : q ≤ n
  · rw [if_neg (by omega), if_pos q1, if_pos q1]
    by_cases q2 : 1 + l.length = q
    · rw [if_pos ⟨q2, hq⟩, if_pos (by omega)]
    · rw [if_neg (fun h => q2 h.1), if_neg (by omega)]
  · rw [if_neg q1, if_neg q1]
    by_cases q2 : n + v.toNat = q
    · subst q2; rw [if_pos ⟨rfl, hq⟩, if_pos (by omega)]
    · rw [if_neg (fun h => q2 h.1), if_neg (by omega), if_neg (by omega)]; omega
theorem castW_step0 (n : Nat) (l : List Int) (hl : l.length < n) : (castW n l).set (1 + l.length) 0 = castW n (l ++ [0]) := by
  refine getD_ext (by simp [castW_len]) fun q hq => ?_
  simp only [List.length_set, castW_len] at hq
  simp only [getD_set, castW_len]
  rw [castW_getD n _ hq, castW_getD n _ hq, cnt_snoc, getD_snoc]
  by_cases q0 : q = 0
  · subst q0; simp
  rw [if_neg q0, if_neg q0]
  by_cases q1 : q ≤ n
  · rw [if_pos q1, if_pos q1]
    by_cases q2 : 1 + l.length = q
    · rw [if_pos ⟨q2, hq⟩, if_pos (by omega)]
    · rw [if_neg (fun h => q2 h.1), if_neg (by omega)]
  · rw [if_neg (by omega), if_neg q1, if_neg q1, if_neg (by omega)]; omega
theorem castW_nil (n : Nat) : castW n [] = List.replicate (n + 9) 0 := by
  refine getD_ext (by simp [castW_len]) fun q hq => ?_
  simp only [castW_len] at hq
  rw [castW_getD n _ hq]
  simp [cnt, List.getD, hq]
def okV (l : List Int) : Bool := l.all fun v => decide (0 ≤ v ∧ v ≤ 8)
theorem okV_snoc (l : List Int) (v : Int) : okV (l ++ [v]) = (okV l && decide (0 ≤ v ∧ v ≤ 8)) := by simp [okV]
theorem okV_at {l : List Int} {j : Nat} (hj : j < l.length) (h : ¬ (0 ≤ l.getD j 0 ∧ l.getD j 0 ≤ 8)) : okV l = false := by
  rw [List.getD_eq_getElem?_getD, List.getElem?_eq_getElem hj] at h
  unfold okV
  rw [List.all_eq_false]
  exact ⟨_, List.getElem_mem hj, by simpa using h⟩
def castS (k p n : Int) (l : List Int) : List Int × Int :=
  if fitsB k p n = true ∧ k = 5 then
    if (l.length : Int) ≤ n then if okV l = true then (castW n.toNat l, 0) else ([], 1) else ([], 1)
  else ([], 5)
noncomputable def ctxPlD (P : Program) (h : InlOk P [iParts]) : Ctx := ctx P glR [eFits, eHome] [] (noEq P) [iParts] h.mem
theorem ctxPlD_good : (ctxPlD Tryd.prog inlPlR).good := ctx_good (by kernel_rfl) (AllOk.mem ⟨eFits_ok, eHome_ok, trivial⟩) glR_two
attribute [local irreducible] fitsB
set_option maxRecDepth 100000 in
theorem castV_pure (p : Int) (n m : Nat) (l : List Int) (hf : fitsB 5 p n = true) (hm : m ≤ n) : Pure Tryd.prog glR 18 [.agg [.v (.int .i64 5), .v (.int .i64 p), .v (.int .i64 n)], .fl [.i64] m l] (.tup [.ow 0 1 (castS 5 p n l).1.length, .v (.int .i64 (castS 5 p n l).2)]) [(0, .fl [.u64] (castS 5 p n l).1)] := by
  refine pure_wf fun hw => ?_
  obtain ⟨-, ⟨w1, w2⟩, -⟩ := hw
  simp only [List.length_cons, List.length_nil, Nat.zero_add, Nat.mul_one] at w1
  have hn := (fitsB_room hf).2.2.2.2
  have hh : homeI 5 (n : Int) = 9 + n := rfl
  have e : castS 5 p n l = if okV l = true then (castW n l, 0) else ([], 1) := by unfold castS; rw [if_pos ⟨hf, rfl⟩, if_pos (by omega)]; rfl
  rw [e]; clear e
  refine pure_of (C := ctxPlD Tryd.prog inlPlR) ctxPlD_good Tryd.func18 (c := bodyOf Tryd.f18) (by rfl) (Nat.le_of_ble_eq_true (by rfl)) 4 4 [0, 1, 2, 4, 5, 6, 7, 8, 9, 10, 11, 20, 35, 36, 37, 38, 47, 54] ?_
  conv => whnf
  repeat' (first | (refine ifB_t (by assumption) ?_; conv => whnf) | (refine ifB_f (by assumption) ?_; conv => whnf) | (refine ifB_dec (fun h => ?_) (fun h => ?_) <;> (first | (exfalso; omega) | (conv => whnf))) | (refine ifB_eq (fun h => ?_) (fun h => ?_) <;> (first | (exfalso; omega) | (conv => whnf))) | (refine ifB_ne (fun h => ?_) (fun h => ?_) <;> (first | (exfalso; omega) | (conv => whnf))) | (refine ifB_not ?_; conv => whnf) | (refine ifB_and ?_; conv => whnf) | (refine ifB_or ?_; conv => whnf) | (refine And.intro ?_ ?_; (first | omega | assumption | (exact allU_getD (by assumption) _) | (simp only [cutL]; omega) | (refine And.intro ?_ ?_ <;> first | assumption | exact allU_getD (by assumption) _) | (simp only [cutL, IntKind.wrap_u64, IntKind.wrap_i64] at *; omega) | decide); conv => whnf) | (refine ifB_mk (fun h => ?_) (fun h => ?_) <;> (conv => whnf)))
  · have er : ∀ k, k = n + 9 → List.replicate k (0 : Int) = castW n (l.take 0) := fun k hk => by rw [hk]; exact (castW_nil n).symm
    rw [er _ (by simp only [mulN_eq, hh]; omega)]
    refine TW.loopD ctxPlD_good 1 (base := 0) (lv := [0, 1, 2, 4, 5, 6, 7, 8, 9, 10, 11, 20, 35, 36, 37, 38, 47, 54]) [37] [112] [(112, 112)] (fun j : Nat => [.v (.int .i64 j)]) (fun j => [.fl [.u64] (castW n (l.take j))]) (fun j => j ≤ m ∧ okV (l.take j) = true) (fun j => m - j) ?_
    conv => whnf
    refine ⟨⟨0, ⟨rfl, rfl, rfl⟩, by omega, rfl⟩, fun j ⟨hj, ht⟩ => ?_⟩
    conv => whnf
    refine ifB_dec (fun h => ?_) (fun h => ?_)
    · have ev : l.getD (0 + (j : Int).toNat * (0 + 1)) 0 = l.getD j 0 := by simp
      have e0 : (l.take j).length = j := by simp; omega
      have e1 : 0 + addN (addN (addN 0 (loN (some 1))) (loN none)) (j : Int).toNat * (0 + 1) + 0 = 1 + (l.take j).length := by simp [addN_eq, loN]; omega
      conv => whnf
      repeat' (first | (refine ifB_t (by assumption) ?_; conv => whnf) | (refine ifB_f (by assumption) ?_; conv => whnf) | (refine ifB_dec (fun h => ?_) (fun h => ?_) <;> (first | (exfalso; omega) | (conv => whnf))) | (refine ifB_eq (fun h => ?_) (fun h => ?_) <;> (first | (exfalso; omega) | (conv => whnf))) | (refine ifB_ne (fun h => ?_) (fun h => ?_) <;> (first | (exfalso; omega) | (conv => whnf))) | (refine ifB_not ?_; conv => whnf) | (refine ifB_and ?_; conv => whnf) | (refine ifB_or ?_; conv => whnf) | (refine And.intro ?_ ?_; (first | omega | assumption | (exact allU_getD (by assumption) _) | (simp only [cutL]; omega) | (refine And.intro ?_ ?_ <;> first | assumption | exact allU_getD (by assumption) _) | (simp only [cutL, IntKind.wrap_u64, IntKind.wrap_i64] at *; omega) | decide); conv => whnf) | (refine ifB_mk (fun h => ?_) (fun h => ?_) <;> (conv => whnf)))
      · have hb : okV l = false := okV_at (j := j) (by omega) (fun hq => by rw [ev] at h; omega)
        rw [if_neg (by rw [hb]; exact Bool.false_ne_true)]
        repeat' (first | exact trivial | exact rfl | (refine And.intro ?_ ?_) | ((conv => whnf); done) | ((conv => whnf); (first | rfl | (refine congrArg (fun b => T.v (Value.bool b)) ?_; first | rfl | exact (decide_eq_true (by omega)).symm | exact (decide_eq_false (by omega)).symm | exact decide_eq_decide.2 (by omega)) | (refine congrArg (fun b => T.v (Value.int _ b)) ?_; first | rfl | omega) | omega)) | (first | rfl | (refine congrArg (fun b => T.v (Value.bool b)) ?_; first | rfl | exact (decide_eq_true (by omega)).symm | exact (decide_eq_false (by omega)).symm | exact decide_eq_decide.2 (by omega)) | (refine congrArg (fun b => T.v (Value.int _ b)) ?_; first | rfl | omega) | omega))
      · have hb : okV l = false := okV_at (j := j) (by omega) (fun hq => by rw [ev] at h; omega)
        rw [if_neg (by rw [hb]; exact Bool.false_ne_true)]
        repeat' (first | exact trivial | exact rfl | (refine And.intro ?_ ?_) | ((conv => whnf); done) | ((conv => whnf); (first | rfl | (refine congrArg (fun b => T.v (Value.bool b)) ?_; first | rfl | exact (decide_eq_true (by omega)).symm | exact (decide_eq_false (by omega)).symm | exact decide_eq_decide.2 (by omega)) | (refine congrArg (fun b => T.v (Value.int _ b)) ?_; first | rfl | omega) | omega)) | (first | rfl | (refine congrArg (fun b => T.v (Value.bool b)) ?_; first | rfl | exact (decide_eq_true (by omega)).symm | exact (decide_eq_false (by omega)).symm | exact decide_eq_decide.2 (by omega)) | (refine congrArg (fun b => T.v (Value.int _ b)) ?_; first | rfl | omega) | omega))
      · rename_i g2 g3
        rw [ev] at g2 g3 h
        have e2 : IntKind.u64.wrap (l.getD j 0) = l.getD j 0 := wrapU (by omega) (by omega)
        have e3 : IntKind.i64.wrap (l.getD j 0 - 1) = l.getD j 0 - 1 := wrap64 (by omega) (by omega)
        have e4 : 0 + addN (addN (addN 0 (loN (some 1))) (loN (some (n : Int)))) (l.getD j 0 - 1).toNat * (0 + 1) = n + (l.getD j 0).toNat := by simp only [addN_eq, loN]; omega
        have e5 : 0 + addN (addN (addN 0 (loN (some 1))) (loN (some (n : Int)))) (l.getD j 0 - 1).toNat * (0 + 1) + 0 = n + (l.getD j 0).toNat := e4
        rw [wsucc (n := m) (by omega) w2, ev, e2, e3, e1, e5, e4, getD_set_ne _ (by rw [e0]; omega), castW_step _ _ _ (by rw [e0]; omega) (by omega) (by omega) (by omega), ← take_snoc (by omega)]
        refine ⟨j + 1, [(112, 112)], ⟨rfl, rfl, rfl⟩, ⟨by omega, ?_⟩, by (try dsimp only); omega⟩
        rw [take_snoc (by omega), okV_snoc, ht, Bool.true_and]
        exact decide_eq_true (by omega)
      · rename_i g2 g3
        rw [ev] at g2 g3 h
        have g4 : l.getD j 0 = 0 := by omega
        have e2 : IntKind.u64.wrap (l.getD j 0) = 0 := by rw [g4]; rfl
        rw [wsucc (n := m) (by omega) w2, ev, e2, e1, castW_step0 _ _ (by rw [e0]; omega), ← g4, ← take_snoc (by omega)]
        refine ⟨j + 1, [(112, 112)], ⟨rfl, rfl, rfl⟩, ⟨by omega, ?_⟩, by (try dsimp only); omega⟩
        rw [take_snoc (by omega), okV_snoc, ht, Bool.true_and]
        exact decide_eq_true (by omega)
    · conv => whnf
      repeat' (first | (refine ifB_t (by assumption) ?_; conv => whnf) | (refine ifB_f (by assumption) ?_; conv => whnf) | (refine ifB_dec (fun h => ?_) (fun h => ?_) <;> (first | (exfalso; omega) | (conv => whnf))) | (refine ifB_eq (fun h => ?_) (fun h => ?_) <;> (first | (exfalso; omega) | (conv => whnf))) | (refine ifB_ne (fun h => ?_) (fun h => ?_) <;> (first | (exfalso; omega) | (conv => whnf))) | (refine ifB_not ?_; conv => whnf) | (refine ifB_and ?_; conv => whnf) | (refine ifB_or ?_; conv => whnf) | (refine And.intro ?_ ?_; (first | omega | assumption | (exact allU_getD (by assumption) _) | (simp only [cutL]; omega) | (refine And.intro ?_ ?_ <;> first | assumption | exact allU_getD (by assumption) _) | (simp only [cutL, IntKind.wrap_u64, IntKind.wrap_i64] at *; omega) | decide); conv => whnf) | (refine ifB_mk (fun h => ?_) (fun h => ?_) <;> (conv => whnf)))
      have e : j = m := by omega
      rw [e, List.take_of_length_le (by omega)] at ht
      rw [if_pos ht, e, List.take_of_length_le (by omega)]
      repeat' (first | exact trivial | exact rfl | (refine And.intro ?_ ?_) | ((conv => whnf); done) | ((conv => whnf); (first | rfl | (refine congrArg (fun b => T.v (Value.bool b)) ?_; first | rfl | exact (decide_eq_true (by omega)).symm | exact (decide_eq_false (by omega)).symm | exact decide_eq_decide.2 (by omega)) | (refine congrArg (fun b => T.v (Value.int _ b)) ?_; first | rfl | omega) | omega)) | (first | rfl | (refine congrArg (fun b => T.v (Value.bool b)) ?_; first | rfl | exact (decide_eq_true (by omega)).symm | exact (decide_eq_false (by omega)).symm | exact decide_eq_decide.2 (by omega)) | (refine congrArg (fun b => T.v (Value.int _ b)) ?_; first | rfl | omega) | omega))
      show (homeI 5 (n : Int)).toNat = (castW n l).length
      rw [castW_len, hh]; omega
set_option maxRecDepth 100000 in
theorem castN_pure (k p n : Int) (m : Nat) (l : List Int) (hf : fitsB k p n = true) (h5 : k ≠ 5) : Pure Tryd.prog glR 18 [.agg [.v (.int .i64 k), .v (.int .i64 p), .v (.int .i64 n)], .fl [.i64] m l] (.tup [.ow 0 1 0, .v (.int .i64 5)]) [(0, .fl [.u64] [])] := by
  refine pure_of (C := ctxPlD Tryd.prog inlPlR) ctxPlD_good Tryd.func18 (c := bodyOf Tryd.f18) (by rfl) (Nat.le_of_ble_eq_true (by rfl)) 4 4 [0, 1, 2, 4, 5, 6, 7, 8, 9, 10, 11, 20, 35, 36, 37, 38, 47, 54] ?_
  conv => whnf
  repeat' (first | (refine ifB_t (by assumption) ?_; conv => whnf) | (refine ifB_f (by assumption) ?_; conv => whnf) | (refine ifB_dec (fun h => ?_) (fun h => ?_) <;> (first | (exfalso; omega) | (conv => whnf))) | (refine ifB_eq (fun h => ?_) (fun h => ?_) <;> (first | (exfalso; omega) | (conv => whnf))) | (refine ifB_ne (fun h => ?_) (fun h => ?_) <;> (first | (exfalso; omega) | (conv => whnf))) | (refine ifB_not ?_; conv => whnf) | (refine ifB_and ?_; conv => whnf) | (refine ifB_or ?_; conv => whnf) | (refine And.intro ?_ ?_; (first | omega | assumption | (exact allU_getD (by assumption) _) | (simp only [cutL]; omega) | (refine And.intro ?_ ?_ <;> first | assumption | exact allU_getD (by assumption) _) | (simp only [cutL, IntKind.wrap_u64, IntKind.wrap_i64] at *; omega) | decide); conv => whnf) | (refine ifB_mk (fun h => ?_) (fun h => ?_) <;> (conv => whnf)))
  repeat' (first | exact trivial | exact rfl | (refine And.intro ?_ ?_) | ((conv => whnf); done) | ((conv => whnf); (first | rfl | (refine congrArg (fun b => T.v (Value.bool b)) ?_; first | rfl | exact (decide_eq_true (by omega)).symm | exact (decide_eq_false (by omega)).symm | exact decide_eq_decide.2 (by omega)) | (refine congrArg (fun b => T.v (Value.int _ b)) ?_; first | rfl | omega) | omega)) | (first | rfl | (refine congrArg (fun b => T.v (Value.bool b)) ?_; first | rfl | exact (decide_eq_true (by omega)).symm | exact (decide_eq_false (by omega)).symm | exact decide_eq_decide.2 (by omega)) | (refine congrArg (fun b => T.v (Value.int _ b)) ?_; first | rfl | omega) | omega))
set_option maxRecDepth 100000 in
theorem castF_pure (k p n : Int) (m : Nat) (l : List Int) (hf : fitsB k p n = false) : Pure Tryd.prog glR 18 [.agg [.v (.int .i64 k), .v (.int .i64 p), .v (.int .i64 n)], .fl [.i64] m l] (.tup [.ow 0 1 0, .v (.int .i64 5)]) [(0, .fl [.u64] [])] := by
  refine pure_of (C := ctxPlD Tryd.prog inlPlR) ctxPlD_good Tryd.func18 (c := bodyOf Tryd.f18) (by rfl) (Nat.le_of_ble_eq_true (by rfl)) 4 4 [0, 1, 2, 4, 5, 6, 7, 8, 9, 10, 11, 20, 35, 36, 37, 38, 47, 54] ?_
  conv => whnf
  repeat' (first | (refine ifB_t (by assumption) ?_; conv => whnf) | (refine ifB_f (by assumption) ?_; conv => whnf) | (refine ifB_dec (fun h => ?_) (fun h => ?_) <;> (first | (exfalso; omega) | (conv => whnf))) | (refine ifB_eq (fun h => ?_) (fun h => ?_) <;> (first | (exfalso; omega) | (conv => whnf))) | (refine ifB_ne (fun h => ?_) (fun h => ?_) <;> (first | (exfalso; omega) | (conv => whnf))) | (refine ifB_not ?_; conv => whnf) | (refine ifB_and ?_; conv => whnf) | (refine ifB_or ?_; conv => whnf) | (refine And.intro ?_ ?_; (first | omega | assumption | (exact allU_getD (by assumption) _) | (simp only [cutL]; omega) | (refine And.intro ?_ ?_ <;> first | assumption | exact allU_getD (by assumption) _) | (simp only [cutL, IntKind.wrap_u64, IntKind.wrap_i64] at *; omega) | decide); conv => whnf) | (refine ifB_mk (fun h => ?_) (fun h => ?_) <;> (conv => whnf)))
  repeat' (first | exact trivial | exact rfl | (refine And.intro ?_ ?_) | ((conv => whnf); done) | ((conv => whnf); (first | rfl | (refine congrArg (fun b => T.v (Value.bool b)) ?_; first | rfl | exact (decide_eq_true (by omega)).symm | exact (decide_eq_false (by omega)).symm | exact decide_eq_decide.2 (by omega)) | (refine congrArg (fun b => T.v (Value.int _ b)) ?_; first | rfl | omega) | omega)) | (first | rfl | (refine congrArg (fun b => T.v (Value.bool b)) ?_; first | rfl | exact (decide_eq_true (by omega)).symm | exact (decide_eq_false (by omega)).symm | exact decide_eq_decide.2 (by omega)) | (refine congrArg (fun b => T.v (Value.int _ b)) ?_; first | rfl | omega) | omega))
set_option maxRecDepth 100000 in
theorem castL_pure (p n : Int) (m : Nat) (l : List Int) (hf : fitsB 5 p n = true) (hm : (m : Int) > n) : Pure Tryd.prog glR 18 [.agg [.v (.int .i64 5), .v (.int .i64 p), .v (.int .i64 n)], .fl [.i64] m l] (.tup [.ow 0 1 0, .v (.int .i64 1)]) [(0, .fl [.u64] [])] := by
  refine pure_of (C := ctxPlD Tryd.prog inlPlR) ctxPlD_good Tryd.func18 (c := bodyOf Tryd.f18) (by rfl) (Nat.le_of_ble_eq_true (by rfl)) 4 4 [0, 1, 2, 4, 5, 6, 7, 8, 9, 10, 11, 20, 35, 36, 37, 38, 47, 54] ?_
  conv => whnf
  repeat' (first | (refine ifB_t (by assumption) ?_; conv => whnf) | (refine ifB_f (by assumption) ?_; conv => whnf) | (refine ifB_dec (fun h => ?_) (fun h => ?_) <;> (first | (exfalso; omega) | (conv => whnf))) | (refine ifB_eq (fun h => ?_) (fun h => ?_) <;> (first | (exfalso; omega) | (conv => whnf))) | (refine ifB_ne (fun h => ?_) (fun h => ?_) <;> (first | (exfalso; omega) | (conv => whnf))) | (refine ifB_not ?_; conv => whnf) | (refine ifB_and ?_; conv => whnf) | (refine ifB_or ?_; conv => whnf) | (refine And.intro ?_ ?_; (first | omega | assumption | (exact allU_getD (by assumption) _) | (simp only [cutL]; omega) | (refine And.intro ?_ ?_ <;> first | assumption | exact allU_getD (by assumption) _) | (simp only [cutL, IntKind.wrap_u64, IntKind.wrap_i64] at *; omega) | decide); conv => whnf) | (refine ifB_mk (fun h => ?_) (fun h => ?_) <;> (conv => whnf)))
  repeat' (first | exact trivial | exact rfl | (refine And.intro ?_ ?_) | ((conv => whnf); done) | ((conv => whnf); (first | rfl | (refine congrArg (fun b => T.v (Value.bool b)) ?_; first | rfl | exact (decide_eq_true (by omega)).symm | exact (decide_eq_false (by omega)).symm | exact decide_eq_decide.2 (by omega)) | (refine congrArg (fun b => T.v (Value.int _ b)) ?_; first | rfl | omega) | omega)) | (first | rfl | (refine congrArg (fun b => T.v (Value.bool b)) ?_; first | rfl | exact (decide_eq_true (by omega)).symm | exact (decide_eq_false (by omega)).symm | exact decide_eq_decide.2 (by omega)) | (refine congrArg (fun b => T.v (Value.int _ b)) ?_; first | rfl | omega) | omega))
theorem cast_pure (k p n : Int) (m : Nat) (l : List Int) : Pure Tryd.prog glR 18 [.agg [.v (.int .i64 k), .v (.int .i64 p), .v (.int .i64 n)], .fl [.i64] m l] (.tup [.ow 0 1 (castS k p n l).1.length, .v (.int .i64 (castS k p n l).2)]) [(0, .fl [.u64] (castS k p n l).1)] := by
  refine pure_wf fun hw => ?_
  obtain ⟨-, ⟨w1, w2⟩, -⟩ := hw
  simp only [List.length_cons, List.length_nil, Nat.zero_add, Nat.mul_one] at w1
  cases hf : fitsB k p n
  · have e : castS k p n l = ([], 5) := by unfold castS; rw [if_neg (by rw [hf]; exact fun h => Bool.false_ne_true h.1)]
    rw [e]; exact castF_pure _ _ _ _ _ hf
  by_cases h5 : k = 5
  · subst h5
    by_cases hm : (m : Int) > n
    · have e : castS 5 p n l = ([], 1) := by unfold castS; rw [if_pos ⟨hf, rfl⟩, if_neg (by omega)]
      rw [e]; exact castL_pure _ _ _ _ hf hm
    · have hn := (fitsB_room hf).2.2.2.2
      obtain ⟨n0, rfl⟩ := Int.eq_ofNat_of_zero_le (a := n) (by omega)
      exact castV_pure _ _ _ _ hf (by omega)
  · have e : castS k p n l = ([], 5) := by unfold castS; rw [if_neg (fun h => h5 h.2)]
    rw [e]; exact castN_pure _ _ _ _ _ hf h5
def eCast : Entry := ⟨18, 3, fun l => match l with | [.agg [.v (.int .i64 k), .v (.int .i64 p), .v (.int .i64 n)], .fl [.i64] m l] => some (none, .tup [.ow 0 1 (castS k p n l).1.length, .v (.int .i64 (castS k p n l).2)], [(0, .fl [.u64] (castS k p n l).1)]) | _ => none⟩
theorem eCast_ok : eCast.ok Tryd.prog glR := ⟨enters_of Tryd.func18 (by kernel_rfl) (by kernel_rfl), by
  intro args c t bs h hc
  simp only [eCast] at h
  split at h <;> cases h
  exact cast_pure _ _ _ _ _⟩

/-! ### who has won -/
def bestN (t : List Int) : Nat → Nat
  | 0 => 0
  | i + 1 => if t.getD (bestN t i) 0 < t.getD i 0 then i else bestN t i
def tal (ys : List Int) : List Int := [0, tl ys 1, tl ys 2, tl ys 3, tl ys 4, tl ys 5, tl ys 6, tl ys 7, tl ys 8]
def winS (k p n : Int) (w : List Int) : Int × Int :=
  if fitsB k p n = true ∧ k = 5 then
    if (w.length : Int) = 9 + n ∧ rightB n.toNat w = true then (bestN (tal (votesW n.toNat w)) 9, 0) else (0, 2)
  else (0, 5)
theorem bestN_lt (t : List Int) (i : Nat) (h : 0 < i) : bestN t i < i := by
  induction i with
  | zero => omega
  | succ i ih =>
    simp only [bestN]
    split
    · omega
    · cases i with
      | zero => simp [bestN]
      | succ i => have := ih (by omega); omega
noncomputable def ctxPlW (P : Program) (h : InlOk P [iParts]) : Ctx := ctx P glR [eFits, eHome, eRight, eCounted] [] (noEq P) [iParts] h.mem
theorem ctxPlW_good : (ctxPlW Tryd.prog inlPlR).good := ctx_good (by kernel_rfl) (AllOk.mem ⟨eFits_ok, eHome_ok, eRight_ok, eCounted_ok, trivial⟩) glR_two
attribute [local irreducible] rightB
set_option maxRecDepth 100000 in
theorem winV_pure (p : Int) (n m : Nat) (w : List Int) (hf : fitsB 5 p n = true) (hx : AllU w) (hm : m = n + 9) (hr : rightB n w = true) : Pure Tryd.prog glR 21 [.agg [.v (.int .i64 5), .v (.int .i64 p), .v (.int .i64 n)], .fl [.u64] m w] (.tup [.v (.int .i64 (bestN (tal (votesW n w)) 9)), .v (.int .i64 0)]) := by
  refine pure_wf fun hw => ?_
  obtain ⟨-, ⟨w1, w2⟩, -⟩ := hw
  simp only [List.length_cons, List.length_nil, Nat.zero_add, Nat.mul_one] at w1
  have hn := (fitsB_room hf).2.2.2.2
  have hR : ∃ n0 : Nat, (n : Int) = (n0 : Int) ∧ AllU w ∧ m = n0 + 9 ∧ n0 ≤ 1000 := ⟨n, rfl, hx, hm, by omega⟩
  have hh : (m : Int) = homeI 5 n := by show (m : Int) = 9 + n; omega
  have hv : AllU (cutN (0 + 1) none (some (n : Int)) (cutN (0 + 1) (some 1) none w)) := fun x hx' => hx x (List.mem_of_mem_drop (List.mem_of_mem_take hx'))
  refine pure_of (C := ctxPlW Tryd.prog inlPlR) ctxPlW_good Tryd.func21 (c := bodyOf Tryd.f21) (by rfl) (Nat.le_of_ble_eq_true (by rfl)) 4 4 [0, 1, 2, 4, 5, 6, 8, 10, 11, 12, 21, 44, 45, 46, 53] ?_
  conv => whnf
  repeat' (first | (refine ifB_t (by assumption) ?_; conv => whnf) | (refine ifB_f (by assumption) ?_; conv => whnf) | (refine ifB_dec (fun h => ?_) (fun h => ?_) <;> (first | (exfalso; omega) | (conv => whnf))) | (refine ifB_eq (fun h => ?_) (fun h => ?_) <;> (first | (exfalso; omega) | (conv => whnf))) | (refine ifB_ne (fun h => ?_) (fun h => ?_) <;> (first | (exfalso; omega) | (conv => whnf))) | (refine ifB_not ?_; conv => whnf) | (refine ifB_and ?_; conv => whnf) | (refine ifB_or ?_; conv => whnf) | (refine And.intro ?_ ?_; (first | omega | assumption | (exact allU_getD (by assumption) _) | (simp only [cutL]; omega) | (refine And.intro ?_ ?_ <;> first | assumption | exact allU_getD (by assumption) _) | (simp only [cutL, IntKind.wrap_u64, IntKind.wrap_i64] at *; omega) | decide); conv => whnf) | (refine ifB_mk (fun h => ?_) (fun h => ?_) <;> (conv => whnf)))
  refine TW.loopD ctxPlW_good 0 (base := 0) (lv := [0, 1, 2, 4, 5, 6, 8, 10, 11, 12, 21, 44, 45, 46, 53]) [4, 44, 45] [32] [(32, 32)] (fun x : Nat × Nat => [.v (.int .i64 x.1), tallyT (votesW n w), .v (.int .i64 x.2)]) (fun x => [.fl [.u64] (tal (votesW n w))]) (fun x => x.2 ≤ 9 ∧ x.1 = bestN (tal (votesW n w)) x.2) (fun x => 9 - x.2) ?_
  conv => whnf
  refine ⟨⟨(0, 0), ⟨rfl, rfl, rfl⟩, by dsimp only; omega, rfl⟩, fun ⟨b, j⟩ ⟨hj, he⟩ => ?_⟩
  dsimp only at hj he
  conv => whnf
  have hb : b < 9 := by
    subst he
    by_cases h0 : j = 0
    · subst h0; exact (by omega : 0 < 9)
    · have := bestN_lt (tal (votesW n w)) j (by omega); omega
  refine ifB_dec (fun h => ?_) (fun h => ?_)
  · conv => whnf
    repeat' (first | (refine ifB_t (by assumption) ?_; conv => whnf) | (refine ifB_f (by assumption) ?_; conv => whnf) | (refine ifB_dec (fun h => ?_) (fun h => ?_) <;> (first | (exfalso; omega) | (conv => whnf))) | (refine ifB_eq (fun h => ?_) (fun h => ?_) <;> (first | (exfalso; omega) | (conv => whnf))) | (refine ifB_ne (fun h => ?_) (fun h => ?_) <;> (first | (exfalso; omega) | (conv => whnf))) | (refine ifB_not ?_; conv => whnf) | (refine ifB_and ?_; conv => whnf) | (refine ifB_or ?_; conv => whnf) | (refine And.intro ?_ ?_; (first | omega | assumption | (exact allU_getD (by assumption) _) | (simp only [cutL]; omega) | (refine And.intro ?_ ?_ <;> first | assumption | exact allU_getD (by assumption) _) | (simp only [cutL, IntKind.wrap_u64, IntKind.wrap_i64] at *; omega) | decide); conv => whnf) | (refine ifB_mk (fun h => ?_) (fun h => ?_) <;> (conv => whnf)))
    · replace h : (tal (votesW n w)).getD j 0 > (tal (votesW n w)).getD (0 + b * (0 + 1)) 0 := h
      rw [Nat.zero_add, Nat.zero_add, Nat.mul_one] at h
      rw [wsucc (n := 9) (by omega) (by omega)]
      refine ⟨(j, j + 1), [(32, 32)], ⟨rfl, rfl, rfl⟩, ⟨by dsimp only; omega, ?_⟩, by dsimp only; omega⟩
      simp only [bestN]; rw [← he, if_pos (by omega)]
    · replace h : ¬ (tal (votesW n w)).getD j 0 > (tal (votesW n w)).getD (0 + b * (0 + 1)) 0 := h
      rw [Nat.zero_add, Nat.zero_add, Nat.mul_one] at h
      rw [wsucc (n := 9) (by omega) (by omega)]
      refine ⟨(b, j + 1), [(32, 32)], ⟨rfl, rfl, rfl⟩, ⟨by dsimp only; omega, ?_⟩, by dsimp only; omega⟩
      simp only [bestN]; rw [← he, if_neg (by omega)]
  · conv => whnf
    have e : j = 9 := by omega
    subst e
    rw [← he]
    repeat' (first | exact trivial | exact rfl | (refine And.intro ?_ ?_) | ((conv => whnf); done) | ((conv => whnf); (first | rfl | (refine congrArg (fun b => T.v (Value.bool b)) ?_; first | rfl | exact (decide_eq_true (by omega)).symm | exact (decide_eq_false (by omega)).symm | exact decide_eq_decide.2 (by omega)) | (refine congrArg (fun b => T.v (Value.int _ b)) ?_; first | rfl | omega) | omega)) | (first | rfl | (refine congrArg (fun b => T.v (Value.bool b)) ?_; first | rfl | exact (decide_eq_true (by omega)).symm | exact (decide_eq_false (by omega)).symm | exact decide_eq_decide.2 (by omega)) | (refine congrArg (fun b => T.v (Value.int _ b)) ?_; first | rfl | omega) | omega))
set_option maxRecDepth 100000 in
theorem winX_pure (k p n : Int) (m : Nat) (w : List Int) (hf : fitsB k p n = true) (h5 : k ≠ 5) : Pure Tryd.prog glR 21 [.agg [.v (.int .i64 k), .v (.int .i64 p), .v (.int .i64 n)], .fl [.u64] m w] (.tup [.v (.int .i64 0), .v (.int .i64 5)]) := by
  refine pure_of (C := ctxPlW Tryd.prog inlPlR) ctxPlW_good Tryd.func21 (c := bodyOf Tryd.f21) (by rfl) (Nat.le_of_ble_eq_true (by rfl)) 4 4 [0, 1, 2, 4, 5, 6, 8, 10, 11, 12, 21, 44, 45, 46, 53] ?_
  conv => whnf
  repeat' (first | (refine ifB_t (by assumption) ?_; conv => whnf) | (refine ifB_f (by assumption) ?_; conv => whnf) | (refine ifB_dec (fun h => ?_) (fun h => ?_) <;> (first | (exfalso; omega) | (conv => whnf))) | (refine ifB_eq (fun h => ?_) (fun h => ?_) <;> (first | (exfalso; omega) | (conv => whnf))) | (refine ifB_ne (fun h => ?_) (fun h => ?_) <;> (first | (exfalso; omega) | (conv => whnf))) | (refine ifB_not ?_; conv => whnf) | (refine ifB_and ?_; conv => whnf) | (refine ifB_or ?_; conv => whnf) | (refine And.intro ?_ ?_; (first | omega | assumption | (exact allU_getD (by assumption) _) | (simp only [cutL]; omega) | (refine And.intro ?_ ?_ <;> first | assumption | exact allU_getD (by assumption) _) | (simp only [cutL, IntKind.wrap_u64, IntKind.wrap_i64] at *; omega) | decide); conv => whnf) | (refine ifB_mk (fun h => ?_) (fun h => ?_) <;> (conv => whnf)))
  repeat' (first | exact trivial | exact rfl | (refine And.intro ?_ ?_) | ((conv => whnf); done) | ((conv => whnf); (first | rfl | (refine congrArg (fun b => T.v (Value.bool b)) ?_; first | rfl | exact (decide_eq_true (by omega)).symm | exact (decide_eq_false (by omega)).symm | exact decide_eq_decide.2 (by omega)) | (refine congrArg (fun b => T.v (Value.int _ b)) ?_; first | rfl | omega) | omega)) | (first | rfl | (refine congrArg (fun b => T.v (Value.bool b)) ?_; first | rfl | exact (decide_eq_true (by omega)).symm | exact (decide_eq_false (by omega)).symm | exact decide_eq_decide.2 (by omega)) | (refine congrArg (fun b => T.v (Value.int _ b)) ?_; first | rfl | omega) | omega))
set_option maxRecDepth 100000 in
theorem winF_pure (k p n : Int) (m : Nat) (w : List Int) (hf : fitsB k p n = false) : Pure Tryd.prog glR 21 [.agg [.v (.int .i64 k), .v (.int .i64 p), .v (.int .i64 n)], .fl [.u64] m w] (.tup [.v (.int .i64 0), .v (.int .i64 5)]) := by
  refine pure_of (C := ctxPlW Tryd.prog inlPlR) ctxPlW_good Tryd.func21 (c := bodyOf Tryd.f21) (by rfl) (Nat.le_of_ble_eq_true (by rfl)) 4 4 [0, 1, 2, 4, 5, 6, 8, 10, 11, 12, 21, 44, 45, 46, 53] ?_
  conv => whnf
  repeat' (first | (refine ifB_t (by assumption) ?_; conv => whnf) | (refine ifB_f (by assumption) ?_; conv => whnf) | (refine ifB_dec (fun h => ?_) (fun h => ?_) <;> (first | (exfalso; omega) | (conv => whnf))) | (refine ifB_eq (fun h => ?_) (fun h => ?_) <;> (first | (exfalso; omega) | (conv => whnf))) | (refine ifB_ne (fun h => ?_) (fun h => ?_) <;> (first | (exfalso; omega) | (conv => whnf))) | (refine ifB_not ?_; conv => whnf) | (refine ifB_and ?_; conv => whnf) | (refine ifB_or ?_; conv => whnf) | (refine And.intro ?_ ?_; (first | omega | assumption | (exact allU_getD (by assumption) _) | (simp only [cutL]; omega) | (refine And.intro ?_ ?_ <;> first | assumption | exact allU_getD (by assumption) _) | (simp only [cutL, IntKind.wrap_u64, IntKind.wrap_i64] at *; omega) | decide); conv => whnf) | (refine ifB_mk (fun h => ?_) (fun h => ?_) <;> (conv => whnf)))
  repeat' (first | exact trivial | exact rfl | (refine And.intro ?_ ?_) | ((conv => whnf); done) | ((conv => whnf); (first | rfl | (refine congrArg (fun b => T.v (Value.bool b)) ?_; first | rfl | exact (decide_eq_true (by omega)).symm | exact (decide_eq_false (by omega)).symm | exact decide_eq_decide.2 (by omega)) | (refine congrArg (fun b => T.v (Value.int _ b)) ?_; first | rfl | omega) | omega)) | (first | rfl | (refine congrArg (fun b => T.v (Value.bool b)) ?_; first | rfl | exact (decide_eq_true (by omega)).symm | exact (decide_eq_false (by omega)).symm | exact decide_eq_decide.2 (by omega)) | (refine congrArg (fun b => T.v (Value.int _ b)) ?_; first | rfl | omega) | omega))
set_option maxRecDepth 100000 in
theorem winL_pure (p n : Int) (m : Nat) (w : List Int) (hf : fitsB 5 p n = true) (hm : (m : Int) ≠ homeI 5 n) : Pure Tryd.prog glR 21 [.agg [.v (.int .i64 5), .v (.int .i64 p), .v (.int .i64 n)], .fl [.u64] m w] (.tup [.v (.int .i64 0), .v (.int .i64 2)]) := by
  refine pure_of (C := ctxPlW Tryd.prog inlPlR) ctxPlW_good Tryd.func21 (c := bodyOf Tryd.f21) (by rfl) (Nat.le_of_ble_eq_true (by rfl)) 4 4 [0, 1, 2, 4, 5, 6, 8, 10, 11, 12, 21, 44, 45, 46, 53] ?_
  conv => whnf
  repeat' (first | (refine ifB_t (by assumption) ?_; conv => whnf) | (refine ifB_f (by assumption) ?_; conv => whnf) | (refine ifB_dec (fun h => ?_) (fun h => ?_) <;> (first | (exfalso; omega) | (conv => whnf))) | (refine ifB_eq (fun h => ?_) (fun h => ?_) <;> (first | (exfalso; omega) | (conv => whnf))) | (refine ifB_ne (fun h => ?_) (fun h => ?_) <;> (first | (exfalso; omega) | (conv => whnf))) | (refine ifB_not ?_; conv => whnf) | (refine ifB_and ?_; conv => whnf) | (refine ifB_or ?_; conv => whnf) | (refine And.intro ?_ ?_; (first | omega | assumption | (exact allU_getD (by assumption) _) | (simp only [cutL]; omega) | (refine And.intro ?_ ?_ <;> first | assumption | exact allU_getD (by assumption) _) | (simp only [cutL, IntKind.wrap_u64, IntKind.wrap_i64] at *; omega) | decide); conv => whnf) | (refine ifB_mk (fun h => ?_) (fun h => ?_) <;> (conv => whnf)))
  all_goals first | (exact absurd (by assumption) hm) | repeat' (first | exact trivial | exact rfl | (refine And.intro ?_ ?_) | ((conv => whnf); done) | ((conv => whnf); (first | rfl | (refine congrArg (fun b => T.v (Value.bool b)) ?_; first | rfl | exact (decide_eq_true (by omega)).symm | exact (decide_eq_false (by omega)).symm | exact decide_eq_decide.2 (by omega)) | (refine congrArg (fun b => T.v (Value.int _ b)) ?_; first | rfl | omega) | omega)) | (first | rfl | (refine congrArg (fun b => T.v (Value.bool b)) ?_; first | rfl | exact (decide_eq_true (by omega)).symm | exact (decide_eq_false (by omega)).symm | exact decide_eq_decide.2 (by omega)) | (refine congrArg (fun b => T.v (Value.int _ b)) ?_; first | rfl | omega) | omega))
set_option maxRecDepth 100000 in
theorem winR_pure (p : Int) (n m : Nat) (w : List Int) (hf : fitsB 5 p n = true) (hx : AllU w) (hm : m = n + 9) (hr : rightB n w = false) : Pure Tryd.prog glR 21 [.agg [.v (.int .i64 5), .v (.int .i64 p), .v (.int .i64 n)], .fl [.u64] m w] (.tup [.v (.int .i64 0), .v (.int .i64 2)]) := by
  have hn := (fitsB_room hf).2.2.2.2
  have hR : ∃ n0 : Nat, (n : Int) = (n0 : Int) ∧ AllU w ∧ m = n0 + 9 ∧ n0 ≤ 1000 := ⟨n, rfl, hx, hm, by omega⟩
  have hh : (m : Int) = homeI 5 n := by show (m : Int) = 9 + n; omega
  refine pure_of (C := ctxPlW Tryd.prog inlPlR) ctxPlW_good Tryd.func21 (c := bodyOf Tryd.f21) (by rfl) (Nat.le_of_ble_eq_true (by rfl)) 4 4 [0, 1, 2, 4, 5, 6, 8, 10, 11, 12, 21, 44, 45, 46, 53] ?_
  conv => whnf
  repeat' (first | (refine ifB_t (by assumption) ?_; conv => whnf) | (refine ifB_f (by assumption) ?_; conv => whnf) | (refine ifB_dec (fun h => ?_) (fun h => ?_) <;> (first | (exfalso; omega) | (conv => whnf))) | (refine ifB_eq (fun h => ?_) (fun h => ?_) <;> (first | (exfalso; omega) | (conv => whnf))) | (refine ifB_ne (fun h => ?_) (fun h => ?_) <;> (first | (exfalso; omega) | (conv => whnf))) | (refine ifB_not ?_; conv => whnf) | (refine ifB_and ?_; conv => whnf) | (refine ifB_or ?_; conv => whnf) | (refine And.intro ?_ ?_; (first | omega | assumption | (exact allU_getD (by assumption) _) | (simp only [cutL]; omega) | (refine And.intro ?_ ?_ <;> first | assumption | exact allU_getD (by assumption) _) | (simp only [cutL, IntKind.wrap_u64, IntKind.wrap_i64] at *; omega) | decide); conv => whnf) | (refine ifB_mk (fun h => ?_) (fun h => ?_) <;> (conv => whnf)))
  all_goals repeat' (first | exact trivial | exact rfl | (refine And.intro ?_ ?_) | ((conv => whnf); done) | ((conv => whnf); (first | rfl | (refine congrArg (fun b => T.v (Value.bool b)) ?_; first | rfl | exact (decide_eq_true (by omega)).symm | exact (decide_eq_false (by omega)).symm | exact decide_eq_decide.2 (by omega)) | (refine congrArg (fun b => T.v (Value.int _ b)) ?_; first | rfl | omega) | omega)) | (first | rfl | (refine congrArg (fun b => T.v (Value.bool b)) ?_; first | rfl | exact (decide_eq_true (by omega)).symm | exact (decide_eq_false (by omega)).symm | exact decide_eq_decide.2 (by omega)) | (refine congrArg (fun b => T.v (Value.int _ b)) ?_; first | rfl | omega) | omega))
theorem win_pure (k p n : Int) (m : Nat) (w : List Int) (hx : AllU w) : Pure Tryd.prog glR 21 [.agg [.v (.int .i64 k), .v (.int .i64 p), .v (.int .i64 n)], .fl [.u64] m w] (.tup [.v (.int .i64 (winS k p n w).1), .v (.int .i64 (winS k p n w).2)]) := by
  refine pure_wf fun hw => ?_
  obtain ⟨-, ⟨w1, w2⟩, -⟩ := hw
  simp only [List.length_cons, List.length_nil, Nat.zero_add, Nat.mul_one] at w1
  cases hf : fitsB k p n
  · have e : winS k p n w = (0, 5) := by unfold winS; rw [if_neg (by rw [hf]; exact fun h => Bool.false_ne_true h.1)]
    rw [e]; exact winF_pure _ _ _ _ _ hf
  by_cases h5 : k = 5
  · subst h5
    have hn := (fitsB_room hf).2.2.2.2
    obtain ⟨n0, rfl⟩ := Int.eq_ofNat_of_zero_le (a := n) (by omega)
    by_cases hm : m = n0 + 9
    · cases hr : rightB n0 w
      · have e : winS 5 p n0 w = (0, 2) := by unfold winS; rw [if_pos ⟨hf, rfl⟩, if_neg (fun h => Bool.false_ne_true (hr.symm.trans h.2))]
        rw [e]; exact winR_pure _ _ _ _ hf hx hm hr
      · have e : winS 5 p n0 w = (((bestN (tal (votesW n0 w)) 9 : Nat) : Int), (0 : Int)) := by unfold winS; rw [if_pos ⟨hf, rfl⟩, if_pos ⟨by omega, hr⟩]; rfl
        rw [e]; exact winV_pure _ _ _ _ hf hx hm hr
    · have e : winS 5 p n0 w = (0, 2) := by unfold winS; rw [if_pos ⟨hf, rfl⟩, if_neg (fun h => hm (by omega))]
      rw [e]; exact winL_pure _ _ _ _ hf (by show (m : Int) ≠ 9 + n0; omega)
  · have e : winS k p n w = (0, 5) := by unfold winS; rw [if_neg (fun h => h5 h.2)]
    rw [e]; exact winX_pure _ _ _ _ _ hf h5
def eWinner : Entry := ⟨21, 3, fun l => match l with | [.agg [.v (.int .i64 k), .v (.int .i64 p), .v (.int .i64 n)], .fl [.u64] m w] => some (some (AllU w), .tup [.v (.int .i64 (winS k p n w).1), .v (.int .i64 (winS k p n w).2)], []) | _ => none⟩
theorem eWinner_ok : eWinner.ok Tryd.prog glR := ⟨enters_of Tryd.func21 (by kernel_rfl) (by kernel_rfl), by
  intro args c t bs h hc
  simp only [eWinner] at h
  split at h <;> cases h
  replace hc := hc _ rfl
  exact win_pure _ _ _ _ _ hc⟩
end Go.Proofs.YtlcpcgdecodjfaaDoor
