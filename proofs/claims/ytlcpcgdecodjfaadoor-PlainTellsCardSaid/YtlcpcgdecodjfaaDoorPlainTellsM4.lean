/- Texts put together: PlD, PlE, PlF, PlG, PlH, RegionW, LaidR, PlI, PlL, PlM, PlN, PlO, PlP, PlQ, PlR, PlS, PlT, PlV, PlW, PlX, PlY. -/
import Derived.Test.YtlcpcgdecodjfaaDoorPlainTellsM3
import Derived.Test.YtlcpcgdecodjfaaDoorRows
import Derived.ProofKit
import Derived.LaidMore
import Derived.OpenShut
import Derived.Stop.Joined
namespace Go.Proofs.YtlcpcgdecodjfaaDoor
open Go.RowKit Go.Proofs.YtlcpcgdecodjfaaDoor.Am
set_option linter.unusedVariables false
set_option linter.unusedSimpArgs false

/-- A ballot's words behind votes. -/
def castW (n : Nat) (l : List Int) : List Int := (List.range (n + 9)).map fun q => if q = 0 then 0 else if q ≤ n then l.getD (q - 1) 0 else cnt l ((q - n : Nat) : Int)
theorem castW_len (n : Nat) (l : List Int) : (castW n l).length = n + 9 := by simp [castW]
theorem castW_getD (n : Nat) (l : List Int) {q : Nat} (hq : q < n + 9) : (castW n l).getD q 0 = if q = 0 then 0 else if q ≤ n then l.getD (q - 1) 0 else cnt l ((q - n : Nat) : Int) := by
  simp [castW, List.getD, hq]
theorem getD_ext {a b : List Int} (hl : a.length = b.length) (h : ∀ q, q < a.length → a.getD q 0 = b.getD q 0) : a = b := by
  refine List.ext_getElem hl fun q h1 h2 => ?_
  have := h q h1
  simpa [List.getD, h1, h2] using this
theorem getD_set (xs : List Int) (i j : Nat) (v : Int) : (xs.set i v).getD j 0 = if i = j ∧ j < xs.length then v else xs.getD j 0 := by
  by_cases h : i = j
  · subst h
    by_cases hi : i < xs.length
    · simp [List.getD, List.getElem?_set, hi]
    · simp [List.getD, List.getElem?_set, hi]
  · rw [getD_set_ne _ h, if_neg (fun h2 => h h2.1)]
theorem getD_snoc (l : List Int) (v : Int) (q : Nat) : (l ++ [v]).getD q 0 = if q = l.length then v else l.getD q 0 := by
  by_cases h : q < l.length
  · rw [if_neg (by omega)]; simp [List.getD, List.getElem?_append, h]
  · by_cases h2 : q = l.length
    · subst h2; simp [List.getD]
    · rw [if_neg h2]
      have h3 : (l ++ [v])[q]? = none := List.getElem?_eq_none (by simp; omega)
      have h4 : l[q]? = none := List.getElem?_eq_none (by omega)
      simp [List.getD, h3, h4]
theorem castW_step (n : Nat) (l : List Int) (v : Int) (hl : l.length < n) (h1 : 1 ≤ v) (h8 : v ≤ 8) (hn : n ≤ 1000) :
    ((castW n l).set (1 + l.length) v).set (n + v.toNat) (IntKind.u64.wrap ((castW n l).getD (n + v.toNat) 0 + 1)) = castW n (l ++ [v]) := by
  refine getD_ext (by simp [castW_len]) fun q hq => ?_
  simp only [List.length_set, castW_len] at hq
  simp only [getD_set, List.length_set, castW_len]
  rw [castW_getD n _ hq, castW_getD n _ hq, castW_getD n _ (by omega), cnt_snoc, getD_snoc]
  have hc := cnt_le l ((n + v.toNat - n : Nat) : Int)
  rw [if_neg (by omega : ¬ n + v.toNat = 0), if_neg (by omega : ¬ n + v.toNat ≤ n), wrapU (by omega) (by omega)]
  by_cases q0 : q = 0
  · subst q0; simp; omega
  rw [if_neg q0, if_neg q0]
  by_cases q1 : q ≤ n
  · rw [if_neg (by omega), if_pos q1, if_pos q1]
    by_cases q2 : 1 + l.length = q
    · rw [if_pos ⟨q2, hq⟩, if_pos (by omega)]
    · rw [if_neg (fun h => q2 h.1), if_neg (by omega)]
  · rw [if_neg q1, if_neg q1]
    by_cases q2 : n + v.toNat = q
    · subst q2; rw [if_pos ⟨rfl, hq⟩, if_pos (by omega)]
    · rw [if_neg (fun h => q2 h.1), if_neg (by omega), if_neg (by omega)]; omega
theorem castW_step0 (n : Nat) (l : List Int) (hl : l.length < n) : (castW n l).set (1 + l.length) 0 = castW n (l ++ [0]) := by
  refine getD_ext (by simp [castW_len]) fun q hq => ?_
  simp only [List.length_set, castW_len] at hq
  simp only [getD_set, castW_len]
  rw [castW_getD n _ hq, castW_getD n _ hq, cnt_snoc, getD_snoc]
  by_cases q0 : q = 0
  · subst q0; simp
  rw [if_neg q0, if_neg q0]
  by_cases q1 : q ≤ n
  · rw [if_pos q1, if_pos q1]
    by_cases q2 : 1 + l.length = q
    · rw [if_pos ⟨q2, hq⟩, if_pos (by omega)]
    · rw [if_neg (fun h => q2 h.1), if_neg (by omega)]
  · rw [if_neg (by omega), if_neg q1, if_neg q1, if_neg (by omega)]; omega
theorem castW_nil (n : Nat) : castW n [] = List.replicate (n + 9) 0 := by
  refine getD_ext (by simp [castW_len]) fun q hq => ?_
  simp only [castW_len] at hq
  rw [castW_getD n _ hq]
  simp [cnt, List.getD, hq]
def okV (l : List Int) : Bool := l.all fun v => decide (0 ≤ v ∧ v ≤ 8)
theorem okV_snoc (l : List Int) (v : Int) : okV (l ++ [v]) = (okV l && decide (0 ≤ v ∧ v ≤ 8)) := by simp [okV]
theorem okV_at {l : List Int} {j : Nat} (hj : j < l.length) (h : ¬ (0 ≤ l.getD j 0 ∧ l.getD j 0 ≤ 8)) : okV l = false := by
  rw [List.getD_eq_getElem?_getD, List.getElem?_eq_getElem hj] at h
  unfold okV
  rw [List.all_eq_false]
  exact ⟨_, List.getElem_mem hj, by simpa using h⟩
def castS (k p n : Int) (l : List Int) : List Int × Int :=
  if fitsB k p n = true ∧ k = 5 then
    if (l.length : Int) ≤ n then if okV l = true then (castW n.toNat l, 0) else ([], 1) else ([], 1)
  else ([], 5)
noncomputable def ctxPlD (P : Program) (h : InlOk P [iParts]) : Ctx := ctx P glR [eFits, eHome] [] (noEq P) [iParts] h.mem
theorem ctxPlD_good : (ctxPlD Tryd.prog inlPlR).good := ctx_good (by kernel_rfl) (AllOk.mem ⟨eFits_ok, eHome_ok, trivial⟩) glR_two
attribute [local irreducible] fitsB
set_option maxRecDepth 100000 in
theorem castV_pure (p : Int) (n m : Nat) (l : List Int) (hf : fitsB 5 p n = true) (hm : m ≤ n) : Pure Tryd.prog glR 18 [.agg [.v (.int .i64 5), .v (.int .i64 p), .v (.int .i64 n)], .fl [.i64] m l] (.tup [.ow 0 1 (castS 5 p n l).1.length, .v (.int .i64 (castS 5 p n l).2)]) [(0, .fl [.u64] (castS 5 p n l).1)] := by
  refine pure_wf fun hw => ?_
  obtain ⟨-, ⟨w1, w2⟩, -⟩ := hw
  simp only [List.length_cons, List.length_nil, Nat.zero_add, Nat.mul_one] at w1
  have hn := (fitsB_room hf).2.2.2.2
  have hh : homeI 5 (n : Int) = 9 + n := rfl
  have e : castS 5 p n l = if okV l = true then (castW n l, 0) else ([], 1) := by unfold castS; rw [if_pos ⟨hf, rfl⟩, if_pos (by omega)]; rfl
  rw [e]; clear e
  refine pure_of (C := ctxPlD Tryd.prog inlPlR) ctxPlD_good Tryd.func18 (c := bodyOf Tryd.f18) (by rfl) (Nat.le_of_ble_eq_true (by rfl)) 4 4 [0, 1, 2, 4, 5, 6, 7, 8, 9, 10, 11, 20, 35, 36, 37, 38, 47, 54] ?_
  conv => whnf
  repeat' (first | (refine ifB_t (by assumption) ?_; conv => whnf) | (refine ifB_f (by assumption) ?_; conv => whnf) | (refine ifB_dec (fun h => ?_) (fun h => ?_) <;> (first | (exfalso; omega) | (conv => whnf))) | (refine ifB_eq (fun h => ?_) (fun h => ?_) <;> (first | (exfalso; omega) | (conv => whnf))) | (refine ifB_ne (fun h => ?_) (fun h => ?_) <;> (first | (exfalso; omega) | (conv => whnf))) | (refine ifB_not ?_; conv => whnf) | (refine ifB_and ?_; conv => whnf) | (refine ifB_or ?_; conv => whnf) | (refine And.intro ?_ ?_; (first | omega | assumption | (exact allU_getD (by assumption) _) | (simp only [cutL]; omega) | (refine And.intro ?_ ?_ <;> first | assumption | exact allU_getD (by assumption) _) | (simp only [cutL, IntKind.wrap_u64, IntKind.wrap_i64] at *; omega) | decide); conv => whnf) | (refine ifB_mk (fun h => ?_) (fun h => ?_) <;> (conv => whnf)))
  · have er : ∀ k, k = n + 9 → List.replicate k (0 : Int) = castW n (l.take 0) := fun k hk => by rw [hk]; exact (castW_nil n).symm
    rw [er _ (by simp only [mulN_eq, hh]; omega)]
    refine TW.loopD ctxPlD_good 1 (base := 0) (lv := [0, 1, 2, 4, 5, 6, 7, 8, 9, 10, 11, 20, 35, 36, 37, 38, 47, 54]) [37] [112] [(112, 112)] (fun j : Nat => [.v (.int .i64 j)]) (fun j => [.fl [.u64] (castW n (l.take j))]) (fun j => j ≤ m ∧ okV (l.take j) = true) (fun j => m - j) ?_
    conv => whnf
    refine ⟨⟨0, ⟨rfl, rfl, rfl⟩, by omega, rfl⟩, fun j ⟨hj, ht⟩ => ?_⟩
    conv => whnf
    refine ifB_dec (fun h => ?_) (fun h => ?_)
    · have ev : l.getD (0 + (j : Int).toNat * (0 + 1)) 0 = l.getD j 0 := by simp
      have e0 : (l.take j).length = j := by simp; omega
      have e1 : 0 + addN (addN (addN 0 (loN (some 1))) (loN none)) (j : Int).toNat * (0 + 1) + 0 = 1 + (l.take j).length := by simp [addN_eq, loN]; omega
      conv => whnf
      repeat' (first | (refine ifB_t (by assumption) ?_; conv => whnf) | (refine ifB_f (by assumption) ?_; conv => whnf) | (refine ifB_dec (fun h => ?_) (fun h => ?_) <;> (first | (exfalso; omega) | (conv => whnf))) | (refine ifB_eq (fun h => ?_) (fun h => ?_) <;> (first | (exfalso; omega) | (conv => whnf))) | (refine ifB_ne (fun h => ?_) (fun h => ?_) <;> (first | (exfalso; omega) | (conv => whnf))) | (refine ifB_not ?_; conv => whnf) | (refine ifB_and ?_; conv => whnf) | (refine ifB_or ?_; conv => whnf) | (refine And.intro ?_ ?_; (first | omega | assumption | (exact allU_getD (by assumption) _) | (simp only [cutL]; omega) | (refine And.intro ?_ ?_ <;> first | assumption | exact allU_getD (by assumption) _) | (simp only [cutL, IntKind.wrap_u64, IntKind.wrap_i64] at *; omega) | decide); conv => whnf) | (refine ifB_mk (fun h => ?_) (fun h => ?_) <;> (conv => whnf)))
      · have hb : okV l = false := okV_at (j := j) (by omega) (fun hq => by rw [ev] at h; omega)
        rw [if_neg (by rw [hb]; exact Bool.false_ne_true)]
        repeat' (first | exact trivial | exact rfl | (refine And.intro ?_ ?_) | ((conv => whnf); done) | ((conv => whnf); (first | rfl | (refine congrArg (fun b => T.v (Value.bool b)) ?_; first | rfl | exact (decide_eq_true (by omega)).symm | exact (decide_eq_false (by omega)).symm | exact decide_eq_decide.2 (by omega)) | (refine congrArg (fun b => T.v (Value.int _ b)) ?_; first | rfl | omega) | omega)) | (first | rfl | (refine congrArg (fun b => T.v (Value.bool b)) ?_; first | rfl | exact (decide_eq_true (by omega)).symm | exact (decide_eq_false (by omega)).symm | exact decide_eq_decide.2 (by omega)) | (refine congrArg (fun b => T.v (Value.int _ b)) ?_; first | rfl | omega) | omega))
      · have hb : okV l = false := okV_at (j := j) (by omega) (fun hq => by rw [ev] at h; omega)
        rw [if_neg (by rw [hb]; exact Bool.false_ne_true)]
        repeat' (first | exact trivial | exact rfl | (refine And.intro ?_ ?_) | ((conv => whnf); done) | ((conv => whnf); (first | rfl | (refine congrArg (fun b => T.v (Value.bool b)) ?_; first | rfl | exact (decide_eq_true (by omega)).symm | exact (decide_eq_false (by omega)).symm | exact decide_eq_decide.2 (by omega)) | (refine congrArg (fun b => T.v (Value.int _ b)) ?_; first | rfl | omega) | omega)) | (first | rfl | (refine congrArg (fun b => T.v (Value.bool b)) ?_; first | rfl | exact (decide_eq_true (by omega)).symm | exact (decide_eq_false (by omega)).symm | exact decide_eq_decide.2 (by omega)) | (refine congrArg (fun b => T.v (Value.int _ b)) ?_; first | rfl | omega) | omega))
      · rename_i g2 g3
        rw [ev] at g2 g3 h
        have e2 : IntKind.u64.wrap (l.getD j 0) = l.getD j 0 := wrapU (by omega) (by omega)
        have e3 : IntKind.i64.wrap (l.getD j 0 - 1) = l.getD j 0 - 1 := wrap64 (by omega) (by omega)
        have e4 : 0 + addN (addN (addN 0 (loN (some 1))) (loN (some (n : Int)))) (l.getD j 0 - 1).toNat * (0 + 1) = n + (l.getD j 0).toNat := by simp only [addN_eq, loN]; omega
        have e5 : 0 + addN (addN (addN 0 (loN (some 1))) (loN (some (n : Int)))) (l.getD j 0 - 1).toNat * (0 + 1) + 0 = n + (l.getD j 0).toNat := e4
        rw [wsucc (n := m) (by omega) w2, ev, e2, e3, e1, e5, e4, getD_set_ne _ (by rw [e0]; omega), castW_step _ _ _ (by rw [e0]; omega) (by omega) (by omega) (by omega), ← take_snoc (by omega)]
        refine ⟨j + 1, [(112, 112)], ⟨rfl, rfl, rfl⟩, ⟨by omega, ?_⟩, by (try dsimp only); omega⟩
        rw [take_snoc (by omega), okV_snoc, ht, Bool.true_and]
        exact decide_eq_true (by omega)
      · rename_i g2 g3
        rw [ev] at g2 g3 h
        have g4 : l.getD j 0 = 0 := by omega
        have e2 : IntKind.u64.wrap (l.getD j 0) = 0 := by rw [g4]; rfl
        rw [wsucc (n := m) (by omega) w2, ev, e2, e1, castW_step0 _ _ (by rw [e0]; omega), ← g4, ← take_snoc (by omega)]
        refine ⟨j + 1, [(112, 112)], ⟨rfl, rfl, rfl⟩, ⟨by omega, ?_⟩, by (try dsimp only); omega⟩
        rw [take_snoc (by omega), okV_snoc, ht, Bool.true_and]
        exact decide_eq_true (by omega)
    · conv => whnf
      repeat' (first | (refine ifB_t (by assumption) ?_; conv => whnf) | (refine ifB_f (by assumption) ?_; conv => whnf) | (refine ifB_dec (fun h => ?_) (fun h => ?_) <;> (first | (exfalso; omega) | (conv => whnf))) | (refine ifB_eq (fun h => ?_) (fun h => ?_) <;> (first | (exfalso; omega) | (conv => whnf))) | (refine ifB_ne (fun h => ?_) (fun h => ?_) <;> (first | (exfalso; omega) | (conv => whnf))) | (refine ifB_not ?_; conv => whnf) | (refine ifB_and ?_; conv => whnf) | (refine ifB_or ?_; conv => whnf) | (refine And.intro ?_ ?_; (first | omega | assumption | (exact allU_getD (by assumption) _) | (simp only [cutL]; omega) | (refine And.intro ?_ ?_ <;> first | assumption | exact allU_getD (by assumption) _) | (simp only [cutL, IntKind.wrap_u64, IntKind.wrap_i64] at *; omega) | decide); conv => whnf) | (refine ifB_mk (fun h => ?_) (fun h => ?_) <;> (conv => whnf)))
      have e : j = m := by omega
      rw [e, List.take_of_length_le (by omega)] at ht
      rw [if_pos ht, e, List.take_of_length_le (by omega)]
      repeat' (first | exact trivial | exact rfl | (refine And.intro ?_ ?_) | ((conv => whnf); done) | ((conv => whnf); (first | rfl | (refine congrArg (fun b => T.v (Value.bool b)) ?_; first | rfl | exact (decide_eq_true (by omega)).symm | exact (decide_eq_false (by omega)).symm | exact decide_eq_decide.2 (by omega)) | (refine congrArg (fun b => T.v (Value.int _ b)) ?_; first | rfl | omega) | omega)) | (first | rfl | (refine congrArg (fun b => T.v (Value.bool b)) ?_; first | rfl | exact (decide_eq_true (by omega)).symm | exact (decide_eq_false (by omega)).symm | exact decide_eq_decide.2 (by omega)) | (refine congrArg (fun b => T.v (Value.int _ b)) ?_; first | rfl | omega) | omega))
      show (homeI 5 (n : Int)).toNat = (castW n l).length
      rw [castW_len, hh]; omega
set_option maxRecDepth 100000 in
theorem castN_pure (k p n : Int) (m : Nat) (l : List Int) (hf : fitsB k p n = true) (h5 : k ≠ 5) : Pure Tryd.prog glR 18 [.agg [.v (.int .i64 k), .v (.int .i64 p), .v (.int .i64 n)], .fl [.i64] m l] (.tup [.ow 0 1 0, .v (.int .i64 5)]) [(0, .fl [.u64] [])] := by
  refine pure_of (C := ctxPlD Tryd.prog inlPlR) ctxPlD_good Tryd.func18 (c := bodyOf Tryd.f18) (by rfl) (Nat.le_of_ble_eq_true (by rfl)) 4 4 [0, 1, 2, 4, 5, 6, 7, 8, 9, 10, 11, 20, 35, 36, 37, 38, 47, 54] ?_
  conv => whnf
  repeat' (first | (refine ifB_t (by assumption) ?_; conv => whnf) | (refine ifB_f (by assumption) ?_; conv => whnf) | (refine ifB_dec (fun h => ?_) (fun h => ?_) <;> (first | (exfalso; omega) | (conv => whnf))) | (refine ifB_eq (fun h => ?_) (fun h => ?_) <;> (first | (exfalso; omega) | (conv => whnf))) | (refine ifB_ne (fun h => ?_) (fun h => ?_) <;> (first | (exfalso; omega) | (conv => whnf))) | (refine ifB_not ?_; conv => whnf) | (refine ifB_and ?_; conv => whnf) | (refine ifB_or ?_; conv => whnf) | (refine And.intro ?_ ?_; (first | omega | assumption | (exact allU_getD (by assumption) _) | (simp only [cutL]; omega) | (refine And.intro ?_ ?_ <;> first | assumption | exact allU_getD (by assumption) _) | (simp only [cutL, IntKind.wrap_u64, IntKind.wrap_i64] at *; omega) | decide); conv => whnf) | (refine ifB_mk (fun h => ?_) (fun h => ?_) <;> (conv => whnf)))
  repeat' (first | exact trivial | exact rfl | (refine And.intro ?_ ?_) | ((conv => whnf); done) | ((conv => whnf); (first | rfl | (refine congrArg (fun b => T.v (Value.bool b)) ?_; first | rfl | exact (decide_eq_true (by omega)).symm | exact (decide_eq_false (by omega)).symm | exact decide_eq_decide.2 (by omega)) | (refine congrArg (fun b => T.v (Value.int _ b)) ?_; first | rfl | omega) | omega)) | (first | rfl | (refine congrArg (fun b => T.v (Value.bool b)) ?_; first | rfl | exact (decide_eq_true (by omega)).symm | exact (decide_eq_false (by omega)).symm | exact decide_eq_decide.2 (by omega)) | (refine congrArg (fun b => T.v (Value.int _ b)) ?_; first | rfl | omega) | omega))
set_option maxRecDepth 100000 in
theorem castF_pure (k p n : Int) (m : Nat) (l : List Int) (hf : fitsB k p n = false) : Pure Tryd.prog glR 18 [.agg [.v (.int .i64 k), .v (.int .i64 p), .v (.int .i64 n)], .fl [.i64] m l] (.tup [.ow 0 1 0, .v (.int .i64 5)]) [(0, .fl [.u64] [])] := by
  refine pure_of (C := ctxPlD Tryd.prog inlPlR) ctxPlD_good Tryd.func18 (c := bodyOf Tryd.f18) (by rfl) (Nat.le_of_ble_eq_true (by rfl)) 4 4 [0, 1, 2, 4, 5, 6, 7, 8, 9, 10, 11, 20, 35, 36, 37, 38, 47, 54] ?_
  conv => whnf
  repeat' (first | (refine ifB_t (by assumption) ?_; conv => whnf) | (refine ifB_f (by assumption) ?_; conv => whnf) | (refine ifB_dec (fun h => ?_) (fun h => ?_) <;> (first | (exfalso; omega) | (conv => whnf))) | (refine ifB_eq (fun h => ?_) (fun h => ?_) <;> (first | (exfalso; omega) | (conv => whnf))) | (refine ifB_ne (fun h => ?_) (fun h => ?_) <;> (first | (exfalso; omega) | (conv => whnf))) | (refine ifB_not ?_; conv => whnf) | (refine ifB_and ?_; conv => whnf) | (refine ifB_or ?_; conv => whnf) | (refine And.intro ?_ ?_; (first | omega | assumption | (exact allU_getD (by assumption) _) | (simp only [cutL]; omega) | (refine And.intro ?_ ?_ <;> first | assumption | exact allU_getD (by assumption) _) | (simp only [cutL, IntKind.wrap_u64, IntKind.wrap_i64] at *; omega) | decide); conv => whnf) | (refine ifB_mk (fun h => ?_) (fun h => ?_) <;> (conv => whnf)))
  repeat' (first | exact trivial | exact rfl | (refine And.intro ?_ ?_) | ((conv => whnf); done) | ((conv => whnf); (first | rfl | (refine congrArg (fun b => T.v (Value.bool b)) ?_; first | rfl | exact (decide_eq_true (by omega)).symm | exact (decide_eq_false (by omega)).symm | exact decide_eq_decide.2 (by omega)) | (refine congrArg (fun b => T.v (Value.int _ b)) ?_; first | rfl | omega) | omega)) | (first | rfl | (refine congrArg (fun b => T.v (Value.bool b)) ?_; first | rfl | exact (decide_eq_true (by omega)).symm | exact (decide_eq_false (by omega)).symm | exact decide_eq_decide.2 (by omega)) | (refine congrArg (fun b => T.v (Value.int _ b)) ?_; first | rfl | omega) | omega))
set_option maxRecDepth 100000 in
theorem castL_pure (p n : Int) (m : Nat) (l : List Int) (hf : fitsB 5 p n = true) (hm : (m : Int) > n) : Pure Tryd.prog glR 18 [.agg [.v (.int .i64 5), .v (.int .i64 p), .v (.int .i64 n)], .fl [.i64] m l] (.tup [.ow 0 1 0, .v (.int .i64 1)]) [(0, .fl [.u64] [])] := by
  refine pure_of (C := ctxPlD Tryd.prog inlPlR) ctxPlD_good Tryd.func18 (c := bodyOf Tryd.f18) (by rfl) (Nat.le_of_ble_eq_true (by rfl)) 4 4 [0, 1, 2, 4, 5, 6, 7, 8, 9, 10, 11, 20, 35, 36, 37, 38, 47, 54] ?_
  conv => whnf
  repeat' (first | (refine ifB_t (by assumption) ?_; conv => whnf) | (refine ifB_f (by assumption) ?_; conv => whnf) | (refine ifB_dec (fun h => ?_) (fun h => ?_) <;> (first | (exfalso; omega) | (conv => whnf))) | (refine ifB_eq (fun h => ?_) (fun h => ?_) <;> (first | (exfalso; omega) | (conv => whnf))) | (refine ifB_ne (fun h => ?_) (fun h => ?_) <;> (first | (exfalso; omega) | (conv => whnf))) | (refine ifB_not ?_; conv => whnf) | (refine ifB_and ?_; conv => whnf) | (refine ifB_or ?_; conv => whnf) | (refine And.intro ?_ ?_; (first | omega | assumption | (exact allU_getD (by assumption) _) | (simp only [cutL]; omega) | (refine And.intro ?_ ?_ <;> first | assumption | exact allU_getD (by assumption) _) | (simp only [cutL, IntKind.wrap_u64, IntKind.wrap_i64] at *; omega) | decide); conv => whnf) | (refine ifB_mk (fun h => ?_) (fun h => ?_) <;> (conv => whnf)))
  repeat' (first | exact trivial | exact rfl | (refine And.intro ?_ ?_) | ((conv => whnf); done) | ((conv => whnf); (first | rfl | (refine congrArg (fun b => T.v (Value.bool b)) ?_; first | rfl | exact (decide_eq_true (by omega)).symm | exact (decide_eq_false (by omega)).symm | exact decide_eq_decide.2 (by omega)) | (refine congrArg (fun b => T.v (Value.int _ b)) ?_; first | rfl | omega) | omega)) | (first | rfl | (refine congrArg (fun b => T.v (Value.bool b)) ?_; first | rfl | exact (decide_eq_true (by omega)).symm | exact (decide_eq_false (by omega)).symm | exact decide_eq_decide.2 (by omega)) | (refine congrArg (fun b => T.v (Value.int _ b)) ?_; first | rfl | omega) | omega))
theorem cast_pure (k p n : Int) (m : Nat) (l : List Int) : Pure Tryd.prog glR 18 [.agg [.v (.int .i64 k), .v (.int .i64 p), .v (.int .i64 n)], .fl [.i64] m l] (.tup [.ow 0 1 (castS k p n l).1.length, .v (.int .i64 (castS k p n l).2)]) [(0, .fl [.u64] (castS k p n l).1)] := by
  refine pure_wf fun hw => ?_
  obtain ⟨-, ⟨w1, w2⟩, -⟩ := hw
  simp only [List.length_cons, List.length_nil, Nat.zero_add, Nat.mul_one] at w1
  cases hf : fitsB k p n
  · have e : castS k p n l = ([], 5) := by unfold castS; rw [if_neg (by rw [hf]; exact fun h => Bool.false_ne_true h.1)]
    rw [e]; exact castF_pure _ _ _ _ _ hf
  by_cases h5 : k = 5
  · subst h5
    by_cases hm : (m : Int) > n
    · have e : castS 5 p n l = ([], 1) := by unfold castS; rw [if_pos ⟨hf, rfl⟩, if_neg (by omega)]
      rw [e]; exact castL_pure _ _ _ _ hf hm
    · have hn := (fitsB_room hf).2.2.2.2
      obtain ⟨n0, rfl⟩ := Int.eq_ofNat_of_zero_le (a := n) (by omega)
      exact castV_pure _ _ _ _ hf (by omega)
  · have e : castS k p n l = ([], 5) := by unfold castS; rw [if_neg (fun h => h5 h.2)]
    rw [e]; exact castN_pure _ _ _ _ _ hf h5
def eCast : Entry := ⟨18, 3, fun l => match l with | [.agg [.v (.int .i64 k), .v (.int .i64 p), .v (.int .i64 n)], .fl [.i64] m l] => some (none, .tup [.ow 0 1 (castS k p n l).1.length, .v (.int .i64 (castS k p n l).2)], [(0, .fl [.u64] (castS k p n l).1)]) | _ => none⟩
theorem eCast_ok : eCast.ok Tryd.prog glR := ⟨enters_of Tryd.func18 (by kernel_rfl) (by kernel_rfl), by
  intro args c t bs h hc
  simp only [eCast] at h
  split at h <;> cases h
  exact cast_pure _ _ _ _ _⟩

/-! ### who has won -/
def bestN (t : List Int) : Nat → Nat
  | 0 => 0
  | i + 1 => if t.getD (bestN t i) 0 < t.getD i 0 then i else bestN t i
def tal (ys : List Int) : List Int := [0, tl ys 1, tl ys 2, tl ys 3, tl ys 4, tl ys 5, tl ys 6, tl ys 7, tl ys 8]
def winS (k p n : Int) (w : List Int) : Int × Int :=
  if fitsB k p n = true ∧ k = 5 then
    if (w.length : Int) = 9 + n ∧ rightB n.toNat w = true then (bestN (tal (votesW n.toNat w)) 9, 0) else (0, 2)
  else (0, 5)
theorem bestN_lt (t : List Int) (i : Nat) (h : 0 < i) : bestN t i < i := by
  induction i with
  | zero => omega
  | succ i ih =>
    simp only [bestN]
    split
    · omega
    · cases i with
      | zero => simp [bestN]
      | succ i => have := ih (by omega); omega
noncomputable def ctxPlW (P : Program) (h : InlOk P [iParts]) : Ctx := ctx P glR [eFits, eHome, eRight, eCounted] [] (noEq P) [iParts] h.mem
theorem ctxPlW_good : (ctxPlW Tryd.prog inlPlR).good := ctx_good (by kernel_rfl) (AllOk.mem ⟨eFits_ok, eHome_ok, eRight_ok, eCounted_ok, trivial⟩) glR_two
attribute [local irreducible] rightB
set_option maxRecDepth 100000 in
theorem winV_pure (p : Int) (n m : Nat) (w : List Int) (hf : fitsB 5 p n = true) (hx : AllU w) (hm : m = n + 9) (hr : rightB n w = true) : Pure Tryd.prog glR 21 [.agg [.v (.int .i64 5), .v (.int .i64 p), .v (.int .i64 n)], .fl [.u64] m w] (.tup [.v (.int .i64 (bestN (tal (votesW n w)) 9)), .v (.int .i64 0)]) := by
  refine pure_wf fun hw => ?_
  obtain ⟨-, ⟨w1, w2⟩, -⟩ := hw
  simp only [List.length_cons, List.length_nil, Nat.zero_add, Nat.mul_one] at w1
  have hn := (fitsB_room hf).2.2.2.2
  have hR : ∃ n0 : Nat, (n : Int) = (n0 : Int) ∧ AllU w ∧ m = n0 + 9 ∧ n0 ≤ 1000 := ⟨n, rfl, hx, hm, by omega⟩
  have hh : (m : Int) = homeI 5 n := by show (m : Int) = 9 + n; omega
  have hv : AllU (cutN (0 + 1) none (some (n : Int)) (cutN (0 + 1) (some 1) none w)) := fun x hx' => hx x (List.mem_of_mem_drop (List.mem_of_mem_take hx'))
  refine pure_of (C := ctxPlW Tryd.prog inlPlR) ctxPlW_good Tryd.func21 (c := bodyOf Tryd.f21) (by rfl) (Nat.le_of_ble_eq_true (by rfl)) 4 4 [0, 1, 2, 4, 5, 6, 8, 10, 11, 12, 21, 44, 45, 46, 53] ?_
  conv => whnf
  repeat' (first | (refine ifB_t (by assumption) ?_; conv => whnf) | (refine ifB_f (by assumption) ?_; conv => whnf) | (refine ifB_dec (fun h => ?_) (fun h => ?_) <;> (first | (exfalso; omega) | (conv => whnf))) | (refine ifB_eq (fun h => ?_) (fun h => ?_) <;> (first | (exfalso; omega) | (conv => whnf))) | (refine ifB_ne (fun h => ?_) (fun h => ?_) <;> (first | (exfalso; omega) | (conv => whnf))) | (refine ifB_not ?_; conv => whnf) | (refine ifB_and ?_; conv => whnf) | (refine ifB_or ?_; conv => whnf) | (refine And.intro ?_ ?_; (first | omega | assumption | (exact allU_getD (by assumption) _) | (simp only [cutL]; omega) | (refine And.intro ?_ ?_ <;> first | assumption | exact allU_getD (by assumption) _) | (simp only [cutL, IntKind.wrap_u64, IntKind.wrap_i64] at *; omega) | decide); conv => whnf) | (refine ifB_mk (fun h => ?_) (fun h => ?_) <;> (conv => whnf)))
  refine TW.loopD ctxPlW_good 0 (base := 0) (lv := [0, 1, 2, 4, 5, 6, 8, 10, 11, 12, 21, 44, 45, 46, 53]) [4, 44, 45] [32] [(32, 32)] (fun x : Nat × Nat => [.v (.int .i64 x.1), tallyT (votesW n w), .v (.int .i64 x.2)]) (fun x => [.fl [.u64] (tal (votesW n w))]) (fun x => x.2 ≤ 9 ∧ x.1 = bestN (tal (votesW n w)) x.2) (fun x => 9 - x.2) ?_
  conv => whnf
  refine ⟨⟨(0, 0), ⟨rfl, rfl, rfl⟩, by dsimp only; omega, rfl⟩, fun ⟨b, j⟩ ⟨hj, he⟩ => ?_⟩
  dsimp only at hj he
  conv => whnf
  have hb : b < 9 := by
    subst he
    by_cases h0 : j = 0
    · subst h0; exact (by omega : 0 < 9)
    · have := bestN_lt (tal (votesW n w)) j (by omega); omega
  refine ifB_dec (fun h => ?_) (fun h => ?_)
  · conv => whnf
    repeat' (first | (refine ifB_t (by assumption) ?_; conv => whnf) | (refine ifB_f (by assumption) ?_; conv => whnf) | (refine ifB_dec (fun h => ?_) (fun h => ?_) <;> (first | (exfalso; omega) | (conv => whnf))) | (refine ifB_eq (fun h => ?_) (fun h => ?_) <;> (first | (exfalso; omega) | (conv => whnf))) | (refine ifB_ne (fun h => ?_) (fun h => ?_) <;> (first | (exfalso; omega) | (conv => whnf))) | (refine ifB_not ?_; conv => whnf) | (refine ifB_and ?_; conv => whnf) | (refine ifB_or ?_; conv => whnf) | (refine And.intro ?_ ?_; (first | omega | assumption | (exact allU_getD (by assumption) _) | (simp only [cutL]; omega) | (refine And.intro ?_ ?_ <;> first | assumption | exact allU_getD (by assumption) _) | (simp only [cutL, IntKind.wrap_u64, IntKind.wrap_i64] at *; omega) | decide); conv => whnf) | (refine ifB_mk (fun h => ?_) (fun h => ?_) <;> (conv => whnf)))
    · replace h : (tal (votesW n w)).getD j 0 > (tal (votesW n w)).getD (0 + b * (0 + 1)) 0 := h
      rw [Nat.zero_add, Nat.zero_add, Nat.mul_one] at h
      rw [wsucc (n := 9) (by omega) (by omega)]
      refine ⟨(j, j + 1), [(32, 32)], ⟨rfl, rfl, rfl⟩, ⟨by dsimp only; omega, ?_⟩, by dsimp only; omega⟩
      simp only [bestN]; rw [← he, if_pos (by omega)]
    · replace h : ¬ (tal (votesW n w)).getD j 0 > (tal (votesW n w)).getD (0 + b * (0 + 1)) 0 := h
      rw [Nat.zero_add, Nat.zero_add, Nat.mul_one] at h
      rw [wsucc (n := 9) (by omega) (by omega)]
      refine ⟨(b, j + 1), [(32, 32)], ⟨rfl, rfl, rfl⟩, ⟨by dsimp only; omega, ?_⟩, by dsimp only; omega⟩
      simp only [bestN]; rw [← he, if_neg (by omega)]
  · conv => whnf
    have e : j = 9 := by omega
    subst e
    rw [← he]
    repeat' (first | exact trivial | exact rfl | (refine And.intro ?_ ?_) | ((conv => whnf); done) | ((conv => whnf); (first | rfl | (refine congrArg (fun b => T.v (Value.bool b)) ?_; first | rfl | exact (decide_eq_true (by omega)).symm | exact (decide_eq_false (by omega)).symm | exact decide_eq_decide.2 (by omega)) | (refine congrArg (fun b => T.v (Value.int _ b)) ?_; first | rfl | omega) | omega)) | (first | rfl | (refine congrArg (fun b => T.v (Value.bool b)) ?_; first | rfl | exact (decide_eq_true (by omega)).symm | exact (decide_eq_false (by omega)).symm | exact decide_eq_decide.2 (by omega)) | (refine congrArg (fun b => T.v (Value.int _ b)) ?_; first | rfl | omega) | omega))
set_option maxRecDepth 100000 in
theorem winX_pure (k p n : Int) (m : Nat) (w : List Int) (hf : fitsB k p n = true) (h5 : k ≠ 5) : Pure Tryd.prog glR 21 [.agg [.v (.int .i64 k), .v (.int .i64 p), .v (.int .i64 n)], .fl [.u64] m w] (.tup [.v (.int .i64 0), .v (.int .i64 5)]) := by
  refine pure_of (C := ctxPlW Tryd.prog inlPlR) ctxPlW_good Tryd.func21 (c := bodyOf Tryd.f21) (by rfl) (Nat.le_of_ble_eq_true (by rfl)) 4 4 [0, 1, 2, 4, 5, 6, 8, 10, 11, 12, 21, 44, 45, 46, 53] ?_
  conv => whnf
  repeat' (first | (refine ifB_t (by assumption) ?_; conv => whnf) | (refine ifB_f (by assumption) ?_; conv => whnf) | (refine ifB_dec (fun h => ?_) (fun h => ?_) <;> (first | (exfalso; omega) | (conv => whnf))) | (refine ifB_eq (fun h => ?_) (fun h => ?_) <;> (first | (exfalso; omega) | (conv => whnf))) | (refine ifB_ne (fun h => ?_) (fun h => ?_) <;> (first | (exfalso; omega) | (conv => whnf))) | (refine ifB_not ?_; conv => whnf) | (refine ifB_and ?_; conv => whnf) | (refine ifB_or ?_; conv => whnf) | (refine And.intro ?_ ?_; (first | omega | assumption | (exact allU_getD (by assumption) _) | (simp only [cutL]; omega) | (refine And.intro ?_ ?_ <;> first | assumption | exact allU_getD (by assumption) _) | (simp only [cutL, IntKind.wrap_u64, IntKind.wrap_i64] at *; omega) | decide); conv => whnf) | (refine ifB_mk (fun h => ?_) (fun h => ?_) <;> (conv => whnf)))
  repeat' (first | exact trivial | exact rfl | (refine And.intro ?_ ?_) | ((conv => whnf); done) | ((conv => whnf); (first | rfl | (refine congrArg (fun b => T.v (Value.bool b)) ?_; first | rfl | exact (decide_eq_true (by omega)).symm | exact (decide_eq_false (by omega)).symm | exact decide_eq_decide.2 (by omega)) | (refine congrArg (fun b => T.v (Value.int _ b)) ?_; first | rfl | omega) | omega)) | (first | rfl | (refine congrArg (fun b => T.v (Value.bool b)) ?_; first | rfl | exact (decide_eq_true (by omega)).symm | exact (decide_eq_false (by omega)).symm | exact decide_eq_decide.2 (by omega)) | (refine congrArg (fun b => T.v (Value.int _ b)) ?_; first | rfl | omega) | omega))
set_option maxRecDepth 100000 in
theorem winF_pure (k p n : Int) (m : Nat) (w : List Int) (hf : fitsB k p n = false) : Pure Tryd.prog glR 21 [.agg [.v (.int .i64 k), .v (.int .i64 p), .v (.int .i64 n)], .fl [.u64] m w] (.tup [.v (.int .i64 0), .v (.int .i64 5)]) := by
  refine pure_of (C := ctxPlW Tryd.prog inlPlR) ctxPlW_good Tryd.func21 (c := bodyOf Tryd.f21) (by rfl) (Nat.le_of_ble_eq_true (by rfl)) 4 4 [0, 1, 2, 4, 5, 6, 8, 10, 11, 12, 21, 44, 45, 46, 53] ?_
  conv => whnf
  repeat' (first | (refine ifB_t (by assumption) ?_; conv => whnf) | (refine ifB_f (by assumption) ?_; conv => whnf) | (refine ifB_dec (fun h => ?_) (fun h => ?_) <;> (first | (exfalso; omega) | (conv => whnf))) | (refine ifB_eq (fun h => ?_) (fun h => ?_) <;> (first | (exfalso; omega) | (conv => whnf))) | (refine ifB_ne (fun h => ?_) (fun h => ?_) <;> (first | (exfalso; omega) | (conv => whnf))) | (refine ifB_not ?_; conv => whnf) | (refine ifB_and ?_; conv => whnf) | (refine ifB_or ?_; conv => whnf) | (refine And.intro ?_ ?_; (first | omega | assumption | (exact allU_getD (by assumption) _) | (simp only [cutL]; omega) | (refine And.intro ?_ ?_ <;> first | assumption | exact allU_getD (by assumption) _) | (simp only [cutL, IntKind.wrap_u64, IntKind.wrap_i64] at *; omega) | decide); conv => whnf) | (refine ifB_mk (fun h => ?_) (fun h => ?_) <;> (conv => whnf)))
  repeat' (first | exact trivial | exact rfl | (refine And.intro ?_ ?_) | ((conv => whnf); done) | ((conv => whnf); (first | rfl | (refine congrArg (fun b => T.v (Value.bool b)) ?_; first | rfl | exact (decide_eq_true (by omega)).symm | exact (decide_eq_false (by omega)).symm | exact decide_eq_decide.2 (by omega)) | (refine congrArg (fun b => T.v (Value.int _ b)) ?_; first | rfl | omega) | omega)) | (first | rfl | (refine congrArg (fun b => T.v (Value.bool b)) ?_; first | rfl | exact (decide_eq_true (by omega)).symm | exact (decide_eq_false (by omega)).symm | exact decide_eq_decide.2 (by omega)) | (refine congrArg (fun b => T.v (Value.int _ b)) ?_; first | rfl | omega) | omega))
set_option maxRecDepth 100000 in
theorem winL_pure (p n : Int) (m : Nat) (w : List Int) (hf : fitsB 5 p n = true) (hm : (m : Int) ≠ homeI 5 n) : Pure Tryd.prog glR 21 [.agg [.v (.int .i64 5), .v (.int .i64 p), .v (.int .i64 n)], .fl [.u64] m w] (.tup [.v (.int .i64 0), .v (.int .i64 2)]) := by
  refine pure_of (C := ctxPlW Tryd.prog inlPlR) ctxPlW_good Tryd.func21 (c := bodyOf Tryd.f21) (by rfl) (Nat.le_of_ble_eq_true (by rfl)) 4 4 [0, 1, 2, 4, 5, 6, 8, 10, 11, 12, 21, 44, 45, 46, 53] ?_
  conv => whnf
  repeat' (first | (refine ifB_t (by assumption) ?_; conv => whnf) | (refine ifB_f (by assumption) ?_; conv => whnf) | (refine ifB_dec (fun h => ?_) (fun h => ?_) <;> (first | (exfalso; omega) | (conv => whnf))) | (refine ifB_eq (fun h => ?_) (fun h => ?_) <;> (first | (exfalso; omega) | (conv => whnf))) | (refine ifB_ne (fun h => ?_) (fun h => ?_) <;> (first | (exfalso; omega) | (conv => whnf))) | (refine ifB_not ?_; conv => whnf) | (refine ifB_and ?_; conv => whnf) | (refine ifB_or ?_; conv => whnf) | (refine And.intro ?_ ?_; (first | omega | assumption | (exact allU_getD (by assumption) _) | (simp only [cutL]; omega) | (refine And.intro ?_ ?_ <;> first | assumption | exact allU_getD (by assumption) _) | (simp only [cutL, IntKind.wrap_u64, IntKind.wrap_i64] at *; omega) | decide); conv => whnf) | (refine ifB_mk (fun h => ?_) (fun h => ?_) <;> (conv => whnf)))
  all_goals first | (exact absurd (by assumption) hm) | repeat' (first | exact trivial | exact rfl | (refine And.intro ?_ ?_) | ((conv => whnf); done) | ((conv => whnf); (first | rfl | (refine congrArg (fun b => T.v (Value.bool b)) ?_; first | rfl | exact (decide_eq_true (by omega)).symm | exact (decide_eq_false (by omega)).symm | exact decide_eq_decide.2 (by omega)) | (refine congrArg (fun b => T.v (Value.int _ b)) ?_; first | rfl | omega) | omega)) | (first | rfl | (refine congrArg (fun b => T.v (Value.bool b)) ?_; first | rfl | exact (decide_eq_true (by omega)).symm | exact (decide_eq_false (by omega)).symm | exact decide_eq_decide.2 (by omega)) | (refine congrArg (fun b => T.v (Value.int _ b)) ?_; first | rfl | omega) | omega))
set_option maxRecDepth 100000 in
theorem winR_pure (p : Int) (n m : Nat) (w : List Int) (hf : fitsB 5 p n = true) (hx : AllU w) (hm : m = n + 9) (hr : rightB n w = false) : Pure Tryd.prog glR 21 [.agg [.v (.int .i64 5), .v (.int .i64 p), .v (.int .i64 n)], .fl [.u64] m w] (.tup [.v (.int .i64 0), .v (.int .i64 2)]) := by
  have hn := (fitsB_room hf).2.2.2.2
  have hR : ∃ n0 : Nat, (n : Int) = (n0 : Int) ∧ AllU w ∧ m = n0 + 9 ∧ n0 ≤ 1000 := ⟨n, rfl, hx, hm, by omega⟩
  have hh : (m : Int) = homeI 5 n := by show (m : Int) = 9 + n; omega
  refine pure_of (C := ctxPlW Tryd.prog inlPlR) ctxPlW_good Tryd.func21 (c := bodyOf Tryd.f21) (by rfl) (Nat.le_of_ble_eq_true (by rfl)) 4 4 [0, 1, 2, 4, 5, 6, 8, 10, 11, 12, 21, 44, 45, 46, 53] ?_
  conv => whnf
  repeat' (first | (refine ifB_t (by assumption) ?_; conv => whnf) | (refine ifB_f (by assumption) ?_; conv => whnf) | (refine ifB_dec (fun h => ?_) (fun h => ?_) <;> (first | (exfalso; omega) | (conv => whnf))) | (refine ifB_eq (fun h => ?_) (fun h => ?_) <;> (first | (exfalso; omega) | (conv => whnf))) | (refine ifB_ne (fun h => ?_) (fun h => ?_) <;> (first | (exfalso; omega) | (conv => whnf))) | (refine ifB_not ?_; conv => whnf) | (refine ifB_and ?_; conv => whnf) | (refine ifB_or ?_; conv => whnf) | (refine And.intro ?_ ?_; (first | omega | assumption | (exact allU_getD (by assumption) _) | (simp only [cutL]; omega) | (refine And.intro ?_ ?_ <;> first | assumption | exact allU_getD (by assumption) _) | (simp only [cutL, IntKind.wrap_u64, IntKind.wrap_i64] at *; omega) | decide); conv => whnf) | (refine ifB_mk (fun h => ?_) (fun h => ?_) <;> (conv => whnf)))
  all_goals repeat' (first | exact trivial | exact rfl | (refine And.intro ?_ ?_) | ((conv => whnf); done) | ((conv => whnf); (first | rfl | (refine congrArg (fun b => T.v (Value.bool b)) ?_; first | rfl | exact (decide_eq_true (by omega)).symm | exact (decide_eq_false (by omega)).symm | exact decide_eq_decide.2 (by omega)) | (refine congrArg (fun b => T.v (Value.int _ b)) ?_; first | rfl | omega) | omega)) | (first | rfl | (refine congrArg (fun b => T.v (Value.bool b)) ?_; first | rfl | exact (decide_eq_true (by omega)).symm | exact (decide_eq_false (by omega)).symm | exact decide_eq_decide.2 (by omega)) | (refine congrArg (fun b => T.v (Value.int _ b)) ?_; first | rfl | omega) | omega))
theorem win_pure (k p n : Int) (m : Nat) (w : List Int) (hx : AllU w) : Pure Tryd.prog glR 21 [.agg [.v (.int .i64 k), .v (.int .i64 p), .v (.int .i64 n)], .fl [.u64] m w] (.tup [.v (.int .i64 (winS k p n w).1), .v (.int .i64 (winS k p n w).2)]) := by
  refine pure_wf fun hw => ?_
  obtain ⟨-, ⟨w1, w2⟩, -⟩ := hw
  simp only [List.length_cons, List.length_nil, Nat.zero_add, Nat.mul_one] at w1
  cases hf : fitsB k p n
  · have e : winS k p n w = (0, 5) := by unfold winS; rw [if_neg (by rw [hf]; exact fun h => Bool.false_ne_true h.1)]
    rw [e]; exact winF_pure _ _ _ _ _ hf
  by_cases h5 : k = 5
  · subst h5
    have hn := (fitsB_room hf).2.2.2.2
    obtain ⟨n0, rfl⟩ := Int.eq_ofNat_of_zero_le (a := n) (by omega)
    by_cases hm : m = n0 + 9
    · cases hr : rightB n0 w
      · have e : winS 5 p n0 w = (0, 2) := by unfold winS; rw [if_pos ⟨hf, rfl⟩, if_neg (fun h => Bool.false_ne_true (hr.symm.trans h.2))]
        rw [e]; exact winR_pure _ _ _ _ hf hx hm hr
      · have e : winS 5 p n0 w = (((bestN (tal (votesW n0 w)) 9 : Nat) : Int), (0 : Int)) := by unfold winS; rw [if_pos ⟨hf, rfl⟩, if_pos ⟨by omega, hr⟩]; rfl
        rw [e]; exact winV_pure _ _ _ _ hf hx hm hr
    · have e : winS 5 p n0 w = (0, 2) := by unfold winS; rw [if_pos ⟨hf, rfl⟩, if_neg (fun h => hm (by omega))]
      rw [e]; exact winL_pure _ _ _ _ hf (by show (m : Int) ≠ 9 + n0; omega)
  · have e : winS k p n w = (0, 5) := by unfold winS; rw [if_neg (fun h => h5 h.2)]
    rw [e]; exact winX_pure _ _ _ _ _ hf h5
def eWinner : Entry := ⟨21, 3, fun l => match l with | [.agg [.v (.int .i64 k), .v (.int .i64 p), .v (.int .i64 n)], .fl [.u64] m w] => some (some (AllU w), .tup [.v (.int .i64 (winS k p n w).1), .v (.int .i64 (winS k p n w).2)], []) | _ => none⟩
theorem eWinner_ok : eWinner.ok Tryd.prog glR := ⟨enters_of Tryd.func21 (by kernel_rfl) (by kernel_rfl), by
  intro args c t bs h hc
  simp only [eWinner] at h
  split at h <;> cases h
  replace hc := hc _ rfl
  exact win_pure _ _ _ _ _ hc⟩
end Go.Proofs.YtlcpcgdecodjfaaDoor
namespace Go.Proofs.YtlcpcgdecodjfaaDoor
open Go.RowKit Go.Proofs.YtlcpcgdecodjfaaDoor.Am
set_option linter.unusedVariables false
set_option linter.unusedSimpArgs false

theorem map_snoc {f : Int → Int} (xs : List Int) (j : Nat) (hj : j < xs.length) : (xs.take j).map f ++ [f (xs.getD j 0)] = (xs.take (j + 1)).map f := by
  rw [take_snoc hj, List.map_append]; rfl
def chs (c : Int) (xs : List Int) : List Int := (xs.take c.toNat).map (fun x => ipick x 9)
noncomputable def ctxPlE (P : Program) : Ctx := ctx P glR [ePick14] [] (noEq P) [] (fun _ h => by cases h)
theorem ctxPlE_good : (ctxPlE Tryd.prog).good := ctx_good (by kernel_rfl) (AllOk.mem ⟨ePick14_ok, trivial⟩) glR_two
set_option maxRecDepth 100000 in
theorem box_pure (c : Int) (hc : I64 c) : Pure Tryd.prog glR 17 [.v (.int .i64 c)] (.agg [.v (.int .i64 5), .v (.int .i64 1), .v (.int .i64 (1 + ipick c 12))]) := by
  obtain ⟨b1, b2⟩ := ipick_bounds c (n := 12) (by omega)
  have hw : IntKind.i64.wrap (1 + ipick c 12) = 1 + ipick c 12 := wrap64 (by omega) (by omega)
  refine pure_of (C := ctxPlE Tryd.prog) ctxPlE_good Tryd.func17 (c := bodyOf Tryd.f17) (by rfl) (Nat.le_of_ble_eq_true (by rfl)) 4 0 [0, 2] ?_
  conv => whnf
  refine And.intro ⟨hc, by omega, by omega⟩ ?_
  conv => whnf
  rw [hw]
  repeat' (first | exact trivial | exact rfl | (refine And.intro ?_ ?_) | ((conv => whnf); done) | ((conv => whnf); (first | rfl | (refine congrArg (fun b => T.v (Value.bool b)) ?_; first | rfl | exact (decide_eq_true (by omega)).symm | exact (decide_eq_false (by omega)).symm | exact decide_eq_decide.2 (by omega)) | (refine congrArg (fun b => T.v (Value.int _ b)) ?_; first | rfl | omega) | omega)) | (first | rfl | (refine congrArg (fun b => T.v (Value.bool b)) ?_; first | rfl | exact (decide_eq_true (by omega)).symm | exact (decide_eq_false (by omega)).symm | exact decide_eq_decide.2 (by omega)) | (refine congrArg (fun b => T.v (Value.int _ b)) ?_; first | rfl | omega) | omega))
def eBox : Entry := ⟨17, 3, fun l => match l with | [.v (.int .i64 c)] => some (some (I64 c), .agg [.v (.int .i64 5), .v (.int .i64 1), .v (.int .i64 (1 + ipick c 12))], []) | _ => none⟩
theorem eBox_ok : eBox.ok Tryd.prog glR := ⟨enters_of Tryd.func17 (by kernel_rfl) (by kernel_rfl), by
  intro args c t bs h hc
  simp only [eBox] at h
  split at h <;> cases h
  replace hc := hc _ rfl
  exact box_pure _ hc⟩
set_option maxRecDepth 100000 in
theorem choices_pure (k p c : Int) (hc : 0 ≤ c ∧ c ≤ 256) (n : Nat) (xs : List Int) (hx : AllI xs) : Pure Tryd.prog glR 16 [.agg [.v (.int .i64 k), .v (.int .i64 p), .v (.int .i64 c)], .fl [.i64] n xs] (.ow 0 1 (min n c.toNat)) [(0, .fl [.i64] (chs c xs))] := by
  refine pure_wf fun hw => ?_
  obtain ⟨-, ⟨w1, w2⟩, -⟩ := hw
  simp only [List.length_cons, List.length_nil, Nat.zero_add, Nat.mul_one] at w1
  refine pure_of (C := ctxPlE Tryd.prog) ctxPlE_good Tryd.func16 (c := bodyOf Tryd.f16) (by rfl) (Nat.le_of_ble_eq_true (by rfl)) 4 0 [0, 1, 2, 4, 5, 6, 16] ?_
  conv => whnf
  refine TW.nilOwn 5 5000 1 (.fl [.i64] []) rfl rfl (.inr ⟨_, _, rfl⟩) (by decide) ?_
  refine TW.loopD ctxPlE_good 0 (base := 0) (lv := [0, 1, 2, 4, 5, 6, 16]) [5, 6] [5000] [(5000, 5000)] (fun j : Nat => [.ow 5000 1 j, .v (.int .i64 j)]) (fun j => [.fl [.i64] ((xs.take j).map (fun x => ipick x 9))]) (fun j => j ≤ n ∧ (j : Int) ≤ c) (fun j => n - j) ?_
  conv => whnf
  refine ⟨⟨0, ⟨rfl, rfl, rfl⟩, by omega, by omega⟩, fun j ⟨hj, ht⟩ => ?_⟩
  conv => whnf
  refine ifB_dec (fun h => ?_) (fun h => ?_)
  · conv => whnf
    refine ifB_dec (fun h2 => ?_) (fun h2 => ?_)
    · conv => whnf
      have e : xs.getD (0 + (j : Int).toNat * (0 + 1)) 0 = xs.getD j 0 := by simp
      refine And.intro (by omega) ?_
      conv => whnf
      rw [e]
      refine And.intro ⟨hx.at (by omega), by omega, by omega⟩ ?_
      conv => whnf
      repeat' (first | (refine ifB_t (by assumption) ?_; conv => whnf) | (refine ifB_f (by assumption) ?_; conv => whnf) | (refine ifB_dec (fun h => ?_) (fun h => ?_) <;> (first | (exfalso; omega) | (conv => whnf))) | (refine ifB_eq (fun h => ?_) (fun h => ?_) <;> (first | (exfalso; omega) | (conv => whnf))) | (refine ifB_ne (fun h => ?_) (fun h => ?_) <;> (first | (exfalso; omega) | (conv => whnf))) | (refine ifB_not ?_; conv => whnf) | (refine ifB_and ?_; conv => whnf) | (refine ifB_or ?_; conv => whnf) | (refine And.intro ?_ ?_; (first | omega | assumption | (exact allU_getD (by assumption) _) | (simp only [cutL]; omega) | (refine And.intro ?_ ?_ <;> first | assumption | exact allU_getD (by assumption) _) | (simp only [cutL, IntKind.wrap_u64, IntKind.wrap_i64] at *; omega) | decide); conv => whnf) | (refine ifB_mk (fun h => ?_) (fun h => ?_) <;> (conv => whnf)))
      rw [wsucc (n := n) (by omega) w2]
      have em := map_snoc (f := fun x => ipick x 9) xs j (by omega)
      rw [em]
      exact ⟨j + 1, [(104, 5000)], ⟨rfl, rfl, rfl⟩, ⟨by omega, by omega⟩, by (try dsimp only); omega⟩
    · conv => whnf
      have e1 : c.toNat = j := by omega
      have e2 : min n c.toNat = j := by omega
      rw [chs, e2, e1]
      repeat' (first | exact trivial | exact rfl | (refine And.intro ?_ ?_) | ((conv => whnf); done) | ((conv => whnf); (first | rfl | (refine congrArg (fun b => T.v (Value.bool b)) ?_; first | rfl | exact (decide_eq_true (by omega)).symm | exact (decide_eq_false (by omega)).symm | exact decide_eq_decide.2 (by omega)) | (refine congrArg (fun b => T.v (Value.int _ b)) ?_; first | rfl | omega) | omega)) | (first | rfl | (refine congrArg (fun b => T.v (Value.bool b)) ?_; first | rfl | exact (decide_eq_true (by omega)).symm | exact (decide_eq_false (by omega)).symm | exact decide_eq_decide.2 (by omega)) | (refine congrArg (fun b => T.v (Value.int _ b)) ?_; first | rfl | omega) | omega))
  · conv => whnf
    have e2 : min n c.toNat = j := by omega
    rw [chs, e2, List.take_of_length_le (by omega), List.take_of_length_le (by omega)]
    repeat' (first | exact trivial | exact rfl | (refine And.intro ?_ ?_) | ((conv => whnf); done) | ((conv => whnf); (first | rfl | (refine congrArg (fun b => T.v (Value.bool b)) ?_; first | rfl | exact (decide_eq_true (by omega)).symm | exact (decide_eq_false (by omega)).symm | exact decide_eq_decide.2 (by omega)) | (refine congrArg (fun b => T.v (Value.int _ b)) ?_; first | rfl | omega) | omega)) | (first | rfl | (refine congrArg (fun b => T.v (Value.bool b)) ?_; first | rfl | exact (decide_eq_true (by omega)).symm | exact (decide_eq_false (by omega)).symm | exact decide_eq_decide.2 (by omega)) | (refine congrArg (fun b => T.v (Value.int _ b)) ?_; first | rfl | omega) | omega))
def eChoices : Entry := ⟨16, 3, fun l => match l with | [.agg [.v (.int .i64 k), .v (.int .i64 p), .v (.int .i64 c)], .fl [.i64] n xs] => some (some ((0 ≤ c ∧ c ≤ 256) ∧ AllI xs), .ow 0 1 (min n c.toNat), [(0, .fl [.i64] (chs c xs))]) | _ => none⟩
theorem eChoices_ok : eChoices.ok Tryd.prog glR := ⟨enters_of Tryd.func16 (by kernel_rfl) (by kernel_rfl), by
  intro args c t bs h hc
  simp only [eChoices] at h
  split at h <;> cases h
  replace hc := hc _ rfl
  exact choices_pure _ _ _ hc.1 _ _ hc.2⟩

/-! ### what values make of a register -/
def turnF (k x v : Int) : Int := if k = 2 then iCanon v else if k = 3 then iTop x v else iSum x v
def foldF (k : Int) (ys : List Int) : Int := ys.foldl (turnF k) 0
theorem u64_turnF {k x v : Int} (hx : U64 x) (hv : U64 v) : U64 (turnF k x v) := by
  unfold turnF
  split
  · exact u64_canon hv
  · split
    · exact u64_top hx hv
    · exact u64_sum hx hv
theorem foldF_snoc (k : Int) (ys : List Int) (v : Int) : foldF k (ys ++ [v]) = turnF k (foldF k ys) v := by simp [foldF]
theorem u64_foldl (k : Int) (ys : List Int) : ∀ x, AllU ys → U64 x → U64 (ys.foldl (turnF k) x) := by
  induction ys with
  | nil => intro x _ h; exact h
  | cons y ys ih => intro x h hx; exact ih _ (fun z hz => h z (List.mem_cons_of_mem _ hz)) (u64_turnF hx (h y (List.mem_cons_self ..)))
theorem u64_foldF (k : Int) (ys : List Int) (h : AllU ys) : U64 (foldF k ys) := u64_foldl k ys 0 h ⟨by omega, by omega⟩
def foldS (k : Int) (ys : List Int) : Int × Int := if k = 2 ∨ k = 3 ∨ k = 4 then (foldF k ys, 0) else (0, 1)
noncomputable def inlFo : List Inl := [iTaken, iTaken1]
theorem inlFo_ok : InlOk Tryd.prog inlFo := ⟨iTaken_ok, iTaken1_ok, trivial⟩
noncomputable def ctxPlF (P : Program) (h : InlOk P inlFo) : Ctx := ctx P glR [eCanon, eMax, eSum] [] (noEq P) inlFo h.mem
theorem ctxPlF_good : (ctxPlF Tryd.prog inlFo_ok).good := ctx_good (by kernel_rfl) (AllOk.mem ⟨eCanon_ok, eMax_ok, eSum_ok, trivial⟩) glR_two
set_option maxRecDepth 100000 in
theorem fold2_pure (n : Nat) (xs : List Int) (hx : AllU xs) : Pure Tryd.prog glR 12 [.v (.int .i64 2), .fl [.u64] n xs] (.tup [.v (.int .u64 (foldF 2 xs)), .v (.int .i64 0)]) := by
  refine pure_wf fun hw => ?_
  obtain ⟨-, ⟨w1, w2⟩, -⟩ := hw
  simp only [List.length_cons, List.length_nil, Nat.zero_add, Nat.mul_one] at w1
  refine pure_of (C := ctxPlF Tryd.prog inlFo_ok) ctxPlF_good Tryd.func12 (c := bodyOf Tryd.f12) (by rfl) (Nat.le_of_ble_eq_true (by rfl)) 4 2 [0, 1, 4, 5, 6, 8, 13, 14, 15, 16, 17] ?_
  conv => whnf
  refine TW.loopD ctxPlF_good 2 (base := 0) (lv := [0, 1, 4, 5, 6, 8, 13, 14, 15, 16, 17]) [4, 16] [] [] (fun j : Nat => [.v (.int .u64 (foldF 2 (xs.take j))), .v (.int .i64 j)]) (fun j => []) (fun j => j ≤ n) (fun j => n - j) ?_
  conv => whnf
  refine ⟨⟨0, ⟨rfl, rfl, rfl⟩, by omega⟩, fun j hj => ?_⟩
  have hu : U64 (foldF 2 (xs.take j)) := u64_foldF 2 _ (fun x hx' => hx x (List.mem_of_mem_take hx'))
  replace hj : j ≤ n := hj
  conv => whnf
  refine ifB_dec (fun h => ?_) (fun h => ?_)
  · conv => whnf
    have e : xs.getD (0 + (j : Int).toNat * (0 + 1)) 0 = xs.getD j 0 := by simp
    have et : turnF 2 (foldF 2 (xs.take j)) (xs.getD j 0) = foldF 2 (xs.take (j + 1)) := by rw [take_snoc (by omega), foldF_snoc]
    repeat' (first | (refine ifB_t (by assumption) ?_; conv => whnf) | (refine ifB_f (by assumption) ?_; conv => whnf) | (refine ifB_dec (fun h => ?_) (fun h => ?_) <;> (first | (exfalso; omega) | (conv => whnf))) | (refine ifB_eq (fun h => ?_) (fun h => ?_) <;> (first | (exfalso; omega) | (conv => whnf))) | (refine ifB_ne (fun h => ?_) (fun h => ?_) <;> (first | (exfalso; omega) | (conv => whnf))) | (refine ifB_not ?_; conv => whnf) | (refine ifB_and ?_; conv => whnf) | (refine ifB_or ?_; conv => whnf) | (refine And.intro ?_ ?_; (first | omega | assumption | (exact allU_getD (by assumption) _) | (simp only [cutL]; omega) | (refine And.intro ?_ ?_ <;> first | assumption | exact allU_getD (by assumption) _) | (simp only [cutL, IntKind.wrap_u64, IntKind.wrap_i64] at *; omega) | decide); conv => whnf) | (refine ifB_mk (fun h => ?_) (fun h => ?_) <;> (conv => whnf)))
    rw [wsucc (n := n) (by omega) w2, e]
    replace et : iCanon (xs.getD j 0) = _ := et
    rw [et]
    exact ⟨j + 1, [], ⟨rfl, rfl, rfl⟩, (by omega : j + 1 ≤ n), by (try dsimp only); omega⟩
  · conv => whnf
    have e : j = n := by omega
    rw [e, List.take_of_length_le (by omega)]
    repeat' (first | exact trivial | exact rfl | (refine And.intro ?_ ?_) | ((conv => whnf); done) | ((conv => whnf); (first | rfl | (refine congrArg (fun b => T.v (Value.bool b)) ?_; first | rfl | exact (decide_eq_true (by omega)).symm | exact (decide_eq_false (by omega)).symm | exact decide_eq_decide.2 (by omega)) | (refine congrArg (fun b => T.v (Value.int _ b)) ?_; first | rfl | omega) | omega)) | (first | rfl | (refine congrArg (fun b => T.v (Value.bool b)) ?_; first | rfl | exact (decide_eq_true (by omega)).symm | exact (decide_eq_false (by omega)).symm | exact decide_eq_decide.2 (by omega)) | (refine congrArg (fun b => T.v (Value.int _ b)) ?_; first | rfl | omega) | omega))
set_option maxRecDepth 100000 in
theorem fold3_pure (n : Nat) (xs : List Int) (hx : AllU xs) : Pure Tryd.prog glR 12 [.v (.int .i64 3), .fl [.u64] n xs] (.tup [.v (.int .u64 (foldF 3 xs)), .v (.int .i64 0)]) := by
  refine pure_wf fun hw => ?_
  obtain ⟨-, ⟨w1, w2⟩, -⟩ := hw
  simp only [List.length_cons, List.length_nil, Nat.zero_add, Nat.mul_one] at w1
  refine pure_of (C := ctxPlF Tryd.prog inlFo_ok) ctxPlF_good Tryd.func12 (c := bodyOf Tryd.f12) (by rfl) (Nat.le_of_ble_eq_true (by rfl)) 4 2 [0, 1, 4, 5, 6, 8, 13, 14, 15, 16, 17] ?_
  conv => whnf
  refine TW.loopD ctxPlF_good 2 (base := 0) (lv := [0, 1, 4, 5, 6, 8, 13, 14, 15, 16, 17]) [4, 16] [] [] (fun j : Nat => [.v (.int .u64 (foldF 3 (xs.take j))), .v (.int .i64 j)]) (fun j => []) (fun j => j ≤ n) (fun j => n - j) ?_
  conv => whnf
  refine ⟨⟨0, ⟨rfl, rfl, rfl⟩, by omega⟩, fun j hj => ?_⟩
  have hu : U64 (foldF 3 (xs.take j)) := u64_foldF 3 _ (fun x hx' => hx x (List.mem_of_mem_take hx'))
  replace hj : j ≤ n := hj
  conv => whnf
  refine ifB_dec (fun h => ?_) (fun h => ?_)
  · conv => whnf
    have e : xs.getD (0 + (j : Int).toNat * (0 + 1)) 0 = xs.getD j 0 := by simp
    have et : turnF 3 (foldF 3 (xs.take j)) (xs.getD j 0) = foldF 3 (xs.take (j + 1)) := by rw [take_snoc (by omega), foldF_snoc]
    repeat' (first | (refine ifB_t (by assumption) ?_; conv => whnf) | (refine ifB_f (by assumption) ?_; conv => whnf) | (refine ifB_dec (fun h => ?_) (fun h => ?_) <;> (first | (exfalso; omega) | (conv => whnf))) | (refine ifB_eq (fun h => ?_) (fun h => ?_) <;> (first | (exfalso; omega) | (conv => whnf))) | (refine ifB_ne (fun h => ?_) (fun h => ?_) <;> (first | (exfalso; omega) | (conv => whnf))) | (refine ifB_not ?_; conv => whnf) | (refine ifB_and ?_; conv => whnf) | (refine ifB_or ?_; conv => whnf) | (refine And.intro ?_ ?_; (first | omega | assumption | (exact allU_getD (by assumption) _) | (simp only [cutL]; omega) | (refine And.intro ?_ ?_ <;> first | assumption | exact allU_getD (by assumption) _) | (simp only [cutL, IntKind.wrap_u64, IntKind.wrap_i64] at *; omega) | decide); conv => whnf) | (refine ifB_mk (fun h => ?_) (fun h => ?_) <;> (conv => whnf)))
    rw [wsucc (n := n) (by omega) w2, e]
    replace et : iTop (foldF 3 (xs.take j)) (xs.getD j 0) = _ := et
    rw [et]
    exact ⟨j + 1, [], ⟨rfl, rfl, rfl⟩, (by omega : j + 1 ≤ n), by (try dsimp only); omega⟩
  · conv => whnf
    have e : j = n := by omega
    rw [e, List.take_of_length_le (by omega)]
    repeat' (first | exact trivial | exact rfl | (refine And.intro ?_ ?_) | ((conv => whnf); done) | ((conv => whnf); (first | rfl | (refine congrArg (fun b => T.v (Value.bool b)) ?_; first | rfl | exact (decide_eq_true (by omega)).symm | exact (decide_eq_false (by omega)).symm | exact decide_eq_decide.2 (by omega)) | (refine congrArg (fun b => T.v (Value.int _ b)) ?_; first | rfl | omega) | omega)) | (first | rfl | (refine congrArg (fun b => T.v (Value.bool b)) ?_; first | rfl | exact (decide_eq_true (by omega)).symm | exact (decide_eq_false (by omega)).symm | exact decide_eq_decide.2 (by omega)) | (refine congrArg (fun b => T.v (Value.int _ b)) ?_; first | rfl | omega) | omega))
set_option maxRecDepth 100000 in
theorem fold4_pure (n : Nat) (xs : List Int) (hx : AllU xs) : Pure Tryd.prog glR 12 [.v (.int .i64 4), .fl [.u64] n xs] (.tup [.v (.int .u64 (foldF 4 xs)), .v (.int .i64 0)]) := by
  refine pure_wf fun hw => ?_
  obtain ⟨-, ⟨w1, w2⟩, -⟩ := hw
  simp only [List.length_cons, List.length_nil, Nat.zero_add, Nat.mul_one] at w1
  refine pure_of (C := ctxPlF Tryd.prog inlFo_ok) ctxPlF_good Tryd.func12 (c := bodyOf Tryd.f12) (by rfl) (Nat.le_of_ble_eq_true (by rfl)) 4 2 [0, 1, 4, 5, 6, 8, 13, 14, 15, 16, 17] ?_
  conv => whnf
  refine TW.loopD ctxPlF_good 2 (base := 0) (lv := [0, 1, 4, 5, 6, 8, 13, 14, 15, 16, 17]) [4, 16] [] [] (fun j : Nat => [.v (.int .u64 (foldF 4 (xs.take j))), .v (.int .i64 j)]) (fun j => []) (fun j => j ≤ n) (fun j => n - j) ?_
  conv => whnf
  refine ⟨⟨0, ⟨rfl, rfl, rfl⟩, by omega⟩, fun j hj => ?_⟩
  have hu : U64 (foldF 4 (xs.take j)) := u64_foldF 4 _ (fun x hx' => hx x (List.mem_of_mem_take hx'))
  replace hj : j ≤ n := hj
  conv => whnf
  refine ifB_dec (fun h => ?_) (fun h => ?_)
  · conv => whnf
    have e : xs.getD (0 + (j : Int).toNat * (0 + 1)) 0 = xs.getD j 0 := by simp
    have et : turnF 4 (foldF 4 (xs.take j)) (xs.getD j 0) = foldF 4 (xs.take (j + 1)) := by rw [take_snoc (by omega), foldF_snoc]
    repeat' (first | (refine ifB_t (by assumption) ?_; conv => whnf) | (refine ifB_f (by assumption) ?_; conv => whnf) | (refine ifB_dec (fun h => ?_) (fun h => ?_) <;> (first | (exfalso; omega) | (conv => whnf))) | (refine ifB_eq (fun h => ?_) (fun h => ?_) <;> (first | (exfalso; omega) | (conv => whnf))) | (refine ifB_ne (fun h => ?_) (fun h => ?_) <;> (first | (exfalso; omega) | (conv => whnf))) | (refine ifB_not ?_; conv => whnf) | (refine ifB_and ?_; conv => whnf) | (refine ifB_or ?_; conv => whnf) | (refine And.intro ?_ ?_; (first | omega | assumption | (exact allU_getD (by assumption) _) | (simp only [cutL]; omega) | (refine And.intro ?_ ?_ <;> first | assumption | exact allU_getD (by assumption) _) | (simp only [cutL, IntKind.wrap_u64, IntKind.wrap_i64] at *; omega) | decide); conv => whnf) | (refine ifB_mk (fun h => ?_) (fun h => ?_) <;> (conv => whnf)))
    rw [wsucc (n := n) (by omega) w2, e]
    replace et : iSum (foldF 4 (xs.take j)) (xs.getD j 0) = _ := et
    rw [et]
    exact ⟨j + 1, [], ⟨rfl, rfl, rfl⟩, (by omega : j + 1 ≤ n), by (try dsimp only); omega⟩
  · conv => whnf
    have e : j = n := by omega
    rw [e, List.take_of_length_le (by omega)]
    repeat' (first | exact trivial | exact rfl | (refine And.intro ?_ ?_) | ((conv => whnf); done) | ((conv => whnf); (first | rfl | (refine congrArg (fun b => T.v (Value.bool b)) ?_; first | rfl | exact (decide_eq_true (by omega)).symm | exact (decide_eq_false (by omega)).symm | exact decide_eq_decide.2 (by omega)) | (refine congrArg (fun b => T.v (Value.int _ b)) ?_; first | rfl | omega) | omega)) | (first | rfl | (refine congrArg (fun b => T.v (Value.bool b)) ?_; first | rfl | exact (decide_eq_true (by omega)).symm | exact (decide_eq_false (by omega)).symm | exact decide_eq_decide.2 (by omega)) | (refine congrArg (fun b => T.v (Value.int _ b)) ?_; first | rfl | omega) | omega))
set_option maxRecDepth 100000 in
theorem foldX_pure (k : Int) (n : Nat) (xs : List Int) (hk : k ≠ 2 ∧ k ≠ 3 ∧ k ≠ 4) : Pure Tryd.prog glR 12 [.v (.int .i64 k), .fl [.u64] n xs] (.tup [.v (.int .u64 0), .v (.int .i64 1)]) := by
  refine pure_of (C := ctxPlF Tryd.prog inlFo_ok) ctxPlF_good Tryd.func12 (c := bodyOf Tryd.f12) (by rfl) (Nat.le_of_ble_eq_true (by rfl)) 4 2 [0, 1, 4, 5, 6, 8, 13, 14, 15, 16, 17] ?_
  conv => whnf
  repeat' (first | (refine ifB_t (by assumption) ?_; conv => whnf) | (refine ifB_f (by assumption) ?_; conv => whnf) | (refine ifB_dec (fun h => ?_) (fun h => ?_) <;> (first | (exfalso; omega) | (conv => whnf))) | (refine ifB_eq (fun h => ?_) (fun h => ?_) <;> (first | (exfalso; omega) | (conv => whnf))) | (refine ifB_ne (fun h => ?_) (fun h => ?_) <;> (first | (exfalso; omega) | (conv => whnf))) | (refine ifB_not ?_; conv => whnf) | (refine ifB_and ?_; conv => whnf) | (refine ifB_or ?_; conv => whnf) | (refine And.intro ?_ ?_; (first | omega | assumption | (exact allU_getD (by assumption) _) | (simp only [cutL]; omega) | (refine And.intro ?_ ?_ <;> first | assumption | exact allU_getD (by assumption) _) | (simp only [cutL, IntKind.wrap_u64, IntKind.wrap_i64] at *; omega) | decide); conv => whnf) | (refine ifB_mk (fun h => ?_) (fun h => ?_) <;> (conv => whnf)))
  all_goals repeat' (first | exact trivial | exact rfl | (refine And.intro ?_ ?_) | ((conv => whnf); done) | ((conv => whnf); (first | rfl | (refine congrArg (fun b => T.v (Value.bool b)) ?_; first | rfl | exact (decide_eq_true (by omega)).symm | exact (decide_eq_false (by omega)).symm | exact decide_eq_decide.2 (by omega)) | (refine congrArg (fun b => T.v (Value.int _ b)) ?_; first | rfl | omega) | omega)) | (first | rfl | (refine congrArg (fun b => T.v (Value.bool b)) ?_; first | rfl | exact (decide_eq_true (by omega)).symm | exact (decide_eq_false (by omega)).symm | exact decide_eq_decide.2 (by omega)) | (refine congrArg (fun b => T.v (Value.int _ b)) ?_; first | rfl | omega) | omega))
theorem fold_pure (k : Int) (n : Nat) (xs : List Int) (hx : AllU xs) : Pure Tryd.prog glR 12 [.v (.int .i64 k), .fl [.u64] n xs] (.tup [.v (.int .u64 (foldS k xs).1), .v (.int .i64 (foldS k xs).2)]) := by
  by_cases h2 : k = 2
  · subst h2; exact fold2_pure n xs hx
  by_cases h3 : k = 3
  · subst h3; exact fold3_pure n xs hx
  by_cases h4 : k = 4
  · subst h4; exact fold4_pure n xs hx
  have e : foldS k xs = (0, 1) := if_neg (by omega)
  rw [e]; exact foldX_pure k n xs ⟨h2, h3, h4⟩
theorem pure_nil1 {P : Program} {gl : Nat → T} {f : FuncId} {a t : T} {ks : List IntKind} {bs : Hp} (h : Pure P gl f [a, .fl ks 0 []] t bs) : Pure P gl f [a, .v (.slice none 0 0)] t bs := by
  intro w vs hg hv
  refine h w vs hg ?_
  cases hv with
  | cons h1 h2 => cases h2 with
    | cons h3 h4 =>
      obtain ⟨rfl, -⟩ := h3.v_inv
      exact .cons h1 (.cons .fl0 h4)
def eCastN : Entry := ⟨18, 3, fun l => match l with
  | [.agg [.v (.int .i64 k), .v (.int .i64 p), .v (.int .i64 n)], .fl [.i64] m l] => some (none, .tup [.ow 0 1 (castS k p n l).1.length, .v (.int .i64 (castS k p n l).2)], [(0, .fl [.u64] (castS k p n l).1)])
  | [.agg [.v (.int .i64 k), .v (.int .i64 p), .v (.int .i64 n)], .v (.slice none 0 0)] => some (none, .tup [.ow 0 1 (castS k p n []).1.length, .v (.int .i64 (castS k p n []).2)], [(0, .fl [.u64] (castS k p n []).1)])
  | _ => none⟩
theorem eCastN_ok : eCastN.ok Tryd.prog glR := ⟨enters_of Tryd.func18 (by kernel_rfl) (by kernel_rfl), by
  intro args c t bs h hc
  simp only [eCastN] at h
  split at h <;> cases h
  · exact cast_pure _ _ _ _ _
  · exact pure_nil1 (ks := [.i64]) (cast_pure _ _ _ 0 [])⟩
def eFold : Entry := ⟨12, 3, fun l => match l with
  | [.v (.int .i64 k), .fl [.u64] n xs] => some (some (AllU xs), .tup [.v (.int .u64 (foldS k xs).1), .v (.int .i64 (foldS k xs).2)], [])
  | [.v (.int .i64 k), .v (.slice none 0 0)] => some (none, .tup [.v (.int .u64 (foldS k []).1), .v (.int .i64 (foldS k []).2)], [])
  | _ => none⟩
theorem eFold_ok : eFold.ok Tryd.prog glR := ⟨enters_of Tryd.func12 (by kernel_rfl) (by kernel_rfl), by
  intro args c t bs h hc
  simp only [eFold] at h
  split at h <;> cases h
  · replace hc := hc _ rfl
    exact fold_pure _ _ _ hc
  · exact pure_nil1 (ks := [.u64]) (fold_pure _ 0 [] (fun x hx => by cases hx))⟩
end Go.Proofs.YtlcpcgdecodjfaaDoor
namespace Go.Proofs.YtlcpcgdecodjfaaDoor
open Go.RowKit Go.Proofs.YtlcpcgdecodjfaaDoor.Am
set_option linter.unusedVariables false
set_option linter.unusedSimpArgs false

def EqR (P : Program) : Prop := ∀ t, hasN [55] t = true → P.stoodInHeld t = false
theorem eqR : EqR Tryd.prog := by
  intro t h
  have : t = 55 := by
    simp only [hasN] at h
    split at h
    · rename_i e; exact (Nat.eq_of_beq_eq_true e).symm
    · cases h
  subst this; exact Tryd.stoodInHeld55
noncomputable def ctxPlG (P : Program) (h : EqR P) : Ctx := ctx P glR [eFold, eCast, eWinner, eApply, eWords] [55] h [] (fun _ h => by cases h)
theorem ctxPlG_good : (ctxPlG Tryd.prog eqR).good := ctx_good (by kernel_rfl) (AllOk.mem ⟨eFold_ok, eCast_ok, eWinner_ok, eApply_ok, eWords_ok, trivial⟩) glR_two
theorem allU_dec {xs : List Int} (h : xs.all (fun a => decide (0 ≤ a ∧ a < 18446744073709551616)) = true) : AllU xs := fun x hx => u64_of (List.all_eq_true.1 h x hx)
theorem aw1 : foldS 3 [13830554455654793216, 18442240474082181120] = (0, 0) := by decide +kernel
theorem aw2 : foldS 4 [4607182418800017408, 4607182418800017408] = (4611686018427387904, 0) := by decide +kernel
theorem aw3 : castS 5 1 4 [3, 5, 5, 3] = ([0, 3, 5, 5, 3, 0, 0, 2, 0, 2, 0, 0, 0], 0) := by decide +kernel
theorem aw4 : winS 5 1 4 [0, 3, 5, 5, 3, 0, 0, 2, 0, 2, 0, 0, 0] = (3, 0) := by decide +kernel
theorem aw5 : castS 5 1 4 [9] = ([], 1) := by decide +kernel
theorem aw6 : applyS 5 1 4 [0, 3, 5, 5, 3, 0, 0, 2, 0, 2, 0, 0, 0] 13 0 0 = ([1, 3, 5, 5, 3, 0, 0, 2, 0, 2, 0, 0, 0], 0, 1, 0) := by decide +kernel
theorem aw7 : applyS 1 1 1 [5] 2 0 9223372036854775808 = ([0], 0, 5, 0) := by decide +kernel
theorem aw8 : foldS 1 [] = (0, 1) := by decide +kernel
attribute [local irreducible] foldS castS winS applyS
set_option maxRecDepth 100000 in
set_option maxHeartbeats 1000000 in
theorem awake_pure : Pure Tryd.prog glR 9 [] (.v (.bool true)) := by
  refine pure_of (C := ctxPlG Tryd.prog eqR) ctxPlG_good Tryd.func9 (c := bodyOf Tryd.f9) (by rfl) (Nat.le_of_ble_eq_true (by rfl)) 4 0 [0, 1, 2, 3, 4, 6, 7, 8, 9, 10, 11, 13, 14, 15, 16, 17, 18, 19] ?_
  conv => whnf
  refine And.intro ?_ ?_
  · exact allU_dec (by decide +kernel)
  rw [aw1]
  conv => whnf
  refine And.intro ?_ ?_
  · exact allU_dec (by decide +kernel)
  rw [aw2]
  conv => whnf
  rw [aw8]
  conv => whnf
  rw [aw3]
  conv => whnf
  refine And.intro ?_ ?_
  · exact allU_dec (by decide +kernel)
  rw [aw4]
  conv => whnf
  rw [aw5]
  conv => whnf
  refine And.intro ?_ ?_
  · refine ⟨?_, ?_, ?_⟩
    · exact allU_dec (by decide +kernel)
    · exact u64_of (by decide +kernel)
    · exact u64_of (by decide +kernel)
  rw [aw6]
  conv => whnf
  refine And.intro ?_ ?_
  · refine ⟨?_, ?_, ?_⟩
    · exact allU_dec (by decide +kernel)
    · exact u64_of (by decide +kernel)
    · exact u64_of (by decide +kernel)
  rw [aw7]
  conv => whnf
  repeat' (first | (refine ifB_t (by assumption) ?_; conv => whnf) | (refine ifB_f (by assumption) ?_; conv => whnf) | (refine ifB_dec (fun h => ?_) (fun h => ?_) <;> (first | (exfalso; omega) | (conv => whnf))) | (refine ifB_eq (fun h => ?_) (fun h => ?_) <;> (first | (exfalso; omega) | (conv => whnf))) | (refine ifB_ne (fun h => ?_) (fun h => ?_) <;> (first | (exfalso; omega) | (conv => whnf))) | (refine ifB_not ?_; conv => whnf) | (refine ifB_and ?_; conv => whnf) | (refine ifB_or ?_; conv => whnf) | (refine And.intro ?_ ?_; (first | omega | assumption | (exact allU_getD (by assumption) _) | (simp only [cutL]; omega) | (refine And.intro ?_ ?_ <;> first | assumption | exact allU_getD (by assumption) _) | (simp only [cutL, IntKind.wrap_u64, IntKind.wrap_i64] at *; omega) | decide); conv => whnf) | (refine ifB_mk (fun h => ?_) (fun h => ?_) <;> (conv => whnf)))
  all_goals exact congrArg (fun b => T.v (Value.bool b)) (by decide +kernel)
def eAwake : Entry := ⟨9, 3, fun l => match l with | [] => some (none, .v (.bool true), []) | _ => none⟩
theorem eAwake_ok : eAwake.ok Tryd.prog glR := ⟨enters_of Tryd.func9 (by kernel_rfl) (by kernel_rfl), by
  intro args c t bs h hc
  simp only [eAwake] at h
  split at h <;> cases h
  exact awake_pure⟩
end Go.Proofs.YtlcpcgdecodjfaaDoor
namespace Go.Proofs.YtlcpcgdecodjfaaDoor
open Go.RowKit Go.Proofs.YtlcpcgdecodjfaaDoor.Am
set_option linter.unusedVariables false
set_option linter.unusedSimpArgs false

def pad (n : Nat) (l : List Int) : List Int := l ++ List.replicate (n - l.length) 0
theorem pad_len {n : Nat} {l : List Int} (h : l.length ≤ n) : (pad n l).length = n := by simp [pad]; omega
theorem pad_getD (n : Nat) (l : List Int) (q : Nat) : (pad n l).getD q 0 = l.getD q 0 := by
  unfold pad
  by_cases h : q < l.length
  · simp [List.getD, List.getElem?_append, h]
  · have h2 : l[q]? = none := List.getElem?_eq_none (by omega)
    by_cases h3 : q - l.length < n - l.length
    · simp [List.getD, List.getElem?_append, h, h2, List.getElem?_replicate, h3]
    · simp [List.getD, List.getElem?_append, h, h2, List.getElem?_replicate, h3]
theorem cnt_pad (n : Nat) (l : List Int) {k : Int} (hk : k ≠ 0) : cnt (pad n l) k = cnt l k := by
  unfold cnt pad
  rw [List.count_append, List.count_replicate]
  simp [Ne.symm hk]
theorem castW_pad (n : Nat) (l : List Int) : castW n (pad n l) = castW n l := by
  refine getD_ext (by simp [castW_len]) fun q hq => ?_
  rw [castW_len] at hq
  rw [castW_getD n _ hq, castW_getD n _ hq, pad_getD]
  by_cases q0 : q = 0
  · rw [if_pos q0, if_pos q0]
  rw [if_neg q0, if_neg q0]
  by_cases q1 : q ≤ n
  · rw [if_pos q1, if_pos q1]
  · rw [if_neg q1, if_neg q1, cnt_pad n l (by omega)]
theorem pad_snoc {n : Nat} {l : List Int} (v : Int) (h : l.length < n) : pad n (l ++ [v]) = (pad n l).set l.length v := by
  refine getD_ext (by simp [pad]; omega) fun q hq => ?_
  rw [pad_getD, getD_snoc, getD_set, pad_getD, pad_len (by omega)]
  rw [pad_len (by simp; omega)] at hq
  by_cases h2 : q = l.length
  · rw [if_pos h2, if_pos ⟨h2.symm, hq⟩]
  · rw [if_neg h2, if_neg (fun h3 => h2 h3.1.symm)]
theorem castW_votes {n : Nat} {vs : List Int} (h : vs.length = n) : votesW n (castW n vs) = vs := by
  refine getD_ext (by simp [votesW, castW_len]; omega) fun q hq => ?_
  have hq : q < n := by simp [votesW, castW_len] at hq; omega
  have e : (votesW n (castW n vs)).getD q 0 = (castW n vs).getD (1 + q) 0 := by
    unfold votesW
    rw [List.getD_eq_getElem?_getD, List.getD_eq_getElem?_getD, List.getElem?_take_of_lt hq, List.getElem?_drop]
  rw [e, castW_getD n _ (by omega), if_neg (by omega), if_pos (by omega)]
  congr 1; omega
theorem castW_told {n : Nat} {vs : List Int} (h : vs.length = n) : toldW n (castW n vs) = (tally9 vs).drop 1 := by
  refine getD_ext (by simp [toldW, castW_len, tally9]; omega) fun q hq => ?_
  simp [toldW, castW_len] at hq
  have e : (toldW n (castW n vs)).getD q 0 = (castW n vs).getD (1 + n + q) 0 := by simp [toldW, List.getD]
  rw [e, castW_getD n _ (by omega), if_neg (by omega), if_neg (by omega)]
  have : q = 0 ∨ q = 1 ∨ q = 2 ∨ q = 3 ∨ q = 4 ∨ q = 5 ∨ q = 6 ∨ q = 7 := by omega
  rcases this with rfl | rfl | rfl | rfl | rfl | rfl | rfl | rfl <;> simp [tally9] <;> (congr 1; omega)
theorem castW_head (n : Nat) (vs : List Int) : (castW n vs).getD 0 0 = 0 := by rw [castW_getD n _ (by omega), if_pos rfl]
theorem okV_le {vs : List Int} (h : okV vs = true) : allLe vs = true := by
  unfold okV at h; unfold allLe
  rw [List.all_eq_true] at h ⊢
  intro x hx
  have := of_decide_eq_true (h x hx)
  exact decide_eq_true this.2
theorem rightB_cast {n : Nat} {vs : List Int} (h : vs.length = n) (ho : okV vs = true) : rightB n (castW n vs) = true := by
  unfold rightB
  rw [castW_votes h, castW_told h, castW_head, okV_le ho]
  simp
theorem set_drop1 (w : List Int) (v : Int) : (w.set 0 v).drop 1 = w.drop 1 := by cases w <;> rfl
theorem votesW_set0 (n : Nat) (w : List Int) (v : Int) : votesW n (w.set 0 v) = votesW n w := by unfold votesW; rw [set_drop1]
theorem toldW_set0 (n : Nat) (w : List Int) (v : Int) : toldW n (w.set 0 v) = toldW n w := by
  unfold toldW; rw [← List.drop_drop, ← List.drop_drop, set_drop1]
theorem rightB_close {n : Nat} {vs : List Int} (h : vs.length = n) (ho : okV vs = true) : rightB n ((castW n vs).set 0 1) = true := by
  unfold rightB
  rw [votesW_set0, toldW_set0, castW_votes h, castW_told h, okV_le ho, getD_set, if_pos ⟨rfl, by rw [castW_len]; omega⟩]
  simp
theorem fits5 {n : Nat} (h1 : 1 ≤ n) (h2 : n ≤ 256) : fitsB 5 1 n = true := decide_eq_true ⟨by omega, by omega, by omega, by omega, by omega, by omega⟩
theorem cast_ok {n : Nat} {l : List Int} (h1 : 1 ≤ n) (h2 : n ≤ 256) (hl : l.length ≤ n) (ho : okV l = true) : castS 5 1 n l = (castW n l, 0) := by
  unfold castS; rw [if_pos ⟨fits5 h1 h2, rfl⟩, if_pos (by omega), if_pos ho]; rfl
/-- How many votes each choice has. -/
def talL (l : List Int) : List Int := [0, cnt l 1, cnt l 2, cnt l 3, cnt l 4, cnt l 5, cnt l 6, cnt l 7, cnt l 8]
def win (l : List Int) : Nat := bestN (talL l) 9
theorem tal_ok {l : List Int} (h : okV l = true) : tal l = talL l := by simp [tal, talL, tl, okV_le h]
theorem win_cast {n : Nat} {vs : List Int} (h1 : 1 ≤ n) (h2 : n ≤ 256) (h : vs.length = n) (ho : okV vs = true) : winS 5 1 n (castW n vs) = (((win vs : Nat) : Int), (0 : Int)) := by
  unfold winS
  rw [if_pos ⟨fits5 h1 h2, rfl⟩, Int.toNat_natCast, if_pos ⟨by rw [castW_len]; omega, rightB_cast h ho⟩, castW_votes h, tal_ok ho]; rfl
theorem win_close {n : Nat} {vs : List Int} (h1 : 1 ≤ n) (h2 : n ≤ 256) (h : vs.length = n) (ho : okV vs = true) : winS 5 1 n ((castW n vs).set 0 1) = (((win vs : Nat) : Int), (0 : Int)) := by
  unfold winS
  rw [if_pos ⟨fits5 h1 h2, rfl⟩, Int.toNat_natCast, if_pos ⟨by rw [List.length_set, castW_len]; omega, rightB_close h ho⟩, votesW_set0, castW_votes h, tal_ok ho]; rfl
theorem apply5 {n : Nat} {w : List Int} (h1 : 1 ≤ n) (h2 : n ≤ 256) (hl : w.length = n + 9) (hr : rightB n w = true) (code key v : Int) : applyS 5 1 n w code key v = ((balDo n w code key v).1, (balDo n w code key v).2.1, (balDo n w code key v).2.2, 0) := by
  unfold applyS
  rw [if_pos ⟨fits5 h1 h2, .inr rfl⟩, if_pos (by rw [hl]; show _ = 9 + (n : Int); omega), if_neg (by omega), Int.toNat_natCast, if_pos hr]
theorem apply_close {n : Nat} {vs : List Int} (h1 : 1 ≤ n) (h2 : n ≤ 256) (h : vs.length = n) (ho : okV vs = true) : applyS 5 1 n (castW n vs) 13 0 0 = ((castW n vs).set 0 1, 0, 1, 0) := by
  rw [apply5 h1 h2 (castW_len _ _) (rightB_cast h ho)]
  have e : balDo n (castW n vs) 13 0 0 = ((castW n vs).set 0 1, 0, 1) := by
    unfold balDo; rw [if_neg (by omega), if_pos rfl, castW_head]; rfl
  rw [e]
theorem cnt_set {vs : List Int} {k : Nat} {v j : Int} (hk : k < vs.length) (h0 : vs.getD k 0 = 0) (hj : j ≠ 0) : cnt (vs.set k v) j = cnt vs j + if v = j then 1 else 0 := by
  unfold cnt
  have h0' : vs[k] = 0 := by simpa [List.getD, hk] using h0
  rw [List.count_set hk, h0']
  by_cases h : v = j
  · simp [h, Ne.symm hj]
  · simp [h, Ne.symm hj]
theorem castW_set {n : Nat} {vs : List Int} {k : Nat} {v : Int} (hn : n ≤ 1000) (h : vs.length = n) (hk : k < n) (h0 : vs.getD k 0 = 0) (h1 : 1 ≤ v) (h8 : v ≤ 8) :
    ((castW n vs).set (1 + k) v).set (n + v.toNat) (IntKind.u64.wrap ((castW n vs).getD (n + v.toNat) 0 + 1)) = castW n (vs.set k v) := by
  refine getD_ext (by simp [castW_len]) fun q hq => ?_
  simp only [List.length_set, castW_len] at hq
  simp only [getD_set, List.length_set, castW_len]
  rw [castW_getD n _ hq, castW_getD n _ hq, castW_getD n _ (by omega), getD_set]
  have hc := cnt_le vs ((n + v.toNat - n : Nat) : Int)
  rw [if_neg (by omega : ¬ n + v.toNat = 0), if_neg (by omega : ¬ n + v.toNat ≤ n), wrapU (by omega) (by omega)]
  by_cases q0 : q = 0
  · subst q0; simp; omega
  rw [if_neg q0, if_neg q0]
  by_cases q1 : q ≤ n
  · rw [if_neg (by omega), if_pos q1, if_pos q1]
    by_cases q2 : 1 + k = q
    · rw [if_pos ⟨q2, hq⟩, if_pos ⟨by omega, by omega⟩]
    · rw [if_neg (fun h => q2 h.1), if_neg (by omega)]
  · rw [if_neg q1, if_neg q1, cnt_set (by omega) h0 (by omega)]
    by_cases q2 : n + v.toNat = q
    · subst q2; rw [if_pos ⟨rfl, hq⟩, if_pos (by omega)]
    · rw [if_neg (fun h => q2 h.1), if_neg (by omega), if_neg (by omega)]; omega
theorem apply_cast {n : Nat} {vs : List Int} {k : Nat} {v : Int} (h1 : 1 ≤ n) (h2 : n ≤ 256) (h : vs.length = n) (ho : okV vs = true) (hk : k < n) (h0 : vs.getD k 0 = 0) (hv : 1 ≤ v ∧ v ≤ 8) :
    applyS 5 1 n (castW n vs) 12 k v = (castW n (vs.set k v), 0, 0, 0) := by
  rw [apply5 h1 h2 (castW_len _ _) (rightB_cast h ho)]
  have e : balDo n (castW n vs) 12 k v = (castW n (vs.set k v), 0, 0) := by
    unfold balDo
    rw [if_pos rfl, if_pos ⟨by omega, hv⟩, if_neg (by rw [castW_head]; omega), Int.toNat_natCast, if_pos (by rw [castW_getD n _ (by omega), if_neg (by omega), if_pos (by omega)]; rw [show 1 + k - 1 = k by omega]; exact h0), castW_set (by omega) h hk h0 hv.1 hv.2]
  rw [e]
theorem apply_voted {n : Nat} {vs : List Int} {k : Nat} {v : Int} (h1 : 1 ≤ n) (h2 : n ≤ 256) (h : vs.length = n) (ho : okV vs = true) (hk : k < n) (h0 : vs.getD k 0 ≠ 0) (hv : 1 ≤ v ∧ v ≤ 8) :
    applyS 5 1 n (castW n vs) 12 k v = (castW n vs, 13, 0, 0) := by
  rw [apply5 h1 h2 (castW_len _ _) (rightB_cast h ho)]
  have e : balDo n (castW n vs) 12 k v = (castW n vs, 13, 0) := by
    unfold balDo
    rw [if_pos rfl, if_pos ⟨by omega, hv⟩, if_neg (by rw [castW_head]; omega), Int.toNat_natCast, if_neg (by rw [castW_getD n _ (by omega), if_neg (by omega), if_pos (by omega)]; rw [show 1 + k - 1 = k by omega]; exact h0)]
  rw [e]
theorem apply_closed {n : Nat} {vs : List Int} {k : Nat} {v : Int} (h1 : 1 ≤ n) (h2 : n ≤ 256) (h : vs.length = n) (ho : okV vs = true) (hk : k < n) (hv : 1 ≤ v ∧ v ≤ 8) :
    applyS 5 1 n ((castW n vs).set 0 1) 12 k v = ((castW n vs).set 0 1, 14, 0, 0) := by
  rw [apply5 h1 h2 (by rw [List.length_set, castW_len]) (rightB_close h ho)]
  have e : balDo n ((castW n vs).set 0 1) 12 k v = ((castW n vs).set 0 1, 14, 0) := by
    unfold balDo
    rw [if_pos rfl, if_pos ⟨by omega, hv⟩, if_pos (by rw [getD_set, if_pos ⟨rfl, by rw [castW_len]; omega⟩])]
  rw [e]
/-! ### the winner -/
theorem bestN_best (t : List Int) (i : Nat) : ∀ q, q < i → t.getD q 0 ≤ t.getD (bestN t i) 0 ∧ (q < bestN t i → t.getD q 0 < t.getD (bestN t i) 0) := by
  induction i with
  | zero => intro q hq; omega
  | succ i ih =>
    intro q hq
    simp only [bestN]
    split
    · rename_i h
      by_cases hqi : q = i
      · subst hqi; exact ⟨by omega, fun h => by omega⟩
      · have := (ih q (by omega)).1; exact ⟨by omega, fun _ => by omega⟩
    · rename_i h
      by_cases hqi : q = i
      · subst hqi
        refine ⟨by omega, fun h2 => ?_⟩
        by_cases h0 : q = 0
        · subst h0; simp [bestN] at h2
        · have := bestN_lt t q (by omega); omega
      · exact ih q (by omega)
theorem bestN_is {t : List Int} {i b : Nat} (hb : b < i) (h : ∀ q, q < i → t.getD q 0 ≤ t.getD b 0 ∧ (q < b → t.getD q 0 < t.getD b 0)) : bestN t i = b := by
  have h1 := bestN_best t i b hb
  have hl := bestN_lt t i (by omega)
  have h2 := h (bestN t i) hl
  by_cases e : bestN t i = b
  · exact e
  · by_cases e2 : b < bestN t i
    · have := h1.2 e2; omega
    · have := h2.2 (by omega); omega
theorem win_lt (l : List Int) : win l < 9 := bestN_lt _ 9 (by omega)
theorem talL_getD (l : List Int) {q : Nat} (h1 : 1 ≤ q) (h8 : q < 9) : (talL l).getD q 0 = cnt l q := by
  have : q = 1 ∨ q = 2 ∨ q = 3 ∨ q = 4 ∨ q = 5 ∨ q = 6 ∨ q = 7 ∨ q = 8 := by omega
  rcases this with rfl | rfl | rfl | rfl | rfl | rfl | rfl | rfl <;> rfl
theorem win_more {vs : List Int} {k : Nat} (hk : k < vs.length) (h0 : vs.getD k 0 = 0) (hw : win vs ≠ 0) : win (vs.set k (win vs)) = win vs := by
  have hl := win_lt vs
  have hb := bestN_best (talL vs) 9
  have g : ∀ q, 1 ≤ q → q < 9 → (talL (vs.set k (win vs))).getD q 0 = (talL vs).getD q 0 + if win vs = q then 1 else 0 := by
    intro q q1 q8
    rw [talL_getD _ q1 q8, talL_getD _ q1 q8, cnt_set hk h0 (by omega)]
    by_cases h : win vs = q
    · rw [if_pos h, if_pos (by omega)]
    · rw [if_neg h, if_neg (by omega)]
  refine bestN_is hl fun q hq => ?_
  have := hb q hq
  change (talL vs).getD q 0 ≤ (talL vs).getD (win vs) 0 ∧ (q < win vs → (talL vs).getD q 0 < (talL vs).getD (win vs) 0) at this
  rw [g (win vs) (by omega) hl, if_pos rfl]
  by_cases q0 : q = 0
  · subst q0
    have e1 : (talL (vs.set k (win vs))).getD 0 0 = 0 := rfl
    have e2 : (talL vs).getD 0 0 = 0 := rfl
    rw [e1]; rw [e2] at this; exact ⟨by omega, fun _ => by omega⟩
  · rw [g q (by omega) hq]
    by_cases e : win vs = q
    · rw [if_pos e, e]; exact ⟨by omega, fun h => by omega⟩
    · rw [if_neg e]; exact ⟨by omega, fun h => by have := this.2 h; omega⟩
theorem okV_set {vs : List Int} {k : Nat} {v : Int} (h : okV vs = true) (h1 : 0 ≤ v ∧ v ≤ 8) : okV (vs.set k v) = true := by
  unfold okV at h ⊢
  rw [List.all_eq_true] at h ⊢
  intro x hx
  rcases List.mem_or_eq_of_mem_set hx with h2 | rfl
  · exact h x h2
  · exact decide_eq_true h1
theorem okV_pad {n : Nat} {l : List Int} (h : okV l = true) : okV (pad n l) = true := by
  unfold okV pad at *
  rw [List.all_append, h, Bool.true_and, List.all_eq_true]
  intro x hx
  have := List.eq_of_mem_replicate hx
  subst this; rfl
theorem okV_chs (c : Int) (xs : List Int) : okV (chs c xs) = true := by
  unfold okV chs
  rw [List.all_eq_true]
  intro x hx
  obtain ⟨y, _, rfl⟩ := List.mem_map.1 hx
  have := ipick_bounds y (n := 9) (by omega)
  exact decide_eq_true (by omega)
theorem talL_pad (n : Nat) (l : List Int) : talL (pad n l) = talL l := by
  unfold talL; simp only [cnt_pad n l (k := 1) (by omega), cnt_pad n l (k := 2) (by omega), cnt_pad n l (k := 3) (by omega), cnt_pad n l (k := 4) (by omega), cnt_pad n l (k := 5) (by omega), cnt_pad n l (k := 6) (by omega), cnt_pad n l (k := 7) (by omega), cnt_pad n l (k := 8) (by omega)]
theorem win_pad (n : Nat) (l : List Int) : win (pad n l) = win l := by unfold win; rw [talL_pad]
theorem win_best (l : List Int) (q : Nat) (hq : q < 9) : (talL l).getD q 0 ≤ (talL l).getD (win l) 0 ∧ (q < win l → (talL l).getD q 0 < (talL l).getD (win l) 0) := bestN_best (talL l) 9 q hq
theorem okV_getD {l : List Int} (h : okV l = true) (j : Nat) : 0 ≤ l.getD j 0 ∧ l.getD j 0 ≤ 8 := by
  by_cases hj : j < l.length
  · unfold okV at h
    rw [List.all_eq_true] at h
    have e : l.getD j 0 = l[j] := by simp [List.getD, hj]
    rw [e]; exact of_decide_eq_true (h _ (List.getElem_mem hj))
  · have e : l.getD j 0 = 0 := by simp [List.getD, List.getElem?_eq_none (Nat.le_of_not_lt hj)]
    rw [e]; omega
theorem tally_stepI (ys : List Int) (v : Int) (h0 : 0 ≤ v) (h8 : v ≤ 8) (hl : ys.length ≤ 1000) : (tally9 ys).set v.toNat (IntKind.i64.wrap ((tally9 ys).getD v.toNat 0 + 1)) = tally9 (ys ++ [v]) := by
  have hw : ∀ k, IntKind.i64.wrap (cnt ys k + 1) = cnt ys k + 1 := fun k => by have := cnt_le ys k; exact wrap64 (by omega) (by omega)
  have : v = 0 ∨ v = 1 ∨ v = 2 ∨ v = 3 ∨ v = 4 ∨ v = 5 ∨ v = 6 ∨ v = 7 ∨ v = 8 := by omega
  rcases this with rfl | rfl | rfl | rfl | rfl | rfl | rfl | rfl | rfl <;> simp [tally9, cnt_snoc, hw]
theorem allU_cast {n : Nat} {vs : List Int} (ho : okV vs = true) (hl : vs.length ≤ 256) : AllU (castW n vs) := by
  intro x hx
  unfold castW at hx
  obtain ⟨q, _, rfl⟩ := List.mem_map.1 hx
  have hc := cnt_le vs ((q - n : Nat) : Int)
  have hg : 0 ≤ vs.getD (q - 1) 0 ∧ vs.getD (q - 1) 0 ≤ 8 := by
    by_cases h : q - 1 < vs.length
    · unfold okV at ho
      rw [List.all_eq_true] at ho
      have e : vs.getD (q - 1) 0 = vs[q - 1] := by simp [List.getD, h]
      rw [e]; exact of_decide_eq_true (ho _ (List.getElem_mem h))
    · have e : vs.getD (q - 1) 0 = 0 := by simp [List.getD, List.getElem?_eq_none (Nat.le_of_not_lt h)]
      rw [e]; omega
  split
  · exact ⟨by omega, by omega⟩
  · split
    · exact ⟨by omega, by omega⟩
    · exact ⟨by omega, by omega⟩
end Go.Proofs.YtlcpcgdecodjfaaDoor

namespace Go.Proofs.YtlcpcgdecodjfaaDoor
open Go.RowKit Go.Proofs.YtlcpcgdecodjfaaDoor.Am
set_option linter.unusedVariables false
set_option linter.unusedSimpArgs false

noncomputable def ctxPlH (P : Program) (h : EqR P) : Ctx := ctx P glR [eAwake, eBox, eChoices, eCast, eWinner, eApply, eWords] [55] h [] (fun _ h => by cases h)
theorem ctxPlH_good : (ctxPlH Tryd.prog eqR).good := ctx_good (by kernel_rfl) (AllOk.mem ⟨eAwake_ok, eBox_ok, eChoices_ok, eCast_ok, eWinner_ok, eApply_ok, eWords_ok, trivial⟩) glR_two
attribute [local irreducible] foldS castS winS applyS chs castW win
set_option maxRecDepth 100000 in
set_option maxHeartbeats 4000000 in
theorem winner_pure (room : Int) (hr : I64 room) (m : Nat) (raw : List Int) (hx : AllI raw) : Pure Tryd.prog glR 5 [.v (.int .i64 room), .fl [.i64] m raw] (.v (.bool true)) := by
  refine pure_wf fun hw => ?_
  obtain ⟨-, ⟨w1, w2⟩, -⟩ := hw
  simp only [List.length_cons, List.length_nil, Nat.zero_add, Nat.mul_one] at w1
  obtain ⟨b1, b2⟩ := ipick_bounds room (n := 12) (by omega)
  obtain ⟨n, hn⟩ := Int.eq_ofNat_of_zero_le (a := 1 + ipick room 12) (by omega)
  have n1 : 1 ≤ n := by omega
  have n2 : n ≤ 256 := by omega
  have hl : (chs n raw).length = min m n := by simp [chs]; omega
  have ho : okV (chs n raw) = true := okV_chs _ _
  have hp := pad_len (n := n) (l := chs n raw) (by omega)
  have hq := okV_pad (n := n) ho
  have hcw := castW_pad n (chs n raw)
  have l1 := cast_ok n1 n2 (l := chs n raw) (by omega) ho
  have l2 := win_cast n1 n2 hp hq
  have l3 := apply_close n1 n2 hp hq
  have l4 := win_close n1 n2 hp hq
  rw [hcw] at l2 l3 l4
  obtain ⟨b, hbd⟩ : ∃ b, win (pad n (chs n raw)) = b := ⟨_, rfl⟩
  have hb : b < 9 := hbd ▸ win_lt _
  rw [hbd] at l2 l4
  have hU : AllU (castW n (chs n raw)) := allU_cast ho (by omega)
  refine pure_of (C := ctxPlH Tryd.prog eqR) ctxPlH_good Tryd.func5 (c := bodyOf Tryd.f5) (by rfl) (Nat.le_of_ble_eq_true (by rfl)) 4 0 [0, 1, 4, 5, 6, 7, 8, 9, 10, 11, 12, 13, 14, 15, 17, 18, 19, 20, 21, 22, 23, 24, 25, 26, 27, 59, 63, 76, 99, 124, 133] ?_
  conv => whnf
  refine And.intro hr ?_
  rw [hn]
  conv => whnf
  refine And.intro ⟨by omega, hx⟩ ?_
  conv => whnf
  rw [l1]
  conv => whnf
  refine And.intro hU ?_
  rw [l2]
  conv => whnf
  repeat' (first | (refine ifB_t (by assumption) ?_; conv => whnf) | (refine ifB_f (by assumption) ?_; conv => whnf) | (refine ifB_dec (fun h => ?_) (fun h => ?_) <;> (first | (exfalso; omega) | (conv => whnf))) | (refine ifB_eq (fun h => ?_) (fun h => ?_) <;> (first | (exfalso; omega) | (conv => whnf))) | (refine ifB_ne (fun h => ?_) (fun h => ?_) <;> (first | (exfalso; omega) | (conv => whnf))) | (refine ifB_not ?_; conv => whnf) | (refine ifB_and ?_; conv => whnf) | (refine ifB_or ?_; conv => whnf) | (refine And.intro ?_ ?_; (first | omega | assumption | (exact allU_getD (by assumption) _) | (simp only [cutL]; omega) | (refine And.intro ?_ ?_ <;> first | assumption | exact allU_getD (by assumption) _) | (simp only [cutL, IntKind.wrap_u64, IntKind.wrap_i64] at *; omega) | decide); conv => whnf) | (refine ifB_mk (fun h => ?_) (fun h => ?_) <;> (conv => whnf)))
  refine TW.loopD ctxPlH_good 0 (base := 0) (lv := [0, 1, 4, 5, 6, 7, 8, 9, 10, 11, 12, 13, 14, 15, 17, 18, 19, 20, 21, 22, 23, 24, 25, 26, 27, 59, 63, 76, 99, 124, 133]) [13] [48] [(48, 48)] (fun j : Nat => [.v (.int .i64 j)]) (fun j => [.fl [.i64] (tally9 ((chs n raw).take j))]) (fun j => j ≤ min m n) (fun j => min m n - j) ?_
  conv => whnf
  refine ⟨⟨0, ⟨rfl, rfl, rfl⟩, Nat.zero_le _⟩, fun j hj => ?_⟩
  conv => whnf
  replace hj : j ≤ min m n := hj
  have hv := okV_getD ho j
  have ev : (chs n raw).getD (0 + addN 0 (j : Int).toNat * (0 + 1)) 0 = (chs n raw).getD j 0 := by simp [addN_eq]
  refine ifB_dec (fun h => ?_) (fun h => ?_)
  · conv => whnf
    refine And.intro (by omega) ?_
    conv => whnf
    rw [ev]
    repeat' (first | (refine ifB_t (by assumption) ?_; conv => whnf) | (refine ifB_f (by assumption) ?_; conv => whnf) | (refine ifB_dec (fun h => ?_) (fun h => ?_) <;> (first | (exfalso; omega) | (conv => whnf))) | (refine ifB_eq (fun h => ?_) (fun h => ?_) <;> (first | (exfalso; omega) | (conv => whnf))) | (refine ifB_ne (fun h => ?_) (fun h => ?_) <;> (first | (exfalso; omega) | (conv => whnf))) | (refine ifB_not ?_; conv => whnf) | (refine ifB_and ?_; conv => whnf) | (refine ifB_or ?_; conv => whnf) | (refine And.intro ?_ ?_; (first | omega | assumption | (exact allU_getD (by assumption) _) | (simp only [cutL]; omega) | (refine And.intro ?_ ?_ <;> first | assumption | exact allU_getD (by assumption) _) | (simp only [cutL, IntKind.wrap_u64, IntKind.wrap_i64] at *; omega) | decide); conv => whnf) | (refine ifB_mk (fun h => ?_) (fun h => ?_) <;> (conv => whnf)))
    rw [wsucc (n := min m n) (by omega) (by omega)]
    have e2 : 0 + ((chs n raw).getD j 0).toNat * (0 + 1) = ((chs n raw).getD j 0).toNat := by omega
    have e3 : 0 + ((chs n raw).getD j 0).toNat * (0 + 1) + 0 = ((chs n raw).getD j 0).toNat := by omega
    rw [e3, e2, tally_stepI _ _ hv.1 hv.2 (by simp; omega), ← take_snoc (by omega)]
    exact ⟨j + 1, [(48, 48)], ⟨rfl, rfl, rfl⟩, (by omega : j + 1 ≤ min m n), by (try dsimp only); omega⟩
  · conv => whnf
    have et : (chs n raw).take j = chs n raw := List.take_of_length_le (by omega)
    clear hv ev
    repeat' (first | (refine ifB_t (by assumption) ?_; conv => whnf) | (refine ifB_f (by assumption) ?_; conv => whnf) | (refine ifB_dec (fun h => ?_) (fun h => ?_) <;> (first | (exfalso; omega) | (conv => whnf))) | (refine ifB_eq (fun h => ?_) (fun h => ?_) <;> (first | (exfalso; omega) | (conv => whnf))) | (refine ifB_ne (fun h => ?_) (fun h => ?_) <;> (first | (exfalso; omega) | (conv => whnf))) | (refine ifB_not ?_; conv => whnf) | (refine ifB_and ?_; conv => whnf) | (refine ifB_or ?_; conv => whnf) | (refine And.intro ?_ ?_; (first | omega | assumption | (exact allU_getD (by assumption) _) | (simp only [cutL]; omega) | (refine And.intro ?_ ?_ <;> first | assumption | exact allU_getD (by assumption) _) | (simp only [cutL, IntKind.wrap_u64, IntKind.wrap_i64] at *; omega) | decide); conv => whnf) | (refine ifB_mk (fun h => ?_) (fun h => ?_) <;> (conv => whnf)))
    rw [et]
    have hB : ∀ q, q < 9 → (talL (chs n raw)).getD q 0 ≤ (talL (chs n raw)).getD b 0 ∧ (q < b → (talL (chs n raw)).getD q 0 < (talL (chs n raw)).getD b 0) := fun q hq => by
      have := win_best (chs n raw) q hq
      rw [win_pad] at hbd
      rwa [hbd] at this
    refine TW.loopD ctxPlH_good 0 (base := 0) (lv := [0, 1, 4, 5, 6, 7, 8, 9, 10, 11, 12, 13, 14, 15, 17, 18, 19, 20, 21, 22, 23, 24, 25, 26, 27, 59, 63, 76, 99, 124, 133]) [14] [48] [(48, 48)] (fun k : Nat => [.v (.int .i64 k)]) (fun k => [.fl [.i64] (talL (chs n raw))]) (fun k => k ≤ 9) (fun k => 9 - k) ?_
    conv => whnf
    refine ⟨⟨0, ⟨rfl, rfl, rfl⟩, Nat.zero_le _⟩, fun k hk => ?_⟩
    replace hk : k ≤ 9 := hk
    conv => whnf
    refine ifB_dec (fun h => ?_) (fun h => ?_)
    · conv => whnf
      have hBk := hB k (by omega)
      repeat' (first | (refine ifB_t (by assumption) ?_; conv => whnf) | (refine ifB_f (by assumption) ?_; conv => whnf) | (refine ifB_dec (fun h => ?_) (fun h => ?_) <;> (first | (exfalso; omega) | (conv => whnf))) | (refine ifB_eq (fun h => ?_) (fun h => ?_) <;> (first | (exfalso; omega) | (conv => whnf))) | (refine ifB_ne (fun h => ?_) (fun h => ?_) <;> (first | (exfalso; omega) | (conv => whnf))) | (refine ifB_not ?_; conv => whnf) | (refine ifB_and ?_; conv => whnf) | (refine ifB_or ?_; conv => whnf) | (refine And.intro ?_ ?_; (first | omega | assumption | (exact allU_getD (by assumption) _) | (simp only [cutL]; omega) | (refine And.intro ?_ ?_ <;> first | assumption | exact allU_getD (by assumption) _) | (simp only [cutL, IntKind.wrap_u64, IntKind.wrap_i64] at *; omega) | decide); conv => whnf) | (refine ifB_mk (fun h => ?_) (fun h => ?_) <;> (conv => whnf)))
      all_goals first | (exfalso; simp only [Nat.zero_add, Nat.mul_one, Int.toNat_natCast] at *; omega) | (rw [wsucc (n := 9) (by omega) (by omega)]; exact ⟨k + 1, [(48, 48)], ⟨rfl, rfl, rfl⟩, (by omega : k + 1 ≤ 9), by (try dsimp only); omega⟩)
    · conv => whnf
      refine And.intro ⟨hU, u64_of (by decide +kernel), u64_of (by decide +kernel)⟩ ?_
      rw [l3]
      conv => whnf
      refine And.intro (allU_set hU _ ⟨by omega, by omega⟩) ?_
      rw [l4]
      conv => whnf
      repeat' (first | (refine ifB_t (by assumption) ?_; conv => whnf) | (refine ifB_f (by assumption) ?_; conv => whnf) | (refine ifB_dec (fun h => ?_) (fun h => ?_) <;> (first | (exfalso; omega) | (conv => whnf))) | (refine ifB_eq (fun h => ?_) (fun h => ?_) <;> (first | (exfalso; omega) | (conv => whnf))) | (refine ifB_ne (fun h => ?_) (fun h => ?_) <;> (first | (exfalso; omega) | (conv => whnf))) | (refine ifB_not ?_; conv => whnf) | (refine ifB_and ?_; conv => whnf) | (refine ifB_or ?_; conv => whnf) | (refine And.intro ?_ ?_; (first | omega | assumption | (exact allU_getD (by assumption) _) | (simp only [cutL]; omega) | (refine And.intro ?_ ?_ <;> first | assumption | exact allU_getD (by assumption) _) | (simp only [cutL, IntKind.wrap_u64, IntKind.wrap_i64] at *; omega) | decide); conv => whnf) | (refine ifB_mk (fun h => ?_) (fun h => ?_) <;> (conv => whnf)))
      · rename_i g1 g2
        have g2 : ¬ (b : Int) = 0 := h
        have eL : IntKind.u64.wrap ((min m (n : Int).toNat : Nat) : Int) = ((min m n : Nat) : Int) := wrapU (by omega) (by omega)
        have eb : IntKind.u64.wrap (b : Int) = b := wrapU (by omega) (by omega)
        have kn : min m n < n := by omega
        have h0 : (pad n (chs n raw)).getD (min m n) 0 = 0 := by
          rw [pad_getD]; simp [List.getD, List.getElem?_eq_none (Nat.le_of_eq hl)]
        have hv : (1 : Int) ≤ b ∧ (b : Int) ≤ 8 := by omega
        have l5 := apply_cast (v := b) n1 n2 hp hq kn h0 hv
        have l7 := apply_closed (v := b) n1 n2 hp hq kn hv
        have hp' : ((pad n (chs n raw)).set (min m n) b).length = n := by rw [List.length_set, hp]
        have hq' := okV_set (k := min m n) hq (v := b) (by omega)
        have l6 := win_cast n1 n2 hp' hq'
        have hm := win_more (by omega) h0 (by omega)
        rw [hbd] at hm
        rw [hm] at l6
        rw [hcw] at l5 l7
        have hU2 : AllU (castW n ((pad n (chs n raw)).set (min m n) b)) := allU_cast hq' (by omega)
        refine And.intro ⟨hU, by rw [eL]; exact ⟨by omega, by omega⟩, by show U64 (IntKind.u64.wrap (b : Int)); rw [eb]; exact ⟨by omega, by omega⟩⟩ ?_
        rw [eL, eb, l5]
        conv => whnf
        refine And.intro hU2 ?_
        rw [l6]
        conv => whnf
        refine And.intro ⟨allU_set hU _ ⟨by omega, by omega⟩, by rw [eL]; exact ⟨by omega, by omega⟩, by show U64 (IntKind.u64.wrap (b : Int)); rw [eb]; exact ⟨by omega, by omega⟩⟩ ?_
        rw [eL, eb, l7]
        conv => whnf
        repeat' (first | (refine ifB_t (by assumption) ?_; conv => whnf) | (refine ifB_f (by assumption) ?_; conv => whnf) | (refine ifB_dec (fun h => ?_) (fun h => ?_) <;> (first | (exfalso; omega) | (conv => whnf))) | (refine ifB_eq (fun h => ?_) (fun h => ?_) <;> (first | (exfalso; omega) | (conv => whnf))) | (refine ifB_ne (fun h => ?_) (fun h => ?_) <;> (first | (exfalso; omega) | (conv => whnf))) | (refine ifB_not ?_; conv => whnf) | (refine ifB_and ?_; conv => whnf) | (refine ifB_or ?_; conv => whnf) | (refine And.intro ?_ ?_; (first | omega | assumption | (exact allU_getD (by assumption) _) | (simp only [cutL]; omega) | (refine And.intro ?_ ?_ <;> first | assumption | exact allU_getD (by assumption) _) | (simp only [cutL, IntKind.wrap_u64, IntKind.wrap_i64] at *; omega) | decide); conv => whnf) | (refine ifB_mk (fun h => ?_) (fun h => ?_) <;> (conv => whnf)))
        exact congrArg (fun b => T.v (Value.bool b)) (by simp)
end Go.Proofs.YtlcpcgdecodjfaaDoor
namespace Go.Proofs.YtlcpcgdecodjfaaDoor
open Go.RowKit
set_option linter.unusedVariables false
set_option linter.unusedSimpArgs false

/-- May a configuration be? -/
def fits (k p n : Int) : Bool := decide (1 ≤ k ∧ k < 6 ∧ 1 ≤ p ∧ p ≤ 16 ∧ 1 ≤ n ∧ n ≤ 256)
abbrev conf (k p n : Int) : Value := .agg #[.int .i64 k, .int .i64 p, .int .i64 n]
theorem fits_any (k p n : Int) (w : World) : Calls Tryd.prog 48 #[conf k p n] w fun e w' => e = .returned (.bool (fits k p n)) ∧ w.alloc (.cells #[.int .i64 k, .int .i64 p, .int .i64 n] 23) = w' := by
  go_enter Tryd.func48, Tryd.ntmps48
  go_wp2_with fail
  · go_ret; refine ⟨ret_bool ?_, rfl⟩; unfold fits; rw [decide_eq_decide]; omega
  all_goals (go_ret; refine ⟨ret_bool ?_, rfl⟩; unfold fits; rw [Bool.eq_iff_iff, decide_eq_true_iff]; simp only [Bool.false_eq_true, false_iff]; omega)

/-- The table of objects lies in block 0. -/
def Objs (w : World) : Prop := 0 < w.heap.size ∧ ∀ k : Nat, k < 6 → w.cell? ⟨0, k * 2, none⟩ = some (.int .i64 ([0, 1, 1, 1, 2, 9].getD k 0)) ∧ w.cell? ⟨0, k * 2 + 1, none⟩ = some (.int .i64 ([0, 0, 2, 4, 4, 1].getD k 0))
theorem Objs.below {w w' : World} {B : Nat} (h : Objs w) (hb : Below B w w') (hB : 0 < B) : Objs w' :=
  ⟨Nat.lt_of_lt_of_le h.1 hb.size, fun k hk => ⟨(hb.cell (p := ⟨0, k * 2, none⟩) hB).trans (h.2 k hk).1, (hb.cell (p := ⟨0, k * 2 + 1, none⟩) hB).trans (h.2 k hk).2⟩⟩
def home (k n : Int) : Int := if k = 1 then 1 else if k = 2 then 1 + 2 * n else if k = 3 then 1 + 4 * n else if k = 4 then 2 + 4 * n else 9 + n
theorem home_any (k p n : Int) (w : World) (ho : Objs w) : Calls Tryd.prog 49 #[conf k p n] w fun e w' => e = .returned (.int .i64 (if fits k p n = true then home k n else 0)) ∧ Below w.heap.size w w' := by
  obtain ⟨h0, hk⟩ := ho
  cases hf : fits k p n
  · go_enter Tryd.func49, Tryd.ntmps49
    go_wp2_with (go_at_call 48; refine (fits_any _ _ _ _).mono ?_; rintro e w' ⟨rfl, rfl⟩)
    go_ret
    exact ⟨rfl, ((Below.refl _ _).alloc (Nat.le_refl _) _).alloc (by simp) _⟩
  · have hb := of_decide_eq_true hf
    obtain ⟨b1, b2, b3, b4, b5, b6⟩ := hb
    obtain ⟨K, rfl⟩ := Int.eq_ofNat_of_zero_le (show 0 ≤ k by omega)
    obtain ⟨c1, c2⟩ := hk K (by omega)
    have e1 : Hid (home K n = [0, 1, 1, 1, 2, 9].getD K 0 + [0, 0, 2, 4, 4, 1].getD K 0 * n ∧ 0 ≤ ([0, 0, 2, 4, 4, 1].getD K 0 : Int) ∧ ([0, 0, 2, 4, 4, 1].getD K 0 : Int) ≤ 4 ∧ 0 ≤ ([0, 1, 1, 1, 2, 9].getD K 0 : Int) ∧ ([0, 1, 1, 1, 2, 9].getD K 0 : Int) ≤ 9) := by
      have : K = 1 ∨ K = 2 ∨ K = 3 ∨ K = 4 ∨ K = 5 := by omega
      show _ ∧ _
      rcases this with rfl | rfl | rfl | rfl | rfl <;> refine ⟨?_, by decide, by decide, by decide, by decide⟩ <;> unfold home <;> simp
    generalize ([0, 1, 1, 1, 2, 9].getD K 0 : Int) = s at *
    generalize ([0, 0, 2, 4, 4, 1].getD K 0 : Int) = e at *
    obtain ⟨e2, e3, e4, e5, e6⟩ := e1.out
    have E : Hid _ := e2
    have m1 : 0 ≤ e * n := Int.mul_nonneg e3 (by omega)
    have m2 : e * n ≤ 4 * 256 := Int.mul_le_mul e4 b6 (by omega) (by omega)
    clear e1 e2 hk
    go_enter Tryd.func49, Tryd.ntmps49
    go_wp2_with (go_at_call 48; refine (fits_any _ _ _ _).mono ?_; rintro e w' ⟨rfl, rfl⟩)
    go_ret
    exact ⟨ret_int E.out.symm, (((Below.refl _ _).alloc (Nat.le_refl _) _).alloc (by simp) _).alloc (by simp; omega) _⟩
end Go.Proofs.YtlcpcgdecodjfaaDoor
namespace Go.Proofs.YtlcpcgdecodjfaaDoor
open Go.ChangeShapes Go.WideShapes Go.ChangeAt Go.WideMaps Go.WideElems Go.RowKit
set_option linter.unusedVariables false
set_option linter.unusedSimpArgs false

theorem gObjs : Tryd.prog.globalNamed "whitewash/region.objects" = some 0 := by kernel_rfl
theorem tObjs : (Tryd.prog.globals[0]?).map (·.type) = some 131 := by kernel_rfl
abbrev laidR : List (String × DataW Unit) := [("whitewash/region.objects", Rows.laid_whitewash_region_objects)]
theorem door_met (os : Os) (args : Array Value) : laidMetH Tryd.prog laidR ((World.doorLaid Tryd.prog 400 os).forCall (fun _ _ => 0) ⟨#[], args, []⟩).memory :=
  laidMetH_of_parts3 (fuel := 8) (laidMet_of_run' 8 (by kernel_rfl) (by kernel_rfl)) (by kernel_rfl) (by kernel_rfl)
theorem el_cells {H : Type} {enc : TypeId × Value → H} {W : World} {sp : Nat → Bool} {held : Bool} {m : Nat} {cs : List Value} {y : DataW H × List MemPlace} {a b : Int} (h : DataW.trod enc Tryd.prog W 0 sp held m 130 cs = some y) (hy : y.1 = .agg [.lit (.int .i64 a), .lit (.int .i64 b)]) : cs[0]? = some (.int .i64 a) ∧ cs[1]? = some (.int .i64 b) := by
  obtain ⟨xs, n, rfl, rfl, hlen, hn, hel⟩ := DataW.trod_struct Tryd.underlying130 h
  have c3 : Tryd.prog.cellsOf 3 = 1 := by kernel_rfl
  have h0 := hel 0 _ rfl
  have h1 := hel 1 _ rfl
  match xs, hn, hy, h0, h1 with
  | [x0, x1], _, hy, h0, h1 =>
    simp only [List.map_cons, List.map_nil, DataW.agg.injEq, List.cons.injEq, and_true] at hy
    obtain ⟨k, e1, e2, _⟩ := DataW.trod_int Tryd.underlying3 (show DataW.trod enc Tryd.prog W 0 sp held n 3 _ = some x0 from h0)
    obtain ⟨k2, e3, e4, _⟩ := DataW.trod_int Tryd.underlying3 (show DataW.trod enc Tryd.prog W 0 sp held n 3 _ = some x1 from h1)
    have hk : k = a := by rw [e2] at hy; simpa using hy.1
    have hk2 : k2 = b := by rw [e4] at hy; simpa using hy.2
    subst hk hk2
    try simp only [c3] at e1 e3
    constructor
    · have := congrArg (fun l : List Value => l[0]?) e1
      simp [List.getElem?_take, List.getElem?_drop] at this
      exact this.2
    · have := congrArg (fun l : List Value => l[0]?) e3
      simp [List.getElem?_take, List.getElem?_drop] at this
      exact this.2
theorem objs_of_laid {W : World} (h : laidMetH Tryd.prog laidR W) : Objs W := by
  rw [MakeChecks.laidMetH_plain _ _ _ (by kernel_rfl)] at h
  obtain ⟨ps, ⟨g0, t0, cs0, f0, p0, q0, hg0, ht0, hv0, hd0, _, _⟩, _⟩ := h
  obtain rfl := Option.some.inj (gObjs.symm.trans hg0)
  obtain rfl := Option.some.inj (tObjs.symm.trans ht0)
  obtain ⟨xs, m1, rfl, hx1, hlen, hn6, hel⟩ := DataW.trod_array Tryd.underlying131 hd0
  have c3 : Tryd.prog.cellsOf 3 = 1 := by kernel_rfl
  have cE : Tryd.prog.cellsOf 130 = 2 := by kernel_rfl
  have cA : Tryd.prog.cellsOf 131 = 12 := by kernel_rfl
  have key : ∀ (i : Nat) (a b : Int), i < 6 → (xs.map (·.1))[i]? = some (.agg [.lit (.int .i64 a), .lit (.int .i64 b)]) → W.cell? ⟨0, i * 2, none⟩ = some (.int .i64 a) ∧ W.cell? ⟨0, i * 2 + 1, none⟩ = some (.int .i64 b) := by
    intro i a b hi hxi
    have hE := hel i hi
    rw [cE] at hE
    rw [List.getElem?_map] at hxi
    cases hy : xs[i]? with
    | none => simp [hy] at hxi
    | some y =>
      rw [hy] at hE hxi
      obtain ⟨g0, g1⟩ := el_cells hE (by simpa using hxi)
      rw [List.getElem?_take_of_lt (by omega), List.getElem?_drop] at g0 g1
      rw [World.var?_cell hg0 hv0, World.var?_cell hg0 hv0]
      rw [Array.getElem?_toList] at g0 g1
      exact ⟨g0, g1⟩
  simp only [Prod.mk.injEq, Rows.laid_whitewash_region_objects, DataW.agg.injEq] at hx1
  have hxs := hx1.1.symm
  refine ⟨?_, fun k hk => ?_⟩
  · have := (key 0 0 0 (by omega) (by rw [hxs]; rfl)).1
    unfold World.cell? at this
    rcases Nat.eq_zero_or_pos W.heap.size with hz | hz
    · rw [Array.getElem?_eq_none (by omega)] at this; cases this
    · exact hz
  · have : k = 0 ∨ k = 1 ∨ k = 2 ∨ k = 3 ∨ k = 4 ∨ k = 5 := by omega
    rcases this with rfl | rfl | rfl | rfl | rfl | rfl <;> exact key _ _ _ (by omega) (by rw [hxs]; rfl)
end Go.Proofs.YtlcpcgdecodjfaaDoor
namespace Go.Proofs.YtlcpcgdecodjfaaDoor
open Go.RowKit Go.Proofs.YtlcpcgdecodjfaaDoor.Am
set_option linter.unusedVariables false
set_option linter.unusedSimpArgs false

theorem gl_objs {w : World} (h : Objs w) : GlP glR w := by
  intro g
  unfold glR
  split
  · refine .fp (b := 0) (off := 0) trivial h.1 (by simp) (by decide) (fun i x hx => ?_)
    have hi : i < 12 := (List.getElem?_eq_some_iff.1 hx).1
    obtain ⟨k, hk⟩ : ∃ k, i = k * 2 ∨ i = k * 2 + 1 := ⟨i / 2, by omega⟩
    have hk6 : k < 6 := by omega
    have c := h.2 k hk6
    have : k = 0 ∨ k = 1 ∨ k = 2 ∨ k = 3 ∨ k = 4 ∨ k = 5 := by omega
    rw [Nat.zero_add]
    rcases this with rfl | rfl | rfl | rfl | rfl | rfl <;> rcases hk with rfl | rfl <;> cases hx <;> first | exact c.1 | exact c.2
  · exact .dead
theorem tv_slIn {k : IntKind} {w : World} {a : Option Addr} {len cap : Nat} {xs : List Int} (h : SlIn k w a len cap xs) : TV w (fun _ => True) noM noL (.fl [k] len xs) (.slice a len cap) := by
  obtain ⟨⟨h1, h2⟩, h3, h4, h5⟩ := h
  rcases Nat.eq_zero_or_pos len with hz | hz
  · subst hz
    obtain rfl := List.eq_nil_of_length_eq_zero h1
    exact .fl0
  · rcases h2 with h2 | ⟨b, off, rfl, hb, hc⟩
    · omega
    · refine .fl trivial hb (by simp) (by simpa using h1) ⟨h3, by omega⟩ hz (fun i x hx => ?_)
      obtain ⟨hi, rfl⟩ := List.getElem?_eq_some_iff.1 hx
      rw [hc i (by omega), List.getD_eq_getElem?_getD, List.getElem?_eq_getElem hi]
      unfold kc; rw [show i % [k].length = 0 from Nat.mod_one i]; rfl
/-- From a walk on the machine to what a row wants. -/
theorem row_of {f : FuncId} {args : List T} (h : Pure Tryd.prog glR f args (.v (.bool true))) (w : World) (ho : Objs w) {vs : List Value} (hv : TVs w (fun _ => True) noM noL args vs) :
    Calls Tryd.prog f vs.toArray w fun e w' => e = .returned (.bool true) ∧ Below w.heap.size w w' := by
  refine (h w vs (gl_objs ho) hv).mono ?_
  rintro e w' ⟨v, m, rfl, hb, hv⟩
  obtain rfl := hv.val rfl
  exact ⟨rfl, hb.fr.below (fun _ h => h)⟩
theorem plainWinner_walk (w : World) (ho : Objs w) (room : Int) (hr : I64 room) (a : Option Addr) (len cap : Nat) (xs : List Int) (hs : SlIn .i64 w a len cap xs) (hx : ∀ n ∈ xs, (Lit.int .i64 n).wf = true) :
    Calls Tryd.prog 5 #[.int .i64 room, .slice a len cap] w fun e w' => e = .returned (.bool true) ∧ Below w.heap.size w w' :=
  row_of (winner_pure room hr len xs (fun x hxx => i64_of_wf (hx x hxx))) w ho (.cons (.v rfl) (.cons (tv_slIn hs) .nil))
end Go.Proofs.YtlcpcgdecodjfaaDoor
namespace Go.Proofs.YtlcpcgdecodjfaaDoor
open Go.RowKit Go.Proofs.YtlcpcgdecodjfaaDoor.Am
set_option linter.unusedVariables false
set_option linter.unusedSimpArgs false

/-- nil, where a list of numbers is looked for. -/
def fx (k : IntKind) (t : T) : T := match t with
  | .v (.slice none 0 0) => .fl [k] 0 []
  | t => t
/-- A state whose lists may be nil. -/
def fixS (t : T) : T := match t with
  | .agg [a, b, c, d, e] => .agg [a, fx .u64 b, fx .u64 c, fx .i64 d, e]
  | t => t
theorem fx_ok {w : World} {I : Nat → Prop} {m : Nat → Option Nat} {L : Nat → Option (Option Nat)} {k : IntKind} {t : T} {v : Value} (h : TV w I m L t v) : TV w I m L (fx k t) v := by
  unfold fx
  split
  · obtain ⟨rfl, -⟩ := h.v_inv; exact .fl0
  · exact h
theorem fixS_ok {w : World} {I : Nat → Prop} {m : Nat → Option Nat} {L : Nat → Option (Option Nat)} {t : T} {v : Value} (h : TV w I m L t v) : TV w I m L (fixS t) v := by
  unfold fixS
  split
  · obtain ⟨⟨vs⟩, rfl, hv⟩ := h.agg_inv
    change TVs _ _ _ _ _ vs at hv
    cases hv with | cons h1 hv => cases hv with | cons h2 hv => cases hv with | cons h3 hv => cases hv with | cons h4 hv =>
      exact .agg (.cons h1 (.cons (fx_ok h2) (.cons (fx_ok h3) (.cons (fx_ok h4) hv))))
  · exact h
theorem fixSs_ok {w : World} {I : Nat → Prop} {m : Nat → Option Nat} {L : Nat → Option (Option Nat)} {ts : List T} {vs : List Value} (h : TVs w I m L ts vs) : TVs w I m L (ts.map fixS) vs := by
  induction ts generalizing vs with
  | nil => exact h
  | cons t ts ih => cases h with | cons a b => exact .cons (fixS_ok a) (ih b)
theorem pure_fixS {P : Program} {gl : Nat → T} {f : FuncId} {args : List T} {t : T} {bs : Hp} (h : Pure P gl f (args.map fixS) t bs) : Pure P gl f args t bs := fun w vs hg ha => h w vs hg (fixSs_ok ha)
/-- A state that came in; one of its own. -/
abbrev ST (r : Int) (n1 : Nat) (ks : List Int) (n2 : Nat) (vs : List Int) (n3 : Nat) (ws : List Int) (c : Bool) : T := .agg [.v (.int .u64 r), .fl [.u64] n1 ks, .fl [.u64] n2 vs, .fl [.i64] n3 ws, .v (.bool c)]
abbrev SO (r : Int) (n1 n2 n3 : Nat) (c : Bool) : T := .agg [.v (.int .u64 r), .ow 0 1 n1, .ow 1 1 n2, .ow 2 1 n3, .v (.bool c)]
abbrev SH (ks vs ws : List Int) : Hp := [(0, .fl [.u64] ks), (1, .fl [.u64] vs), (2, .fl [.i64] ws)]
set_option maxRecDepth 100000 in
theorem own_pure (r : Int) (n1 : Nat) (ks : List Int) (n2 : Nat) (vs : List Int) (n3 : Nat) (ws : List Int) (c : Bool) (h1 : n1 ≤ 1000) (h2 : n2 ≤ 1000) (h3 : n3 ≤ 1000) : Pure Tryd.prog glR 81 [ST r n1 ks n2 vs n3 ws c] (SO r n1 n2 n3 c) (SH ks vs ws) := by
  refine pure_of (C := ctx0 Tryd.prog) ctx0_good Tryd.func81 (c := bodyOf Tryd.f81) (by rfl) (Nat.le_of_ble_eq_true (by rfl)) 4 0 [0, 1, 2, 3] ?_
  conv => whnf
  refine And.intro (show n1 * 8 ≤ 140737488355328 by omega) ?_
  conv => whnf
  repeat' (first | (refine ifB_t (by assumption) ?_; conv => whnf) | (refine ifB_f (by assumption) ?_; conv => whnf) | (refine ifB_dec (fun h => ?_) (fun h => ?_) <;> (first | (exfalso; omega) | (conv => whnf))) | (refine ifB_eq (fun h => ?_) (fun h => ?_) <;> (first | (exfalso; omega) | (conv => whnf))) | (refine ifB_ne (fun h => ?_) (fun h => ?_) <;> (first | (exfalso; omega) | (conv => whnf))) | (refine ifB_not ?_; conv => whnf) | (refine ifB_and ?_; conv => whnf) | (refine ifB_or ?_; conv => whnf) | (refine And.intro ?_ ?_; (first | omega | assumption | (exact allU_getD (by assumption) _) | (simp only [cutL]; omega) | (refine And.intro ?_ ?_ <;> first | assumption | exact allU_getD (by assumption) _) | (simp only [cutL, IntKind.wrap_u64, IntKind.wrap_i64] at *; omega) | decide); conv => whnf) | (refine ifB_mk (fun h => ?_) (fun h => ?_) <;> (conv => whnf)))
  refine And.intro (show n2 * 8 ≤ 140737488355328 by omega) ?_
  conv => whnf
  repeat' (first | (refine ifB_t (by assumption) ?_; conv => whnf) | (refine ifB_f (by assumption) ?_; conv => whnf) | (refine ifB_dec (fun h => ?_) (fun h => ?_) <;> (first | (exfalso; omega) | (conv => whnf))) | (refine ifB_eq (fun h => ?_) (fun h => ?_) <;> (first | (exfalso; omega) | (conv => whnf))) | (refine ifB_ne (fun h => ?_) (fun h => ?_) <;> (first | (exfalso; omega) | (conv => whnf))) | (refine ifB_not ?_; conv => whnf) | (refine ifB_and ?_; conv => whnf) | (refine ifB_or ?_; conv => whnf) | (refine And.intro ?_ ?_; (first | omega | assumption | (exact allU_getD (by assumption) _) | (simp only [cutL]; omega) | (refine And.intro ?_ ?_ <;> first | assumption | exact allU_getD (by assumption) _) | (simp only [cutL, IntKind.wrap_u64, IntKind.wrap_i64] at *; omega) | decide); conv => whnf) | (refine ifB_mk (fun h => ?_) (fun h => ?_) <;> (conv => whnf)))
  refine And.intro (show n3 * 8 ≤ 140737488355328 by omega) ?_
  conv => whnf
  repeat' (first | (refine ifB_t (by assumption) ?_; conv => whnf) | (refine ifB_f (by assumption) ?_; conv => whnf) | (refine ifB_dec (fun h => ?_) (fun h => ?_) <;> (first | (exfalso; omega) | (conv => whnf))) | (refine ifB_eq (fun h => ?_) (fun h => ?_) <;> (first | (exfalso; omega) | (conv => whnf))) | (refine ifB_ne (fun h => ?_) (fun h => ?_) <;> (first | (exfalso; omega) | (conv => whnf))) | (refine ifB_not ?_; conv => whnf) | (refine ifB_and ?_; conv => whnf) | (refine ifB_or ?_; conv => whnf) | (refine And.intro ?_ ?_; (first | omega | assumption | (exact allU_getD (by assumption) _) | (simp only [cutL]; omega) | (refine And.intro ?_ ?_ <;> first | assumption | exact allU_getD (by assumption) _) | (simp only [cutL, IntKind.wrap_u64, IntKind.wrap_i64] at *; omega) | decide); conv => whnf) | (refine ifB_mk (fun h => ?_) (fun h => ?_) <;> (conv => whnf)))
  repeat' (first | exact trivial | exact rfl | (refine And.intro ?_ ?_) | ((conv => whnf); done) | ((conv => whnf); (first | rfl | (refine congrArg (fun b => T.v (Value.bool b)) ?_; first | rfl | exact (decide_eq_true (by omega)).symm | exact (decide_eq_false (by omega)).symm | exact decide_eq_decide.2 (by omega)) | (refine congrArg (fun b => T.v (Value.int _ b)) ?_; first | rfl | omega) | omega)) | (first | rfl | (refine congrArg (fun b => T.v (Value.bool b)) ?_; first | rfl | exact (decide_eq_true (by omega)).symm | exact (decide_eq_false (by omega)).symm | exact decide_eq_decide.2 (by omega)) | (refine congrArg (fun b => T.v (Value.int _ b)) ?_; first | rfl | omega) | omega))

def eOwn : Entry := ⟨81, 3, fun l => match l.map fixS with | [.agg [.v (.int .u64 r), .fl [.u64] n1 ks, .fl [.u64] n2 vs, .fl [.i64] n3 ws, .v (.bool c)]] => some (some (n1 ≤ 1000 ∧ n2 ≤ 1000 ∧ n3 ≤ 1000), SO r n1 n2 n3 c, SH ks vs ws) | _ => none⟩
theorem eOwn_ok : eOwn.ok Tryd.prog glR := ⟨enters_of Tryd.func81 (by kernel_rfl) (by kernel_rfl), by
  intro args c t bs h hc
  simp only [eOwn] at h
  split at h <;> cases h
  rename_i heq
  replace hc := hc _ rfl
  refine pure_fixS ?_
  rw [heq]
  exact own_pure _ _ _ _ _ _ _ _ hc.1 hc.2.1 hc.2.2⟩
def keyedB (k : Int) : Bool := decide (k = 2 ∨ k = 3 ∨ k = 4)
set_option maxRecDepth 100000 in
theorem keyed_pure (k p n : Int) : Pure Tryd.prog glR 83 [.agg [.v (.int .i64 k), .v (.int .i64 p), .v (.int .i64 n)]] (.v (.bool (keyedB k))) := by
  refine pure_of (C := ctx0 Tryd.prog) ctx0_good Tryd.func83 (c := bodyOf Tryd.f83) (by rfl) (Nat.le_of_ble_eq_true (by rfl)) 4 0 [0, 1, 2] ?_
  conv => whnf
  repeat' (first | (refine ifB_t (by assumption) ?_; conv => whnf) | (refine ifB_f (by assumption) ?_; conv => whnf) | (refine ifB_dec (fun h => ?_) (fun h => ?_) <;> (first | (exfalso; omega) | (conv => whnf))) | (refine ifB_eq (fun h => ?_) (fun h => ?_) <;> (first | (exfalso; omega) | (conv => whnf))) | (refine ifB_ne (fun h => ?_) (fun h => ?_) <;> (first | (exfalso; omega) | (conv => whnf))) | (refine ifB_not ?_; conv => whnf) | (refine ifB_and ?_; conv => whnf) | (refine ifB_or ?_; conv => whnf) | (refine And.intro ?_ ?_; (first | omega | assumption | (exact allU_getD (by assumption) _) | (simp only [cutL]; omega) | (refine And.intro ?_ ?_ <;> first | assumption | exact allU_getD (by assumption) _) | (simp only [cutL, IntKind.wrap_u64, IntKind.wrap_i64] at *; omega) | decide); conv => whnf) | (refine ifB_mk (fun h => ?_) (fun h => ?_) <;> (conv => whnf)))
  all_goals (refine congrArg (fun b => T.v (Value.bool b)) ?_; first | (simp [keyedB, *]; done) | (simp [keyedB, *]; exact beq_eq_decide _ _) | (simp [keyedB, *]; by_cases h4 : k = 4 <;> simp [h4]))

def eKeyed : Entry := ⟨83, 3, fun l => match l with | [.agg [.v (.int .i64 k), .v (.int .i64 p), .v (.int .i64 n)]] => some (none, .v (.bool (keyedB k)), []) | _ => none⟩
theorem eKeyed_ok : eKeyed.ok Tryd.prog glR := ⟨enters_of Tryd.func83 (by kernel_rfl) (by kernel_rfl), by
  intro args c t bs h hc
  simp only [eKeyed] at h
  split at h <;> cases h
  exact keyed_pure _ _ _⟩
/-- Votes that may be. -/
def votesOk (n : Int) (ws : List Int) : Bool := decide ((ws.length : Int) = n) && okV ws
set_option maxRecDepth 100000 in
theorem votes_pure (k p n r : Int) (n1 : Nat) (ks : List Int) (n2 : Nat) (vs : List Int) (n3 : Nat) (ws : List Int) (c : Bool) : Pure Tryd.prog glR 88 [.agg [.v (.int .i64 k), .v (.int .i64 p), .v (.int .i64 n)], ST r n1 ks n2 vs n3 ws c] (.v (.bool (votesOk n ws))) := by
  refine pure_wf fun hw => ?_
  obtain ⟨-, ⟨-, -, -, ⟨w1, w2⟩, -, -⟩, -⟩ := hw
  simp only [List.length_cons, List.length_nil, Nat.zero_add, Nat.mul_one] at w1
  refine pure_of (C := ctx0 Tryd.prog) ctx0_good Tryd.func88 (c := bodyOf Tryd.f88) (by rfl) (Nat.le_of_ble_eq_true (by rfl)) 4 0 [0, 1, 2, 3, 4, 5, 11, 16, 32] ?_
  conv => whnf
  repeat' (first | (refine ifB_t (by assumption) ?_; conv => whnf) | (refine ifB_f (by assumption) ?_; conv => whnf) | (refine ifB_dec (fun h => ?_) (fun h => ?_) <;> (first | (exfalso; omega) | (conv => whnf))) | (refine ifB_eq (fun h => ?_) (fun h => ?_) <;> (first | (exfalso; omega) | (conv => whnf))) | (refine ifB_ne (fun h => ?_) (fun h => ?_) <;> (first | (exfalso; omega) | (conv => whnf))) | (refine ifB_not ?_; conv => whnf) | (refine ifB_and ?_; conv => whnf) | (refine ifB_or ?_; conv => whnf) | (refine And.intro ?_ ?_; (first | omega | assumption | (exact allU_getD (by assumption) _) | (simp only [cutL]; omega) | (refine And.intro ?_ ?_ <;> first | assumption | exact allU_getD (by assumption) _) | (simp only [cutL, IntKind.wrap_u64, IntKind.wrap_i64] at *; omega) | decide); conv => whnf) | (refine ifB_mk (fun h => ?_) (fun h => ?_) <;> (conv => whnf)))
  · exact congrArg (fun b => T.v (Value.bool b)) (by unfold votesOk; rw [decide_eq_false (by omega), Bool.false_and])
  · have el : decide ((ws.length : Int) = n) = true := decide_eq_true (by omega)
    refine TW.loopD ctx0_good 0 (base := 0) (lv := [0, 1, 2, 3, 4, 5, 11, 16, 32]) [5] [] [] (fun j : Nat => [.v (.int .i64 j)]) (fun _ => []) (fun j => j ≤ n3 ∧ okV (ws.take j) = true) (fun j => n3 - j) ?_
    conv => whnf
    refine ⟨⟨0, ⟨rfl, rfl, rfl⟩, by omega, rfl⟩, fun j ⟨hj, ho⟩ => ?_⟩
    conv => whnf
    refine ifB_dec (fun h => ?_) (fun h => ?_)
    · have ev : ws.getD (0 + (j : Int).toNat * (0 + 1)) 0 = ws.getD j 0 := by simp
      conv => whnf
      repeat' (first | (refine ifB_t (by assumption) ?_; conv => whnf) | (refine ifB_f (by assumption) ?_; conv => whnf) | (refine ifB_dec (fun h => ?_) (fun h => ?_) <;> (first | (exfalso; omega) | (conv => whnf))) | (refine ifB_eq (fun h => ?_) (fun h => ?_) <;> (first | (exfalso; omega) | (conv => whnf))) | (refine ifB_ne (fun h => ?_) (fun h => ?_) <;> (first | (exfalso; omega) | (conv => whnf))) | (refine ifB_not ?_; conv => whnf) | (refine ifB_and ?_; conv => whnf) | (refine ifB_or ?_; conv => whnf) | (refine And.intro ?_ ?_; (first | omega | assumption | (exact allU_getD (by assumption) _) | (simp only [cutL]; omega) | (refine And.intro ?_ ?_ <;> first | assumption | exact allU_getD (by assumption) _) | (simp only [cutL, IntKind.wrap_u64, IntKind.wrap_i64] at *; omega) | decide); conv => whnf) | (refine ifB_mk (fun h => ?_) (fun h => ?_) <;> (conv => whnf)))
      all_goals first | (rw [ev] at *; have hb : okV ws = false := okV_at (j := j) (by omega) (by omega); exact congrArg (fun b => T.v (Value.bool b)) (by unfold votesOk; rw [hb, Bool.and_false])) | skip
      rename_i g1 g2
      rw [ev] at g2 h
      rw [wsucc (n := n3) (by omega) w2]
      refine ⟨j + 1, [], ⟨rfl, rfl, rfl⟩, ⟨by omega, ?_⟩, by (try dsimp only); omega⟩
      rw [take_snoc (by omega), okV_snoc, ho, Bool.true_and]
      exact decide_eq_true (by omega)
    · conv => whnf
      have e : j = n3 := by omega
      rw [e, List.take_of_length_le (by omega)] at ho
      exact congrArg (fun b => T.v (Value.bool b)) (by unfold votesOk; rw [el, ho]; rfl)

def eVotes : Entry := ⟨88, 3, fun l => match l.map fixS with | [.agg [.v (.int .i64 k), .v (.int .i64 p), .v (.int .i64 n)], .agg [.v (.int .u64 r), .fl [.u64] n1 ks, .fl [.u64] n2 vs, .fl [.i64] n3 ws, .v (.bool c)]] => some (none, .v (.bool (votesOk n ws)), []) | _ => none⟩
theorem eVotes_ok : eVotes.ok Tryd.prog glR := ⟨enters_of Tryd.func88 (by kernel_rfl) (by kernel_rfl), by
  intro args c t bs h hc
  simp only [eVotes] at h
  split at h <;> cases h
  rename_i heq
  refine pure_fixS ?_
  rw [heq]
  exact votes_pure _ _ _ _ _ _ _ _ _ _ _⟩

end Go.Proofs.YtlcpcgdecodjfaaDoor
namespace Go.Proofs.YtlcpcgdecodjfaaDoor
open Go.RowKit Go.Proofs.YtlcpcgdecodjfaaDoor.Am
set_option linter.unusedVariables false
set_option linter.unusedSimpArgs false

def right1 (p n r : Int) (ks vs ws : List Int) (c : Bool) : Bool := fitsB 1 p n && (decide (ks.length + vs.length = 0) && (decide (ws.length = 0) && (!c && decide (iCanon r = r))))
def right5 (p n r : Int) (ks vs ws : List Int) (c : Bool) : Bool := fitsB 5 p n && (decide (r = 0) && (decide (ks.length + vs.length = 0) && votesOk n ws))
noncomputable def ctxPlM (P : Program) : Ctx := ctx P glR [eRFits, eKeyed, eRCanon, eVotes] [] (noEq P) [] (fun _ h => by cases h)
theorem ctxPlM_good : (ctxPlM Tryd.prog).good := ctx_good (by kernel_rfl) (AllOk.mem ⟨eRFits_ok, eKeyed_ok, eRCanon_ok, eVotes_ok, trivial⟩) glR_two
attribute [local irreducible] fitsB votesOk
set_option maxRecDepth 100000 in
theorem right1_pure (p n r : Int) (hr : U64 r) (n1 : Nat) (ks : List Int) (n2 : Nat) (vs : List Int) (n3 : Nat) (ws : List Int) (c : Bool) (h1 : n1 ≤ 1000) (h2 : n2 ≤ 1000) : Pure Tryd.prog glR 43 [.agg [.v (.int .i64 1), .v (.int .i64 p), .v (.int .i64 n)], ST r n1 ks n2 vs n3 ws c] (.v (.bool (right1 p n r ks vs ws c))) := by
  refine pure_wf fun hw => ?_
  obtain ⟨-, ⟨-, ⟨w1, -⟩, ⟨w2, -⟩, ⟨w3, w4⟩, -, -⟩, -⟩ := hw
  simp only [List.length_cons, List.length_nil, Nat.zero_add, Nat.mul_one] at w1 w2 w3
  have ew : IntKind.i64.wrap ((n1 : Int) + n2) = (n1 : Int) + n2 := wrap64 (by omega) (by omega)
  refine pure_of (C := ctxPlM Tryd.prog) ctxPlM_good Tryd.func43 (c := bodyOf Tryd.f43) (by rfl) (Nat.le_of_ble_eq_true (by rfl)) 4 0 [0, 1, 2, 3, 4, 7, 45, 46, 56] ?_
  conv => whnf
  repeat' (first | (refine ifB_t (by assumption) ?_; conv => whnf) | (refine ifB_f (by assumption) ?_; conv => whnf) | (refine ifB_dec (fun h => ?_) (fun h => ?_) <;> (first | (exfalso; omega) | (conv => whnf))) | (refine ifB_eq (fun h => ?_) (fun h => ?_) <;> (first | (exfalso; omega) | (conv => whnf))) | (refine ifB_ne (fun h => ?_) (fun h => ?_) <;> (first | (exfalso; omega) | (conv => whnf))) | (refine ifB_not ?_; conv => whnf) | (refine ifB_and ?_; conv => whnf) | (refine ifB_or ?_; conv => whnf) | (refine And.intro ?_ ?_; (first | omega | assumption | (exact allU_getD (by assumption) _) | (simp only [cutL]; omega) | (refine And.intro ?_ ?_ <;> first | assumption | exact allU_getD (by assumption) _) | (simp only [cutL, IntKind.wrap_u64, IntKind.wrap_i64] at *; omega) | decide); conv => whnf) | (refine ifB_mk (fun h => ?_) (fun h => ?_) <;> (conv => whnf)))
  all_goals (refine congrArg (fun b => T.v (Value.bool b)) ?_; unfold right1; rw [Bool.eq_iff_iff])
  all_goals first | (simp [*]; done) | (simp [*]; omega) | (simp_all; done) | (simp_all; omega)
set_option maxRecDepth 100000 in
theorem right5_pure (p n r : Int) (hr : U64 r) (n1 : Nat) (ks : List Int) (n2 : Nat) (vs : List Int) (n3 : Nat) (ws : List Int) (c : Bool) (h1 : n1 ≤ 1000) (h2 : n2 ≤ 1000) : Pure Tryd.prog glR 43 [.agg [.v (.int .i64 5), .v (.int .i64 p), .v (.int .i64 n)], ST r n1 ks n2 vs n3 ws c] (.v (.bool (right5 p n r ks vs ws c))) := by
  refine pure_wf fun hw => ?_
  obtain ⟨-, ⟨-, ⟨w1, -⟩, ⟨w2, -⟩, ⟨w3, w4⟩, -, -⟩, -⟩ := hw
  simp only [List.length_cons, List.length_nil, Nat.zero_add, Nat.mul_one] at w1 w2 w3
  have ew : IntKind.i64.wrap ((n1 : Int) + n2) = (n1 : Int) + n2 := wrap64 (by omega) (by omega)
  refine pure_of (C := ctxPlM Tryd.prog) ctxPlM_good Tryd.func43 (c := bodyOf Tryd.f43) (by rfl) (Nat.le_of_ble_eq_true (by rfl)) 4 0 [0, 1, 2, 3, 4, 7, 45, 46, 56] ?_
  conv => whnf
  repeat' (first | (refine ifB_t (by assumption) ?_; conv => whnf) | (refine ifB_f (by assumption) ?_; conv => whnf) | (refine ifB_dec (fun h => ?_) (fun h => ?_) <;> (first | (exfalso; omega) | (conv => whnf))) | (refine ifB_eq (fun h => ?_) (fun h => ?_) <;> (first | (exfalso; omega) | (conv => whnf))) | (refine ifB_ne (fun h => ?_) (fun h => ?_) <;> (first | (exfalso; omega) | (conv => whnf))) | (refine ifB_not ?_; conv => whnf) | (refine ifB_and ?_; conv => whnf) | (refine ifB_or ?_; conv => whnf) | (refine And.intro ?_ ?_; (first | omega | assumption | (exact allU_getD (by assumption) _) | (simp only [cutL]; omega) | (refine And.intro ?_ ?_ <;> first | assumption | exact allU_getD (by assumption) _) | (simp only [cutL, IntKind.wrap_u64, IntKind.wrap_i64] at *; omega) | decide); conv => whnf) | (refine ifB_mk (fun h => ?_) (fun h => ?_) <;> (conv => whnf)))
  all_goals (refine congrArg (fun b => T.v (Value.bool b)) ?_; unfold right5; rw [Bool.eq_iff_iff])
  all_goals first | (simp [*]; done) | (simp [*]; omega) | (simp_all; done) | (simp_all; omega)
def rightK (k p n r : Int) (ks vs ws : List Int) (c : Bool) : Bool := if k = 1 then right1 p n r ks vs ws c else right5 p n r ks vs ws c

def eRight9 : Entry := ⟨43, 3, fun l => match l.map fixS with | [.agg [.v (.int .i64 k), .v (.int .i64 p), .v (.int .i64 n)], .agg [.v (.int .u64 r), .fl [.u64] n1 ks, .fl [.u64] n2 vs, .fl [.i64] n3 ws, .v (.bool c)]] => some (some ((k = 1 ∨ k = 5) ∧ U64 r ∧ n1 ≤ 1000 ∧ n2 ≤ 1000), .v (.bool (rightK k p n r ks vs ws c)), []) | _ => none⟩
theorem eRight9_ok : eRight9.ok Tryd.prog glR := ⟨enters_of Tryd.func43 (by kernel_rfl) (by kernel_rfl), by
  intro args c t bs h hc
  simp only [eRight9] at h
  split at h <;> cases h
  rename_i heq
  replace hc := hc _ rfl
  refine pure_fixS ?_
  rw [heq]
  exact (by obtain ⟨rfl | rfl, h1, h2, h3⟩ := hc; exact right1_pure _ _ _ h1 _ _ _ _ _ _ _ h2 h3; exact right5_pure _ _ _ h1 _ _ _ _ _ _ _ h2 h3)⟩

end Go.Proofs.YtlcpcgdecodjfaaDoor
namespace Go.Proofs.YtlcpcgdecodjfaaDoor
open Go.RowKit Go.Proofs.YtlcpcgdecodjfaaDoor.Am
set_option linter.unusedVariables false
set_option linter.unusedSimpArgs false

set_option maxRecDepth 100000 in
theorem tells_pure (v : Int) : Pure Tryd.prog glR 105 [.v (.int .u64 v)] (.agg [.v (.int .i64 0), .v (.int .u64 v)]) := by
  refine pure_of (C := ctx0 Tryd.prog) ctx0_good Tryd.func105 (c := bodyOf Tryd.f105) (by rfl) (Nat.le_of_ble_eq_true (by rfl)) 4 0 [0, 2] ?_
  conv => whnf
  repeat' (first | (refine ifB_t (by assumption) ?_; conv => whnf) | (refine ifB_f (by assumption) ?_; conv => whnf) | (refine ifB_dec (fun h => ?_) (fun h => ?_) <;> (first | (exfalso; omega) | (conv => whnf))) | (refine ifB_eq (fun h => ?_) (fun h => ?_) <;> (first | (exfalso; omega) | (conv => whnf))) | (refine ifB_ne (fun h => ?_) (fun h => ?_) <;> (first | (exfalso; omega) | (conv => whnf))) | (refine ifB_not ?_; conv => whnf) | (refine ifB_and ?_; conv => whnf) | (refine ifB_or ?_; conv => whnf) | (refine And.intro ?_ ?_; (first | omega | assumption | (exact allU_getD (by assumption) _) | (simp only [cutL]; omega) | (refine And.intro ?_ ?_ <;> first | assumption | exact allU_getD (by assumption) _) | (simp only [cutL, IntKind.wrap_u64, IntKind.wrap_i64] at *; omega) | decide); conv => whnf) | (refine ifB_mk (fun h => ?_) (fun h => ?_) <;> (conv => whnf)))
  repeat' (first | exact trivial | exact rfl | (refine And.intro ?_ ?_) | ((conv => whnf); done) | ((conv => whnf); (first | rfl | (refine congrArg (fun b => T.v (Value.bool b)) ?_; first | rfl | exact (decide_eq_true (by omega)).symm | exact (decide_eq_false (by omega)).symm | exact decide_eq_decide.2 (by omega)) | (refine congrArg (fun b => T.v (Value.int _ b)) ?_; first | rfl | omega) | omega)) | (first | rfl | (refine congrArg (fun b => T.v (Value.bool b)) ?_; first | rfl | exact (decide_eq_true (by omega)).symm | exact (decide_eq_false (by omega)).symm | exact decide_eq_decide.2 (by omega)) | (refine congrArg (fun b => T.v (Value.int _ b)) ?_; first | rfl | omega) | omega))
def eTells : Entry := ⟨105, 3, fun l => match l with | [.v (.int .u64 v)] => some (none, .agg [.v (.int .i64 0), .v (.int .u64 v)], []) | _ => none⟩
theorem eTells_ok : eTells.ok Tryd.prog glR := ⟨enters_of Tryd.func105 (by kernel_rfl) (by kernel_rfl), by
  intro args c t bs h hc
  simp only [eTells] at h
  split at h <;> cases h
  exact tells_pure _⟩
set_option maxRecDepth 100000 in
theorem refuses_pure (e : Int) : Pure Tryd.prog glR 108 [.v (.int .i64 e)] (.agg [.v (.int .i64 e), .v (.int .u64 0)]) := by
  refine pure_of (C := ctx0 Tryd.prog) ctx0_good Tryd.func108 (c := bodyOf Tryd.f108) (by rfl) (Nat.le_of_ble_eq_true (by rfl)) 4 0 [0, 2] ?_
  conv => whnf
  repeat' (first | (refine ifB_t (by assumption) ?_; conv => whnf) | (refine ifB_f (by assumption) ?_; conv => whnf) | (refine ifB_dec (fun h => ?_) (fun h => ?_) <;> (first | (exfalso; omega) | (conv => whnf))) | (refine ifB_eq (fun h => ?_) (fun h => ?_) <;> (first | (exfalso; omega) | (conv => whnf))) | (refine ifB_ne (fun h => ?_) (fun h => ?_) <;> (first | (exfalso; omega) | (conv => whnf))) | (refine ifB_not ?_; conv => whnf) | (refine ifB_and ?_; conv => whnf) | (refine ifB_or ?_; conv => whnf) | (refine And.intro ?_ ?_; (first | omega | assumption | (exact allU_getD (by assumption) _) | (simp only [cutL]; omega) | (refine And.intro ?_ ?_ <;> first | assumption | exact allU_getD (by assumption) _) | (simp only [cutL, IntKind.wrap_u64, IntKind.wrap_i64] at *; omega) | decide); conv => whnf) | (refine ifB_mk (fun h => ?_) (fun h => ?_) <;> (conv => whnf)))
  repeat' (first | exact trivial | exact rfl | (refine And.intro ?_ ?_) | ((conv => whnf); done) | ((conv => whnf); (first | rfl | (refine congrArg (fun b => T.v (Value.bool b)) ?_; first | rfl | exact (decide_eq_true (by omega)).symm | exact (decide_eq_false (by omega)).symm | exact decide_eq_decide.2 (by omega)) | (refine congrArg (fun b => T.v (Value.int _ b)) ?_; first | rfl | omega) | omega)) | (first | rfl | (refine congrArg (fun b => T.v (Value.bool b)) ?_; first | rfl | exact (decide_eq_true (by omega)).symm | exact (decide_eq_false (by omega)).symm | exact decide_eq_decide.2 (by omega)) | (refine congrArg (fun b => T.v (Value.int _ b)) ?_; first | rfl | omega) | omega))
def eRefuses : Entry := ⟨108, 3, fun l => match l with | [.v (.int .i64 e)] => some (none, .agg [.v (.int .i64 e), .v (.int .u64 0)], []) | _ => none⟩
theorem eRefuses_ok : eRefuses.ok Tryd.prog glR := ⟨enters_of Tryd.func108 (by kernel_rfl) (by kernel_rfl), by
  intro args c t bs h hc
  simp only [eRefuses] at h
  split at h <;> cases h
  exact refuses_pure _⟩
def bitI (b : Bool) : Int := if b then 1 else 0
set_option maxRecDepth 100000 in
theorem bit_pure (b : Bool) : Pure Tryd.prog glR 113 [.v (.bool b)] (.v (.int .u64 (bitI b))) := by
  refine pure_of (C := ctx0 Tryd.prog) ctx0_good Tryd.func113 (c := bodyOf Tryd.f113) (by rfl) (Nat.le_of_ble_eq_true (by rfl)) 4 0 [0, 2, 3] ?_
  conv => whnf
  cases b <;> (conv => whnf) <;> rfl
def eBit : Entry := ⟨113, 3, fun l => match l with | [.v (.bool b)] => some (none, .v (.int .u64 (bitI b)), []) | _ => none⟩
theorem eBit_ok : eBit.ok Tryd.prog glR := ⟨enters_of Tryd.func113 (by kernel_rfl) (by kernel_rfl), by
  intro args c t bs h hc
  simp only [eBit] at h
  split at h <;> cases h
  exact bit_pure _⟩
noncomputable def iReg9 : Inl := ⟨82, Tryd.f82, bodyOf Tryd.f82, [0, 1, 2, 3, 4, 5, 6, 9, 10, 16, 26, 38]⟩
theorem iReg9_ok : iReg9.ok Tryd.prog := Inl.mk_ok Tryd.func82 (by rfl) (by kernel_rfl) (by kernel_rfl)
noncomputable def inlDo : List Inl := [iReg9]
theorem inlDo_ok : InlOk Tryd.prog inlDo := ⟨iReg9_ok, trivial⟩
noncomputable def ctxPlN (P : Program) (h : InlOk P inlDo) : Ctx := ctx P glR [eRFits, eRight9, eKeyed, eOwn, eRCanon, eRMax, eRSum, eTells, eRefuses, eBit] [] (noEq P) inlDo h.mem
theorem ctxPlN_good : (ctxPlN Tryd.prog inlDo_ok).good := ctx_good (by kernel_rfl) (AllOk.mem ⟨eRFits_ok, eRight9_ok, eKeyed_ok, eOwn_ok, eRCanon_ok, eRMax_ok, eRSum_ok, eTells_ok, eRefuses_ok, eBit_ok, trivial⟩) glR_two
attribute [local irreducible] fitsB right1 right5
set_option maxRecDepth 100000 in
set_option maxHeartbeats 1000000 in
theorem doR_pure (p n r code key v : Int) (n1 n2 n3 : Nat) (hf : fitsB 1 p n = true) (hr : right1 p n r [] [] [] false = true) (ur : U64 r) (uv : U64 v) : Pure Tryd.prog glR 41 [.agg [.v (.int .i64 1), .v (.int .i64 p), .v (.int .i64 n)], ST r 0 [] 0 [] 0 [] false, .agg [.v (.int .i64 code), .v (.int .u64 key), .v (.int .u64 v)]]
    (.tup [SO ((regDo r code v).1.getD 0 0) 0 0 0 false, .agg [.v (.int .i64 (regDo r code v).2.1), .v (.int .u64 (regDo r code v).2.2)], .v (.int .i64 0)]) (SH [] [] []) := by
  have hk : rightK 1 p n r [] [] [] false = true := hr
  refine pure_of (C := ctxPlN Tryd.prog inlDo_ok) ctxPlN_good Tryd.func41 (c := bodyOf Tryd.f41) (by rfl) (Nat.le_of_ble_eq_true (by rfl)) 4 4 [0, 1, 2, 3, 4, 5, 6, 7, 8, 9, 10, 11, 14, 20, 34, 44] ?_
  conv => whnf
  repeat' (first | (refine ifB_t (by assumption) ?_; conv => whnf) | (refine ifB_f (by assumption) ?_; conv => whnf) | (refine ifB_dec (fun h => ?_) (fun h => ?_) <;> (first | (exfalso; omega) | (conv => whnf))) | (refine ifB_eq (fun h => ?_) (fun h => ?_) <;> (first | (exfalso; omega) | (conv => whnf))) | (refine ifB_ne (fun h => ?_) (fun h => ?_) <;> (first | (exfalso; omega) | (conv => whnf))) | (refine ifB_not ?_; conv => whnf) | (refine ifB_and ?_; conv => whnf) | (refine ifB_or ?_; conv => whnf) | (refine And.intro ?_ ?_; (first | omega | assumption | (exact allU_getD (by assumption) _) | (simp only [cutL]; omega) | (refine And.intro ?_ ?_ <;> first | assumption | exact allU_getD (by assumption) _) | (simp only [cutL, IntKind.wrap_u64, IntKind.wrap_i64] at *; omega) | decide); conv => whnf) | (refine ifB_mk (fun h => ?_) (fun h => ?_) <;> (conv => whnf)))
  refine And.intro ⟨.inl rfl, ur, by omega, by omega⟩ ?_
  conv => whnf
  repeat' (first | (refine ifB_t (by assumption) ?_; conv => whnf) | (refine ifB_f (by assumption) ?_; conv => whnf) | (refine ifB_dec (fun h => ?_) (fun h => ?_) <;> (first | (exfalso; omega) | (conv => whnf))) | (refine ifB_eq (fun h => ?_) (fun h => ?_) <;> (first | (exfalso; omega) | (conv => whnf))) | (refine ifB_ne (fun h => ?_) (fun h => ?_) <;> (first | (exfalso; omega) | (conv => whnf))) | (refine ifB_not ?_; conv => whnf) | (refine ifB_and ?_; conv => whnf) | (refine ifB_or ?_; conv => whnf) | (refine And.intro ?_ ?_; (first | omega | assumption | (exact allU_getD (by assumption) _) | (simp only [cutL]; omega) | (refine And.intro ?_ ?_ <;> first | assumption | exact allU_getD (by assumption) _) | (simp only [cutL, IntKind.wrap_u64, IntKind.wrap_i64] at *; omega) | decide); conv => whnf) | (refine ifB_mk (fun h => ?_) (fun h => ?_) <;> (conv => whnf)))
  all_goals first | (subst code; repeat' (first | exact trivial | exact rfl | (refine And.intro ?_ ?_) | ((conv => whnf); done) | ((conv => whnf); (first | rfl | (refine congrArg (fun b => T.v (Value.bool b)) ?_; first | rfl | exact (decide_eq_true (by omega)).symm | exact (decide_eq_false (by omega)).symm | exact decide_eq_decide.2 (by omega)) | (refine congrArg (fun b => T.v (Value.int _ b)) ?_; first | rfl | omega) | omega)) | (first | rfl | (refine congrArg (fun b => T.v (Value.bool b)) ?_; first | rfl | exact (decide_eq_true (by omega)).symm | exact (decide_eq_false (by omega)).symm | exact decide_eq_decide.2 (by omega)) | (refine congrArg (fun b => T.v (Value.int _ b)) ?_; first | rfl | omega) | omega))) | (rw [show regDo r code v = ([r], 10, 0) from by unfold regDo; rw [if_neg (by assumption), if_neg (by assumption), if_neg (by assumption), if_neg (by assumption)]]; repeat' (first | exact trivial | exact rfl | (refine And.intro ?_ ?_) | ((conv => whnf); done) | ((conv => whnf); (first | rfl | (refine congrArg (fun b => T.v (Value.bool b)) ?_; first | rfl | exact (decide_eq_true (by omega)).symm | exact (decide_eq_false (by omega)).symm | exact decide_eq_decide.2 (by omega)) | (refine congrArg (fun b => T.v (Value.int _ b)) ?_; first | rfl | omega) | omega)) | (first | rfl | (refine congrArg (fun b => T.v (Value.bool b)) ?_; first | rfl | exact (decide_eq_true (by omega)).symm | exact (decide_eq_false (by omega)).symm | exact decide_eq_decide.2 (by omega)) | (refine congrArg (fun b => T.v (Value.int _ b)) ?_; first | rfl | omega) | omega)))
end Go.Proofs.YtlcpcgdecodjfaaDoor
namespace Go.Proofs.YtlcpcgdecodjfaaDoor
open Go.RowKit Go.Proofs.YtlcpcgdecodjfaaDoor.Am
set_option linter.unusedVariables false
set_option linter.unusedSimpArgs false

noncomputable def iCast9 : Inl := ⟨112, Tryd.f112, bodyOf Tryd.f112, [0, 1, 2, 3, 4, 5, 6, 7, 8, 9, 28, 33]⟩
theorem iCast9_ok : iCast9.ok Tryd.prog := Inl.mk_ok Tryd.func112 (by rfl) (by kernel_rfl) (by kernel_rfl)
noncomputable def iBal9 : Inl := ⟨85, Tryd.f85, bodyOf Tryd.f85, [0, 1, 2, 3, 4, 5, 6, 7, 8, 9, 10, 13, 14, 22, 31, 40, 47, 65, 72, 84]⟩
theorem iBal9_ok : iBal9.ok Tryd.prog := Inl.mk_ok Tryd.func85 (by rfl) (by kernel_rfl) (by kernel_rfl)
noncomputable def inlDb : List Inl := [iCast9, iBal9]
theorem inlDb_ok : InlOk Tryd.prog inlDb := ⟨iCast9_ok, iBal9_ok, trivial⟩
noncomputable def ctxPlO (P : Program) (h : InlOk P inlDb) : Ctx := ctx P glR [eRFits, eRight9, eKeyed, eOwn, eTells, eRefuses, eBit] [] (noEq P) inlDb h.mem
theorem ctxPlO_good : (ctxPlO Tryd.prog inlDb_ok).good := ctx_good (by kernel_rfl) (AllOk.mem ⟨eRFits_ok, eRight9_ok, eKeyed_ok, eOwn_ok, eTells_ok, eRefuses_ok, eBit_ok, trivial⟩) glR_two
/-- What a call makes of a ballot's state. -/
def balR (ws : List Int) (c : Bool) (code key v : Int) : List Int × Bool × Int × Int :=
  if code = 12 then
    if key < ws.length ∧ 1 ≤ v ∧ v ≤ 8 then
      if c = true then (ws, c, 14, 0)
      else if ws.getD key.toNat 0 = 0 then (ws.set key.toNat v, c, 0, 0)
      else (ws, c, 13, 0)
    else (ws, c, 10, 0)
  else if code = 13 then (ws, true, 0, bitI (!c))
  else if code = 14 then
    if 1 ≤ key ∧ key ≤ 8 then (ws, c, 0, cnt ws key) else (ws, c, 10, 0)
  else if code = 15 then
    if key < ws.length then (ws, c, 0, ws.getD key.toNat 0) else (ws, c, 10, 0)
  else if code = 16 then (ws, c, 0, bitI c)
  else (ws, c, 10, 0)
attribute [local irreducible] fitsB right1 right5
set_option maxRecDepth 100000 in
set_option maxHeartbeats 2000000 in
theorem doB_pure (p code key v : Int) (n : Nat) (ws : List Int) (c : Bool) (hf : fitsB 5 p n = true) (hr : right5 p n 0 [] [] ws c = true) (hn : ws.length = n) (hok : okV ws = true) (uk : U64 key) (uv : U64 v) : Pure Tryd.prog glR 41 [.agg [.v (.int .i64 5), .v (.int .i64 p), .v (.int .i64 n)], ST 0 0 [] 0 [] n ws c, .agg [.v (.int .i64 code), .v (.int .u64 key), .v (.int .u64 v)]]
    (.tup [SO 0 0 0 n (balR ws c code key v).2.1, .agg [.v (.int .i64 (balR ws c code key v).2.2.1), .v (.int .u64 (balR ws c code key v).2.2.2)], .v (.int .i64 0)]) (SH [] [] (balR ws c code key v).1) := by
  have ew : IntKind.u64.wrap (n : Int) = n := by rw [IntKind.wrap_u64]; have := (fitsB_room hf).2.2.2.2; omega
  have ek : 0 + addN 0 key.toNat * (0 + 1) = key.toNat := by simp [addN_eq]
  have ewv : v ≤ 8 → IntKind.i64.wrap v = v := fun h => by have := uv.1; rw [IntKind.wrap_i64]; omega
  have hk : rightK 5 p n 0 [] [] ws c = true := hr
  obtain ⟨f1, f2, f3, f4, f5, f6⟩ := fitsB_room hf
  obtain ⟨k1, k2⟩ := id uk
  obtain ⟨v1, v2⟩ := id uv
  refine pure_of (C := ctxPlO Tryd.prog inlDb_ok) ctxPlO_good Tryd.func41 (c := bodyOf Tryd.f41) (by rfl) (Nat.le_of_ble_eq_true (by rfl)) 4 4 [0, 1, 2, 3, 4, 5, 6, 7, 8, 9, 10, 11, 14, 20, 34, 44] ?_
  conv => whnf
  repeat' (first | (refine ifB_t (by assumption) ?_; conv => whnf) | (refine ifB_f (by assumption) ?_; conv => whnf) | (refine ifB_dec (fun h => ?_) (fun h => ?_) <;> (first | (exfalso; omega) | (conv => whnf))) | (refine ifB_eq (fun h => ?_) (fun h => ?_) <;> (first | (exfalso; omega) | (conv => whnf))) | (refine ifB_ne (fun h => ?_) (fun h => ?_) <;> (first | (exfalso; omega) | (conv => whnf))) | (refine ifB_not ?_; conv => whnf) | (refine ifB_and ?_; conv => whnf) | (refine ifB_or ?_; conv => whnf) | (refine And.intro ?_ ?_; (first | omega | assumption | (exact allU_getD (by assumption) _) | (simp only [cutL]; omega) | (refine And.intro ?_ ?_ <;> first | assumption | exact allU_getD (by assumption) _) | (simp only [cutL, IntKind.wrap_u64, IntKind.wrap_i64] at *; omega) | decide); conv => whnf) | (refine ifB_mk (fun h => ?_) (fun h => ?_) <;> (conv => whnf)))
  refine And.intro ⟨.inr rfl, ⟨by omega, by omega⟩, by omega, by omega⟩ ?_
  conv => whnf
  repeat' (first | (refine ifB_t (by assumption) ?_; conv => whnf) | (refine ifB_f (by assumption) ?_; conv => whnf) | (refine ifB_dec (fun h => ?_) (fun h => ?_) <;> (first | (exfalso; omega) | (conv => whnf))) | (refine ifB_eq (fun h => ?_) (fun h => ?_) <;> (first | (exfalso; omega) | (conv => whnf))) | (refine ifB_ne (fun h => ?_) (fun h => ?_) <;> (first | (exfalso; omega) | (conv => whnf))) | (refine ifB_not ?_; conv => whnf) | (refine ifB_and ?_; conv => whnf) | (refine ifB_or ?_; conv => whnf) | (refine And.intro ?_ ?_; (first | omega | assumption | (exact allU_getD (by assumption) _) | (simp only [cutL]; omega) | (refine And.intro ?_ ?_ <;> first | assumption | exact allU_getD (by assumption) _) | (simp only [cutL, IntKind.wrap_u64, IntKind.wrap_i64] at *; omega) | decide); conv => whnf) | (refine ifB_mk (fun h => ?_) (fun h => ?_) <;> (conv => whnf)))
  all_goals first | (obtain ⟨r, hb⟩ : ∃ r, balR ws c code key v = r := ⟨_, rfl⟩; rw [hb]; unfold balR at hb; (repeat (first | rw [if_pos (by first | assumption | omega | exact Bool.false_ne_true | exact rfl | (simp only [addN_eq, loN, Nat.zero_add, Nat.mul_one, Nat.zero_mul, Nat.add_zero, Int.toNat_zero] at *; first | assumption | omega))] at hb | rw [if_neg (by first | assumption | omega | exact Bool.false_ne_true | exact rfl | (simp only [addN_eq, loN, Nat.zero_add, Nat.mul_one, Nat.zero_mul, Nat.add_zero, Int.toNat_zero] at *; first | assumption | omega))] at hb)); subst hb; (repeat' (first | exact trivial | exact rfl | (refine And.intro ?_ ?_) | ((conv => whnf); done) | ((conv => whnf); (first | rfl | (refine congrArg (fun b => T.v (Value.bool b)) ?_; first | rfl | exact (decide_eq_true (by omega)).symm | exact (decide_eq_false (by omega)).symm | exact decide_eq_decide.2 (by omega)) | (refine congrArg (fun b => T.v (Value.int _ b)) ?_; first | rfl | omega) | omega)) | (first | rfl | (refine congrArg (fun b => T.v (Value.bool b)) ?_; first | rfl | exact (decide_eq_true (by omega)).symm | exact (decide_eq_false (by omega)).symm | exact decide_eq_decide.2 (by omega)) | (refine congrArg (fun b => T.v (Value.int _ b)) ?_; first | rfl | omega) | omega))); done) | skip
  all_goals (try (rw [ek] at h; subst c; obtain ⟨r, hb⟩ : ∃ r, balR ws false code key v = r := ⟨_, rfl⟩; rw [hb]; unfold balR at hb; (repeat (first | rw [if_pos (by first | assumption | omega | exact Bool.false_ne_true | exact rfl | (simp only [addN_eq, loN, Nat.zero_add, Nat.mul_one, Nat.zero_mul, Nat.add_zero, Int.toNat_zero] at *; first | assumption | omega))] at hb | rw [if_neg (by first | assumption | omega | exact Bool.false_ne_true | exact rfl | (simp only [addN_eq, loN, Nat.zero_add, Nat.mul_one, Nat.zero_mul, Nat.add_zero, Int.toNat_zero] at *; first | assumption | omega))] at hb)); subst hb; repeat' (first | exact trivial | exact rfl | (refine And.intro ?_ ?_) | ((conv => whnf); done) | ((conv => whnf); (first | rfl | (refine congrArg (fun b => T.v (Value.bool b)) ?_; first | rfl | exact (decide_eq_true (by omega)).symm | exact (decide_eq_false (by omega)).symm | exact decide_eq_decide.2 (by omega)) | (refine congrArg (fun b => T.v (Value.int _ b)) ?_; first | rfl | omega) | omega)) | (first | rfl | (refine congrArg (fun b => T.v (Value.bool b)) ?_; first | rfl | exact (decide_eq_true (by omega)).symm | exact (decide_eq_false (by omega)).symm | exact decide_eq_decide.2 (by omega)) | (refine congrArg (fun b => T.v (Value.int _ b)) ?_; first | rfl | omega) | omega))))
  · show ws.set (0 + addN 0 key.toNat * (0 + 1)) (IntKind.i64.wrap v) = ws.set key.toNat v
    rw [ek, ewv (by omega)]
  · have hb : balR ws c 14 key v = (ws, c, 0, cnt ws key) := by unfold balR; rw [if_neg (by omega), if_neg (by omega), if_pos rfl, if_pos (by omega)]
    subst code
    rw [hb]
    refine TW.loopD ctxPlO_good 3 (base := 3000000) (lv := [0, 1, 2, 3, 4, 5, 6, 7, 8, 9, 10, 13, 14, 22, 31, 40, 47, 65, 72, 84]) [9, 10] [] [] (fun j : Nat => [.v (.int .u64 (cnt (ws.take j) key)), .v (.int .i64 j)]) (fun _ => []) (fun j => j ≤ n) (fun j => n - j) ?_
    conv => whnf
    refine ⟨⟨0, ⟨rfl, rfl, rfl⟩, Nat.zero_le _⟩, fun j hj => ?_⟩
    replace hj : j ≤ n := hj
    conv => whnf
    refine ifB_dec (fun h => ?_) (fun h => ?_)
    · conv => whnf
      have hg := okV_getD hok j
      have e : ws.getD (0 + addN 0 (j : Int).toNat * (0 + 1)) 0 = ws.getD j 0 := by simp [addN_eq]
      have e2 : IntKind.u64.wrap (ws.getD j 0) = ws.getD j 0 := wrapU (by omega) (by omega)
      have hc := cnt_le (ws.take j) key
      have hlj : (ws.take j).length ≤ 1000 := by simp; omega
      have es : IntKind.u64.wrap (cnt (ws.take j) key + bitI (ws.getD j 0 == key)) = cnt (ws.take (j + 1)) key := by
        rw [take_snoc (by omega), cnt_snoc]
        by_cases hk : ws.getD j 0 = key
        · rw [if_pos hk, hk, beq_self_eq_true]; exact wrapU (by show 0 ≤ _ + (1 : Int); omega) (by show _ + (1 : Int) < _; omega)
        · rw [if_neg hk, beq_eq_false_iff_ne.2 hk]; exact wrapU (by show 0 ≤ _ + (0 : Int); omega) (by show _ + (0 : Int) < _; omega)
      repeat' (first | (refine ifB_t (by assumption) ?_; conv => whnf) | (refine ifB_f (by assumption) ?_; conv => whnf) | (refine ifB_dec (fun h => ?_) (fun h => ?_) <;> (first | (exfalso; omega) | (conv => whnf))) | (refine ifB_eq (fun h => ?_) (fun h => ?_) <;> (first | (exfalso; omega) | (conv => whnf))) | (refine ifB_ne (fun h => ?_) (fun h => ?_) <;> (first | (exfalso; omega) | (conv => whnf))) | (refine ifB_not ?_; conv => whnf) | (refine ifB_and ?_; conv => whnf) | (refine ifB_or ?_; conv => whnf) | (refine And.intro ?_ ?_; (first | omega | assumption | (exact allU_getD (by assumption) _) | (simp only [cutL]; omega) | (refine And.intro ?_ ?_ <;> first | assumption | exact allU_getD (by assumption) _) | (simp only [cutL, IntKind.wrap_u64, IntKind.wrap_i64] at *; omega) | decide); conv => whnf) | (refine ifB_mk (fun h => ?_) (fun h => ?_) <;> (conv => whnf)))
      rw [wsucc (n := n) (by omega) (by omega), e, e2, es]
      exact ⟨j + 1, [], ⟨rfl, rfl, rfl⟩, (by omega : j + 1 ≤ n), by (try dsimp only); omega⟩
    · conv => whnf
      have e : ws.take j = ws := List.take_of_length_le (by omega)
      repeat' (first | (refine ifB_t (by assumption) ?_; conv => whnf) | (refine ifB_f (by assumption) ?_; conv => whnf) | (refine ifB_dec (fun h => ?_) (fun h => ?_) <;> (first | (exfalso; omega) | (conv => whnf))) | (refine ifB_eq (fun h => ?_) (fun h => ?_) <;> (first | (exfalso; omega) | (conv => whnf))) | (refine ifB_ne (fun h => ?_) (fun h => ?_) <;> (first | (exfalso; omega) | (conv => whnf))) | (refine ifB_not ?_; conv => whnf) | (refine ifB_and ?_; conv => whnf) | (refine ifB_or ?_; conv => whnf) | (refine And.intro ?_ ?_; (first | omega | assumption | (exact allU_getD (by assumption) _) | (simp only [cutL]; omega) | (refine And.intro ?_ ?_ <;> first | assumption | exact allU_getD (by assumption) _) | (simp only [cutL, IntKind.wrap_u64, IntKind.wrap_i64] at *; omega) | decide); conv => whnf) | (refine ifB_mk (fun h => ?_) (fun h => ?_) <;> (conv => whnf)))
      rw [e]
      repeat' (first | exact trivial | exact rfl | (refine And.intro ?_ ?_) | ((conv => whnf); done) | ((conv => whnf); (first | rfl | (refine congrArg (fun b => T.v (Value.bool b)) ?_; first | rfl | exact (decide_eq_true (by omega)).symm | exact (decide_eq_false (by omega)).symm | exact decide_eq_decide.2 (by omega)) | (refine congrArg (fun b => T.v (Value.int _ b)) ?_; first | rfl | omega) | omega)) | (first | rfl | (refine congrArg (fun b => T.v (Value.bool b)) ?_; first | rfl | exact (decide_eq_true (by omega)).symm | exact (decide_eq_false (by omega)).symm | exact decide_eq_decide.2 (by omega)) | (refine congrArg (fun b => T.v (Value.int _ b)) ?_; first | rfl | omega) | omega))
  · have hg := okV_getD hok key.toNat
    have hb : balR ws c code key v = (ws, c, 0, ws.getD key.toNat 0) := by unfold balR; rw [if_neg (by assumption), if_neg (by assumption), if_neg (by assumption), if_pos (by assumption), if_pos (by omega)]
    rw [hb, ek, wrapU (by omega) (by omega)]
    repeat' (first | exact trivial | exact rfl | (refine And.intro ?_ ?_) | ((conv => whnf); done) | ((conv => whnf); (first | rfl | (refine congrArg (fun b => T.v (Value.bool b)) ?_; first | rfl | exact (decide_eq_true (by omega)).symm | exact (decide_eq_false (by omega)).symm | exact decide_eq_decide.2 (by omega)) | (refine congrArg (fun b => T.v (Value.int _ b)) ?_; first | rfl | omega) | omega)) | (first | rfl | (refine congrArg (fun b => T.v (Value.bool b)) ?_; first | rfl | exact (decide_eq_true (by omega)).symm | exact (decide_eq_false (by omega)).symm | exact decide_eq_decide.2 (by omega)) | (refine congrArg (fun b => T.v (Value.int _ b)) ?_; first | rfl | omega) | omega))
end Go.Proofs.YtlcpcgdecodjfaaDoor
namespace Go.Proofs.YtlcpcgdecodjfaaDoor
open Go.RowKit Go.Proofs.YtlcpcgdecodjfaaDoor.Am
set_option linter.unusedVariables false
set_option linter.unusedSimpArgs false

/-- A state that is right, of a register or a ballot, and a call's words. -/
def DoOk (k p n r : Int) (n1 : Nat) (ks : List Int) (n2 : Nat) (vs : List Int) (n3 : Nat) (ws : List Int) (c : Bool) (key v : Int) : Prop :=
  n1 = 0 ∧ ks = [] ∧ n2 = 0 ∧ vs = [] ∧ U64 key ∧ U64 v ∧ ((k = 1 ∧ fitsB 1 p n = true ∧ n3 = 0 ∧ ws = [] ∧ c = false ∧ U64 r ∧ iCanon r = r) ∨ (k = 5 ∧ r = 0 ∧ ∃ n0 : Nat, n = (n0 : Int) ∧ fitsB 5 p n0 = true ∧ n3 = n0 ∧ ws.length = n0 ∧ okV ws = true))
def doT (k r : Int) (n3 : Nat) (ws : List Int) (c : Bool) (code key v : Int) : T := if k = 1 then
    .tup [SO ((regDo r code v).1.getD 0 0) 0 0 0 false, .agg [.v (.int .i64 (regDo r code v).2.1), .v (.int .u64 (regDo r code v).2.2)], .v (.int .i64 0)]
  else .tup [SO 0 0 0 n3 (balR ws c code key v).2.1, .agg [.v (.int .i64 (balR ws c code key v).2.2.1), .v (.int .u64 (balR ws c code key v).2.2.2)], .v (.int .i64 0)]
def doH (k : Int) (ws : List Int) (c : Bool) (code key v : Int) : Hp := if k = 1 then SH [] [] [] else SH [] [] (balR ws c code key v).1
theorem do_pure {k p n r : Int} {n1 : Nat} {ks : List Int} {n2 : Nat} {vs : List Int} {n3 : Nat} {ws : List Int} {c : Bool} {code key v : Int} (h : DoOk k p n r n1 ks n2 vs n3 ws c key v) : Pure Tryd.prog glR 41 [.agg [.v (.int .i64 k), .v (.int .i64 p), .v (.int .i64 n)], ST r n1 ks n2 vs n3 ws c, .agg [.v (.int .i64 code), .v (.int .u64 key), .v (.int .u64 v)]] (doT k r n3 ws c code key v) (doH k ws c code key v) := by
  obtain ⟨rfl, rfl, rfl, rfl, hk, hv, h | h⟩ := h
  · obtain ⟨rfl, hf, rfl, rfl, rfl, hr, hc⟩ := h
    exact doR_pure _ _ _ _ _ _ 0 0 0 hf (by simp [right1, hf, hc]) hr hv
  · obtain ⟨rfl, rfl, n0, rfl, hf, rfl, hl, ho⟩ := h
    exact doB_pure _ _ _ _ _ _ _ hf (by simp [right5, votesOk, hf, hl, ho]) hl ho hk hv

def eDo9 : Entry := ⟨41, 3, fun l => match l.map fixS with | [.agg [.v (.int .i64 k), .v (.int .i64 p), .v (.int .i64 n)], .agg [.v (.int .u64 r), .fl [.u64] n1 ks, .fl [.u64] n2 vs, .fl [.i64] n3 ws, .v (.bool c)], .agg [.v (.int .i64 code), .v (.int .u64 key), .v (.int .u64 v)]] => some (some (DoOk k p n r n1 ks n2 vs n3 ws c key v), doT k r n3 ws c code key v, doH k ws c code key v) | _ => none⟩
theorem eDo9_ok : eDo9.ok Tryd.prog glR := ⟨enters_of Tryd.func41 (by kernel_rfl) (by kernel_rfl), by
  intro args c t bs h hc
  simp only [eDo9] at h
  split at h <;> cases h
  rename_i heq
  replace hc := hc _ rfl
  refine pure_fixS ?_
  rw [heq]
  exact do_pure hc⟩

end Go.Proofs.YtlcpcgdecodjfaaDoor
namespace Go.Proofs.YtlcpcgdecodjfaaDoor
open Go.RowKit Go.Proofs.YtlcpcgdecodjfaaDoor.Am
set_option linter.unusedVariables false
set_option linter.unusedSimpArgs false

set_option maxRecDepth 100000 in
theorem votes10_pure (r : Int) (n1 : Nat) (ks : List Int) (n2 : Nat) (vs : List Int) (n : Nat) (ws : List Int) (c : Bool) (hn : n ≤ 1000) (ho : okV ws = true) : Pure Tryd.prog glR 46 [ST r n1 ks n2 vs n ws c] (.ow 0 1 (n + 8)) [(0, .fl [.u64] (ws ++ (tally9 ws).drop 1))] := by
  refine pure_wf fun hw => ?_
  obtain ⟨⟨-, -, -, ⟨w1, w2⟩, -, -⟩, -⟩ := hw
  simp only [List.length_cons, List.length_nil, Nat.zero_add, Nat.mul_one] at w1
  refine pure_of (C := ctx0 Tryd.prog) ctx0_good Tryd.func46 (c := bodyOf Tryd.f46) (by rfl) (Nat.le_of_ble_eq_true (by rfl)) 4 0 [0, 1, 2, 3, 4, 5, 6, 7, 12, 25, 32, 41] ?_
  conv => whnf
  refine TW.nilOwn 3 5000 1 (.fl [.u64] []) rfl rfl (.inr ⟨_, _, rfl⟩) (by decide) ?_
  refine TW.loopD ctx0_good 0 (base := 0) (lv := [0, 1, 2, 3, 4, 5, 6, 7, 12, 25, 32, 41]) [3, 4] [5000] [(5000, 5000)] (fun x : Nat × List Int => [.ow 5000 1 x.1, .v (.int .i64 x.1)]) (fun x => [.fl [.u64] x.2]) (fun x => x.1 ≤ n ∧ x.2 = ws.take x.1) (fun x => n - x.1) ?_
  conv => whnf
  refine ⟨⟨(0, []), ⟨rfl, rfl, rfl⟩, Nat.zero_le _, rfl⟩, fun ⟨j, l⟩ ⟨hj, hl⟩ => ?_⟩
  replace hj : j ≤ n := hj
  replace hl : l = ws.take j := hl
  conv => whnf
  refine ifB_dec (fun h => ?_) (fun h => ?_)
  · have hg := okV_getD ho j
    have e : ws.getD (0 + (j : Int).toNat * (0 + 1)) 0 = ws.getD j 0 := by simp
    have e2 : IntKind.u64.wrap (ws.getD j 0) = ws.getD j 0 := wrapU (by omega) (by omega)
    conv => whnf
    repeat' (first | (refine ifB_t (by assumption) ?_; conv => whnf) | (refine ifB_f (by assumption) ?_; conv => whnf) | (refine ifB_dec (fun h => ?_) (fun h => ?_) <;> (first | (exfalso; omega) | (conv => whnf))) | (refine ifB_eq (fun h => ?_) (fun h => ?_) <;> (first | (exfalso; omega) | (conv => whnf))) | (refine ifB_ne (fun h => ?_) (fun h => ?_) <;> (first | (exfalso; omega) | (conv => whnf))) | (refine ifB_not ?_; conv => whnf) | (refine ifB_and ?_; conv => whnf) | (refine ifB_or ?_; conv => whnf) | (refine And.intro ?_ ?_; (first | omega | assumption | (exact allU_getD (by assumption) _) | (simp only [cutL]; omega) | (refine And.intro ?_ ?_ <;> first | assumption | exact allU_getD (by assumption) _) | (simp only [cutL, IntKind.wrap_u64, IntKind.wrap_i64] at *; omega) | decide); conv => whnf) | (refine ifB_mk (fun h => ?_) (fun h => ?_) <;> (conv => whnf)))
    rw [wsucc (n := n) (by omega) (by omega), e, e2]
    exact ⟨(j + 1, l ++ [ws.getD j 0]), [(92, 5000)], ⟨rfl, rfl, rfl⟩, ⟨(by omega : j + 1 ≤ n), (by show l ++ [ws.getD j 0] = ws.take (j + 1); rw [hl, take_snoc (by omega)])⟩, (by dsimp only; omega)⟩
  · conv => whnf
    have ej : ws.take j = ws := List.take_of_length_le (by omega)
    rw [ej] at hl
    have e0 : j = n := by omega
    subst l; subst e0; subst w1
    refine TW.loopD ctx0_good 0 (base := 0) (lv := [0, 1, 2, 3, 4, 5, 6, 7, 12, 25, 32, 41]) [3, 5] [5000] [(5000, 5000)] (fun x : Nat × List Int => [.ow 5000 1 (ws.length + x.1), .v (.int .i64 (1 + x.1 : Nat))]) (fun x => [.fl [.u64] x.2]) (fun x => x.1 ≤ 8 ∧ x.2 = ws ++ ((tally9 ws).drop 1).take x.1) (fun x => 8 - x.1) ?_
    conv => whnf
    refine ⟨⟨(0, ws), ⟨rfl, rfl, rfl⟩, Nat.zero_le _, by simp⟩, fun ⟨q, l⟩ ⟨hq, hl⟩ => ?_⟩
    replace hq : q ≤ 8 := hq
    replace hl : l = ws ++ ((tally9 ws).drop 1).take q := hl
    conv => whnf
    refine ifB_dec (fun h => ?_) (fun h => ?_)
    · conv => whnf
      refine TW.loopD ctx0_good 0 (base := 0) (lv := [0, 1, 2, 3, 4, 5, 6, 7, 12, 25, 32, 41]) [6, 7] [] [] (fun i : Nat => [.v (.int .u64 (cnt (ws.take i) (1 + q : Nat))), .v (.int .i64 i)]) (fun i => []) (fun i => i ≤ ws.length) (fun i => ws.length - i) ?_
      conv => whnf
      refine ⟨⟨0, ⟨rfl, rfl, rfl⟩, Nat.zero_le _⟩, fun i hi => ?_⟩
      replace hi : i ≤ ws.length := hi
      conv => whnf
      refine ifB_dec (fun h => ?_) (fun h => ?_)
      · have e : ws.getD (0 + (i : Int).toNat * (0 + 1)) 0 = ws.getD i 0 := by simp
        conv => whnf
        have hc := cnt_le (ws.take i) (1 + q : Nat)
        have hli : (ws.take i).length = i := by simp; omega
        have hs : cnt (ws.take (i + 1)) (1 + q : Nat) = cnt (ws.take i) (1 + q : Nat) + if ws.getD i 0 = ((1 + q : Nat) : Int) then 1 else 0 := by rw [take_snoc (by omega), cnt_snoc]
        repeat' (first | (refine ifB_t (by assumption) ?_; conv => whnf) | (refine ifB_f (by assumption) ?_; conv => whnf) | (refine ifB_dec (fun h => ?_) (fun h => ?_) <;> (first | (exfalso; omega) | (conv => whnf))) | (refine ifB_eq (fun h => ?_) (fun h => ?_) <;> (first | (exfalso; omega) | (conv => whnf))) | (refine ifB_ne (fun h => ?_) (fun h => ?_) <;> (first | (exfalso; omega) | (conv => whnf))) | (refine ifB_not ?_; conv => whnf) | (refine ifB_and ?_; conv => whnf) | (refine ifB_or ?_; conv => whnf) | (refine And.intro ?_ ?_; (first | omega | assumption | (exact allU_getD (by assumption) _) | (simp only [cutL]; omega) | (refine And.intro ?_ ?_ <;> first | assumption | exact allU_getD (by assumption) _) | (simp only [cutL, IntKind.wrap_u64, IntKind.wrap_i64] at *; omega) | decide); conv => whnf) | (refine ifB_mk (fun h => ?_) (fun h => ?_) <;> (conv => whnf)))
        · rw [e] at h
          replace h : ws.getD i 0 = ((1 + q : Nat) : Int) := h
          rw [if_pos h] at hs
          rw [wsucc (n := ws.length) (by omega) w2, wrapU (by omega) (by omega), ← hs]
          exact ⟨i + 1, [], ⟨rfl, rfl, rfl⟩, (by omega : i + 1 ≤ ws.length), by (try dsimp only); omega⟩
        · rw [e] at h
          replace h : ¬ ws.getD i 0 = ((1 + q : Nat) : Int) := h
          rw [if_neg h, Int.add_zero] at hs
          rw [wsucc (n := ws.length) (by omega) w2, ← hs]
          exact ⟨i + 1, [], ⟨rfl, rfl, rfl⟩, (by omega : i + 1 ≤ ws.length), by (try dsimp only); omega⟩
      · conv => whnf
        have ei : ws.take i = ws := List.take_of_length_le (by omega)
        have hll : l.length ≤ 1008 := by rw [hl]; simp; omega
        refine And.intro (show ws.length + q + 1 ≤ 1099511627776 by omega) ?_
        conv => whnf
        repeat' (first | (refine ifB_t (by assumption) ?_; conv => whnf) | (refine ifB_f (by assumption) ?_; conv => whnf) | (refine ifB_dec (fun h => ?_) (fun h => ?_) <;> (first | (exfalso; omega) | (conv => whnf))) | (refine ifB_eq (fun h => ?_) (fun h => ?_) <;> (first | (exfalso; omega) | (conv => whnf))) | (refine ifB_ne (fun h => ?_) (fun h => ?_) <;> (first | (exfalso; omega) | (conv => whnf))) | (refine ifB_not ?_; conv => whnf) | (refine ifB_and ?_; conv => whnf) | (refine ifB_or ?_; conv => whnf) | (refine And.intro ?_ ?_; (first | omega | assumption | (exact allU_getD (by assumption) _) | (simp only [cutL]; omega) | (refine And.intro ?_ ?_ <;> first | assumption | exact allU_getD (by assumption) _) | (simp only [cutL, IntKind.wrap_u64, IntKind.wrap_i64] at *; omega) | decide); conv => whnf) | (refine ifB_mk (fun h => ?_) (fun h => ?_) <;> (conv => whnf)))
        have hq8 : q < 8 := by omega
        have et : l ++ [cnt ws (1 + q : Nat)] = ws ++ ((tally9 ws).drop 1).take (q + 1) := by
          rw [hl, List.append_assoc]
          have : q = 0 ∨ q = 1 ∨ q = 2 ∨ q = 3 ∨ q = 4 ∨ q = 5 ∨ q = 6 ∨ q = 7 := by omega
          rcases this with rfl | rfl | rfl | rfl | rfl | rfl | rfl | rfl <;> rfl
        have ek : IntKind.i64.wrap (((1 + q : Nat) : Int) + 1) = ((1 + q + 1 : Nat) : Int) := wrap64 (by omega) (by omega)
        rw [ei, ek]
        exact ⟨(q + 1, l ++ [cnt ws (1 + q : Nat)]), [(188, 5000)], ⟨rfl, rfl, rfl⟩, ⟨(by omega : q + 1 ≤ 8), et⟩, (by dsimp only; omega)⟩
    · conv => whnf
      have e8 : q = 8 := by omega
      subst e8
      have e9 : ((tally9 ws).drop 1).take 8 = (tally9 ws).drop 1 := rfl
      rw [e9] at hl
      subst hl
      repeat' (first | exact trivial | exact rfl | (refine And.intro ?_ ?_) | ((conv => whnf); done) | ((conv => whnf); (first | rfl | (refine congrArg (fun b => T.v (Value.bool b)) ?_; first | rfl | exact (decide_eq_true (by omega)).symm | exact (decide_eq_false (by omega)).symm | exact decide_eq_decide.2 (by omega)) | (refine congrArg (fun b => T.v (Value.int _ b)) ?_; first | rfl | omega) | omega)) | (first | rfl | (refine congrArg (fun b => T.v (Value.bool b)) ?_; first | rfl | exact (decide_eq_true (by omega)).symm | exact (decide_eq_false (by omega)).symm | exact decide_eq_decide.2 (by omega)) | (refine congrArg (fun b => T.v (Value.int _ b)) ?_; first | rfl | omega) | omega))

def eVotes10 : Entry := ⟨46, 3, fun l => match l.map fixS with | [.agg [.v (.int .u64 r), .fl [.u64] n1 ks, .fl [.u64] n2 vs, .fl [.i64] n ws, .v (.bool c)]] => some (some (n ≤ 1000 ∧ okV ws = true), .ow 0 1 (n + 8), [(0, .fl [.u64] (ws ++ (tally9 ws).drop 1))]) | _ => none⟩
theorem eVotes10_ok : eVotes10.ok Tryd.prog glR := ⟨enters_of Tryd.func46 (by kernel_rfl) (by kernel_rfl), by
  intro args c t bs h hc
  simp only [eVotes10] at h
  split at h <;> cases h
  rename_i heq
  replace hc := hc _ rfl
  refine pure_fixS ?_
  rw [heq]
  exact votes10_pure _ _ _ _ _ _ _ _ hc.1 hc.2⟩

end Go.Proofs.YtlcpcgdecodjfaaDoor
namespace Go.Proofs.YtlcpcgdecodjfaaDoor
open Go.RowKit Go.Proofs.YtlcpcgdecodjfaaDoor.Am
set_option linter.unusedVariables false
set_option linter.unusedSimpArgs false

noncomputable def ctxPlR10 (P : Program) : Ctx := ctx P glR [eRFits, eRight9, eVotes10] [] (noEq P) [] (fun _ h => by cases h)
theorem ctxPlR10_good : (ctxPlR10 Tryd.prog).good := ctx_good (by kernel_rfl) (AllOk.mem ⟨eRFits_ok, eRight9_ok, eVotes10_ok, trivial⟩) glR_two
attribute [local irreducible] fitsB right1 right5
set_option maxRecDepth 100000 in
theorem enc1_pure (p n r : Int) (n1 : Nat) (ks : List Int) (n2 : Nat) (vs : List Int) (n3 : Nat) (ws : List Int) (c : Bool) (hf : fitsB 1 p n = true) (h1 : n1 ≤ 1000) (h2 : n2 ≤ 1000) (ur : U64 r) (hr : right1 p n r ks vs ws c = true) : Pure Tryd.prog glR 14 [.agg [.v (.int .i64 1), .v (.int .i64 p), .v (.int .i64 n)], ST r n1 ks n2 vs n3 ws c] (.tup [.ow 0 1 1, .v (.int .i64 0)]) [(0, .fl [.u64] [r])] := by
  have hk : rightK 1 p n r ks vs ws c = true := hr
  refine pure_of (C := ctxPlR10 Tryd.prog) ctxPlR10_good Tryd.func14 (c := bodyOf Tryd.f14) (by rfl) (Nat.le_of_ble_eq_true (by rfl)) 4 0 [0, 1, 2, 3, 4, 5, 6, 7, 10, 14, 21, 22, 27, 35, 43] ?_
  conv => whnf
  repeat' (first | (refine ifB_t (by assumption) ?_; conv => whnf) | (refine ifB_f (by assumption) ?_; conv => whnf) | (refine ifB_dec (fun h => ?_) (fun h => ?_) <;> (first | (exfalso; omega) | (conv => whnf))) | (refine ifB_eq (fun h => ?_) (fun h => ?_) <;> (first | (exfalso; omega) | (conv => whnf))) | (refine ifB_ne (fun h => ?_) (fun h => ?_) <;> (first | (exfalso; omega) | (conv => whnf))) | (refine ifB_not ?_; conv => whnf) | (refine ifB_and ?_; conv => whnf) | (refine ifB_or ?_; conv => whnf) | (refine And.intro ?_ ?_; (first | omega | assumption | (exact allU_getD (by assumption) _) | (simp only [cutL]; omega) | (refine And.intro ?_ ?_ <;> first | assumption | exact allU_getD (by assumption) _) | (simp only [cutL, IntKind.wrap_u64, IntKind.wrap_i64] at *; omega) | decide); conv => whnf) | (refine ifB_mk (fun h => ?_) (fun h => ?_) <;> (conv => whnf)))
  refine And.intro ⟨.inl rfl, ur, h1, h2⟩ ?_
  conv => whnf
  repeat' (first | (refine ifB_t (by assumption) ?_; conv => whnf) | (refine ifB_f (by assumption) ?_; conv => whnf) | (refine ifB_dec (fun h => ?_) (fun h => ?_) <;> (first | (exfalso; omega) | (conv => whnf))) | (refine ifB_eq (fun h => ?_) (fun h => ?_) <;> (first | (exfalso; omega) | (conv => whnf))) | (refine ifB_ne (fun h => ?_) (fun h => ?_) <;> (first | (exfalso; omega) | (conv => whnf))) | (refine ifB_not ?_; conv => whnf) | (refine ifB_and ?_; conv => whnf) | (refine ifB_or ?_; conv => whnf) | (refine And.intro ?_ ?_; (first | omega | assumption | (exact allU_getD (by assumption) _) | (simp only [cutL]; omega) | (refine And.intro ?_ ?_ <;> first | assumption | exact allU_getD (by assumption) _) | (simp only [cutL, IntKind.wrap_u64, IntKind.wrap_i64] at *; omega) | decide); conv => whnf) | (refine ifB_mk (fun h => ?_) (fun h => ?_) <;> (conv => whnf)))
  repeat' (first | exact trivial | exact rfl | (refine And.intro ?_ ?_) | ((conv => whnf); done) | ((conv => whnf); (first | rfl | (refine congrArg (fun b => T.v (Value.bool b)) ?_; first | rfl | exact (decide_eq_true (by omega)).symm | exact (decide_eq_false (by omega)).symm | exact decide_eq_decide.2 (by omega)) | (refine congrArg (fun b => T.v (Value.int _ b)) ?_; first | rfl | omega) | omega)) | (first | rfl | (refine congrArg (fun b => T.v (Value.bool b)) ?_; first | rfl | exact (decide_eq_true (by omega)).symm | exact (decide_eq_false (by omega)).symm | exact decide_eq_decide.2 (by omega)) | (refine congrArg (fun b => T.v (Value.int _ b)) ?_; first | rfl | omega) | omega))
/-- A ballot's words, by the document. -/
def encB (ws : List Int) (c : Bool) : List Int := bitI c :: (ws ++ (tally9 ws).drop 1)
set_option maxRecDepth 100000 in
theorem enc5_pure (p n r : Int) (n1 : Nat) (ks : List Int) (n2 : Nat) (vs : List Int) (n3 : Nat) (ws : List Int) (c : Bool) (hf : fitsB 5 p n = true) (h1 : n1 ≤ 1000) (h2 : n2 ≤ 1000) (h3 : n3 ≤ 1000) (ur : U64 r) (hr : right5 p n r ks vs ws c = true) (ho : okV ws = true) : Pure Tryd.prog glR 14 [.agg [.v (.int .i64 5), .v (.int .i64 p), .v (.int .i64 n)], ST r n1 ks n2 vs n3 ws c] (.tup [.ow 0 1 (1 + (n3 + 8)), .v (.int .i64 0)]) [(0, .fl [.u64] (encB ws c))] := by
  have hk : rightK 5 p n r ks vs ws c = true := hr
  refine pure_of (C := ctxPlR10 Tryd.prog) ctxPlR10_good Tryd.func14 (c := bodyOf Tryd.f14) (by rfl) (Nat.le_of_ble_eq_true (by rfl)) 4 0 [0, 1, 2, 3, 4, 5, 6, 7, 10, 14, 21, 22, 27, 35, 43] ?_
  conv => whnf
  repeat' (first | (refine ifB_t (by assumption) ?_; conv => whnf) | (refine ifB_f (by assumption) ?_; conv => whnf) | (refine ifB_dec (fun h => ?_) (fun h => ?_) <;> (first | (exfalso; omega) | (conv => whnf))) | (refine ifB_eq (fun h => ?_) (fun h => ?_) <;> (first | (exfalso; omega) | (conv => whnf))) | (refine ifB_ne (fun h => ?_) (fun h => ?_) <;> (first | (exfalso; omega) | (conv => whnf))) | (refine ifB_not ?_; conv => whnf) | (refine ifB_and ?_; conv => whnf) | (refine ifB_or ?_; conv => whnf) | (refine And.intro ?_ ?_; (first | omega | assumption | (exact allU_getD (by assumption) _) | (simp only [cutL]; omega) | (refine And.intro ?_ ?_ <;> first | assumption | exact allU_getD (by assumption) _) | (simp only [cutL, IntKind.wrap_u64, IntKind.wrap_i64] at *; omega) | decide); conv => whnf) | (refine ifB_mk (fun h => ?_) (fun h => ?_) <;> (conv => whnf)))
  refine And.intro ⟨.inr rfl, ur, h1, h2⟩ ?_
  conv => whnf
  cases c
  · repeat' (first | (refine ifB_t (by assumption) ?_; conv => whnf) | (refine ifB_f (by assumption) ?_; conv => whnf) | (refine ifB_dec (fun h => ?_) (fun h => ?_) <;> (first | (exfalso; omega) | (conv => whnf))) | (refine ifB_eq (fun h => ?_) (fun h => ?_) <;> (first | (exfalso; omega) | (conv => whnf))) | (refine ifB_ne (fun h => ?_) (fun h => ?_) <;> (first | (exfalso; omega) | (conv => whnf))) | (refine ifB_not ?_; conv => whnf) | (refine ifB_and ?_; conv => whnf) | (refine ifB_or ?_; conv => whnf) | (refine And.intro ?_ ?_; (first | omega | assumption | (exact allU_getD (by assumption) _) | (simp only [cutL]; omega) | (refine And.intro ?_ ?_ <;> first | assumption | exact allU_getD (by assumption) _) | (simp only [cutL, IntKind.wrap_u64, IntKind.wrap_i64] at *; omega) | decide); conv => whnf) | (refine ifB_mk (fun h => ?_) (fun h => ?_) <;> (conv => whnf)))
    repeat' (first | exact trivial | exact rfl | (refine And.intro ?_ ?_) | ((conv => whnf); done) | ((conv => whnf); (first | rfl | (refine congrArg (fun b => T.v (Value.bool b)) ?_; first | rfl | exact (decide_eq_true (by omega)).symm | exact (decide_eq_false (by omega)).symm | exact decide_eq_decide.2 (by omega)) | (refine congrArg (fun b => T.v (Value.int _ b)) ?_; first | rfl | omega) | omega)) | (first | rfl | (refine congrArg (fun b => T.v (Value.bool b)) ?_; first | rfl | exact (decide_eq_true (by omega)).symm | exact (decide_eq_false (by omega)).symm | exact decide_eq_decide.2 (by omega)) | (refine congrArg (fun b => T.v (Value.int _ b)) ?_; first | rfl | omega) | omega))
  · repeat' (first | (refine ifB_t (by assumption) ?_; conv => whnf) | (refine ifB_f (by assumption) ?_; conv => whnf) | (refine ifB_dec (fun h => ?_) (fun h => ?_) <;> (first | (exfalso; omega) | (conv => whnf))) | (refine ifB_eq (fun h => ?_) (fun h => ?_) <;> (first | (exfalso; omega) | (conv => whnf))) | (refine ifB_ne (fun h => ?_) (fun h => ?_) <;> (first | (exfalso; omega) | (conv => whnf))) | (refine ifB_not ?_; conv => whnf) | (refine ifB_and ?_; conv => whnf) | (refine ifB_or ?_; conv => whnf) | (refine And.intro ?_ ?_; (first | omega | assumption | (exact allU_getD (by assumption) _) | (simp only [cutL]; omega) | (refine And.intro ?_ ?_ <;> first | assumption | exact allU_getD (by assumption) _) | (simp only [cutL, IntKind.wrap_u64, IntKind.wrap_i64] at *; omega) | decide); conv => whnf) | (refine ifB_mk (fun h => ?_) (fun h => ?_) <;> (conv => whnf)))
    repeat' (first | exact trivial | exact rfl | (refine And.intro ?_ ?_) | ((conv => whnf); done) | ((conv => whnf); (first | rfl | (refine congrArg (fun b => T.v (Value.bool b)) ?_; first | rfl | exact (decide_eq_true (by omega)).symm | exact (decide_eq_false (by omega)).symm | exact decide_eq_decide.2 (by omega)) | (refine congrArg (fun b => T.v (Value.int _ b)) ?_; first | rfl | omega) | omega)) | (first | rfl | (refine congrArg (fun b => T.v (Value.bool b)) ?_; first | rfl | exact (decide_eq_true (by omega)).symm | exact (decide_eq_false (by omega)).symm | exact decide_eq_decide.2 (by omega)) | (refine congrArg (fun b => T.v (Value.int _ b)) ?_; first | rfl | omega) | omega))
def EncOk (k p n r : Int) (n1 : Nat) (ks : List Int) (n2 : Nat) (vs : List Int) (n3 : Nat) (ws : List Int) (c : Bool) : Prop := n1 ≤ 1000 ∧ n2 ≤ 1000 ∧ n3 ≤ 1000 ∧ U64 r ∧ ((k = 1 ∧ fitsB 1 p n = true ∧ right1 p n r ks vs ws c = true) ∨ (k = 5 ∧ fitsB 5 p n = true ∧ right5 p n r ks vs ws c = true ∧ okV ws = true))
def encN (k : Int) (n3 : Nat) : Nat := if k = 1 then 1 else 1 + (n3 + 8)
def encL (k r : Int) (ws : List Int) (c : Bool) : List Int := if k = 1 then [r] else encB ws c
theorem enc_pure {k p n r : Int} {n1 : Nat} {ks : List Int} {n2 : Nat} {vs : List Int} {n3 : Nat} {ws : List Int} {c : Bool} (h : EncOk k p n r n1 ks n2 vs n3 ws c) : Pure Tryd.prog glR 14 [.agg [.v (.int .i64 k), .v (.int .i64 p), .v (.int .i64 n)], ST r n1 ks n2 vs n3 ws c] (.tup [.ow 0 1 (encN k n3), .v (.int .i64 0)]) [(0, .fl [.u64] (encL k r ws c))] := by
  obtain ⟨h1, h2, h3, ur, ⟨rfl, hf, hr⟩ | ⟨rfl, hf, hr, ho⟩⟩ := h
  · exact enc1_pure _ _ _ _ _ _ _ _ _ _ hf h1 h2 ur hr
  · exact enc5_pure _ _ _ _ _ _ _ _ _ _ hf h1 h2 h3 ur hr ho

def eEnc10 : Entry := ⟨14, 3, fun l => match l.map fixS with | [.agg [.v (.int .i64 k), .v (.int .i64 p), .v (.int .i64 n)], .agg [.v (.int .u64 r), .fl [.u64] n1 ks, .fl [.u64] n2 vs, .fl [.i64] n3 ws, .v (.bool c)]] => some (some (EncOk k p n r n1 ks n2 vs n3 ws c), .tup [.ow 0 1 (encN k n3), .v (.int .i64 0)], [(0, .fl [.u64] (encL k r ws c))]) | _ => none⟩
theorem eEnc10_ok : eEnc10.ok Tryd.prog glR := ⟨enters_of Tryd.func14 (by kernel_rfl) (by kernel_rfl), by
  intro args c t bs h hc
  simp only [eEnc10] at h
  split at h <;> cases h
  rename_i heq
  replace hc := hc _ rfl
  refine pure_fixS ?_
  rw [heq]
  exact enc_pure hc⟩

end Go.Proofs.YtlcpcgdecodjfaaDoor
namespace Go.Proofs.YtlcpcgdecodjfaaDoor
open Go.RowKit Go.Proofs.YtlcpcgdecodjfaaDoor.Am
set_option linter.unusedVariables false
set_option linter.unusedSimpArgs false

attribute [local irreducible] fitsB right1 right5
theorem right1_fits {p n r : Int} {ks vs ws : List Int} {c : Bool} (h : right1 p n r ks vs ws c = true) : fitsB 1 p n = true ∧ iCanon r = r ∧ ks = [] ∧ vs = [] ∧ ws = [] ∧ c = false := by
  unfold right1 at h
  simp only [Bool.and_eq_true, decide_eq_true_eq, Bool.not_eq_true'] at h
  obtain ⟨h1, h2, h3, h4, h5⟩ := h
  exact ⟨h1, h5, List.eq_nil_of_length_eq_zero (by omega), List.eq_nil_of_length_eq_zero (by omega), List.eq_nil_of_length_eq_zero h3, h4⟩
theorem right5_fits {p n r : Int} {ks vs ws : List Int} {c : Bool} (h : right5 p n r ks vs ws c = true) : fitsB 5 p n = true ∧ r = 0 ∧ ks = [] ∧ vs = [] ∧ (ws.length : Int) = n ∧ okV ws = true := by
  unfold right5 votesOk at h
  simp only [Bool.and_eq_true, decide_eq_true_eq, Bool.not_eq_true'] at h
  obtain ⟨h1, h2, h3, h4, h5⟩ := h
  exact ⟨h1, h2, List.eq_nil_of_length_eq_zero (by omega), List.eq_nil_of_length_eq_zero (by omega), h4, h5⟩
set_option maxRecDepth 100000 in
theorem encX1_pure (p n r : Int) (n1 : Nat) (ks : List Int) (n2 : Nat) (vs : List Int) (n3 : Nat) (ws : List Int) (c : Bool) (hf : fitsB 1 p n = true) (h1 : n1 ≤ 1000) (h2 : n2 ≤ 1000) (ur : U64 r) (hr : right1 p n r ks vs ws c = false) : Pure Tryd.prog glR 14 [.agg [.v (.int .i64 1), .v (.int .i64 p), .v (.int .i64 n)], ST r n1 ks n2 vs n3 ws c] (.tup [.ow 0 1 0, .v (.int .i64 1)]) [(0, .fl [.u64] [])] := by
  have hk : rightK 1 p n r ks vs ws c = false := hr
  refine pure_of (C := ctxPlR10 Tryd.prog) ctxPlR10_good Tryd.func14 (c := bodyOf Tryd.f14) (by rfl) (Nat.le_of_ble_eq_true (by rfl)) 4 0 [0, 1, 2, 3, 4, 5, 6, 7, 10, 14, 21, 22, 27, 35, 43] ?_
  conv => whnf
  repeat' (first | (refine ifB_t (by assumption) ?_; conv => whnf) | (refine ifB_f (by assumption) ?_; conv => whnf) | (refine ifB_dec (fun h => ?_) (fun h => ?_) <;> (first | (exfalso; omega) | (conv => whnf))) | (refine ifB_eq (fun h => ?_) (fun h => ?_) <;> (first | (exfalso; omega) | (conv => whnf))) | (refine ifB_ne (fun h => ?_) (fun h => ?_) <;> (first | (exfalso; omega) | (conv => whnf))) | (refine ifB_not ?_; conv => whnf) | (refine ifB_and ?_; conv => whnf) | (refine ifB_or ?_; conv => whnf) | (refine And.intro ?_ ?_; (first | omega | assumption | (exact allU_getD (by assumption) _) | (simp only [cutL]; omega) | (refine And.intro ?_ ?_ <;> first | assumption | exact allU_getD (by assumption) _) | (simp only [cutL, IntKind.wrap_u64, IntKind.wrap_i64] at *; omega) | decide); conv => whnf) | (refine ifB_mk (fun h => ?_) (fun h => ?_) <;> (conv => whnf)))
  refine And.intro ⟨.inl rfl, ur, h1, h2⟩ ?_
  conv => whnf
  repeat' (first | (refine ifB_t (by assumption) ?_; conv => whnf) | (refine ifB_f (by assumption) ?_; conv => whnf) | (refine ifB_dec (fun h => ?_) (fun h => ?_) <;> (first | (exfalso; omega) | (conv => whnf))) | (refine ifB_eq (fun h => ?_) (fun h => ?_) <;> (first | (exfalso; omega) | (conv => whnf))) | (refine ifB_ne (fun h => ?_) (fun h => ?_) <;> (first | (exfalso; omega) | (conv => whnf))) | (refine ifB_not ?_; conv => whnf) | (refine ifB_and ?_; conv => whnf) | (refine ifB_or ?_; conv => whnf) | (refine And.intro ?_ ?_; (first | omega | assumption | (exact allU_getD (by assumption) _) | (simp only [cutL]; omega) | (refine And.intro ?_ ?_ <;> first | assumption | exact allU_getD (by assumption) _) | (simp only [cutL, IntKind.wrap_u64, IntKind.wrap_i64] at *; omega) | decide); conv => whnf) | (refine ifB_mk (fun h => ?_) (fun h => ?_) <;> (conv => whnf)))
  repeat' (first | exact trivial | exact rfl | (refine And.intro ?_ ?_) | ((conv => whnf); done) | ((conv => whnf); (first | rfl | (refine congrArg (fun b => T.v (Value.bool b)) ?_; first | rfl | exact (decide_eq_true (by omega)).symm | exact (decide_eq_false (by omega)).symm | exact decide_eq_decide.2 (by omega)) | (refine congrArg (fun b => T.v (Value.int _ b)) ?_; first | rfl | omega) | omega)) | (first | rfl | (refine congrArg (fun b => T.v (Value.bool b)) ?_; first | rfl | exact (decide_eq_true (by omega)).symm | exact (decide_eq_false (by omega)).symm | exact decide_eq_decide.2 (by omega)) | (refine congrArg (fun b => T.v (Value.int _ b)) ?_; first | rfl | omega) | omega))
set_option maxRecDepth 100000 in
theorem encX5_pure (p n r : Int) (n1 : Nat) (ks : List Int) (n2 : Nat) (vs : List Int) (n3 : Nat) (ws : List Int) (c : Bool) (hf : fitsB 5 p n = true) (h1 : n1 ≤ 1000) (h2 : n2 ≤ 1000) (ur : U64 r) (hr : right5 p n r ks vs ws c = false) : Pure Tryd.prog glR 14 [.agg [.v (.int .i64 5), .v (.int .i64 p), .v (.int .i64 n)], ST r n1 ks n2 vs n3 ws c] (.tup [.ow 0 1 0, .v (.int .i64 1)]) [(0, .fl [.u64] [])] := by
  have hk : rightK 5 p n r ks vs ws c = false := hr
  refine pure_of (C := ctxPlR10 Tryd.prog) ctxPlR10_good Tryd.func14 (c := bodyOf Tryd.f14) (by rfl) (Nat.le_of_ble_eq_true (by rfl)) 4 0 [0, 1, 2, 3, 4, 5, 6, 7, 10, 14, 21, 22, 27, 35, 43] ?_
  conv => whnf
  repeat' (first | (refine ifB_t (by assumption) ?_; conv => whnf) | (refine ifB_f (by assumption) ?_; conv => whnf) | (refine ifB_dec (fun h => ?_) (fun h => ?_) <;> (first | (exfalso; omega) | (conv => whnf))) | (refine ifB_eq (fun h => ?_) (fun h => ?_) <;> (first | (exfalso; omega) | (conv => whnf))) | (refine ifB_ne (fun h => ?_) (fun h => ?_) <;> (first | (exfalso; omega) | (conv => whnf))) | (refine ifB_not ?_; conv => whnf) | (refine ifB_and ?_; conv => whnf) | (refine ifB_or ?_; conv => whnf) | (refine And.intro ?_ ?_; (first | omega | assumption | (exact allU_getD (by assumption) _) | (simp only [cutL]; omega) | (refine And.intro ?_ ?_ <;> first | assumption | exact allU_getD (by assumption) _) | (simp only [cutL, IntKind.wrap_u64, IntKind.wrap_i64] at *; omega) | decide); conv => whnf) | (refine ifB_mk (fun h => ?_) (fun h => ?_) <;> (conv => whnf)))
  refine And.intro ⟨.inr rfl, ur, h1, h2⟩ ?_
  conv => whnf
  repeat' (first | (refine ifB_t (by assumption) ?_; conv => whnf) | (refine ifB_f (by assumption) ?_; conv => whnf) | (refine ifB_dec (fun h => ?_) (fun h => ?_) <;> (first | (exfalso; omega) | (conv => whnf))) | (refine ifB_eq (fun h => ?_) (fun h => ?_) <;> (first | (exfalso; omega) | (conv => whnf))) | (refine ifB_ne (fun h => ?_) (fun h => ?_) <;> (first | (exfalso; omega) | (conv => whnf))) | (refine ifB_not ?_; conv => whnf) | (refine ifB_and ?_; conv => whnf) | (refine ifB_or ?_; conv => whnf) | (refine And.intro ?_ ?_; (first | omega | assumption | (exact allU_getD (by assumption) _) | (simp only [cutL]; omega) | (refine And.intro ?_ ?_ <;> first | assumption | exact allU_getD (by assumption) _) | (simp only [cutL, IntKind.wrap_u64, IntKind.wrap_i64] at *; omega) | decide); conv => whnf) | (refine ifB_mk (fun h => ?_) (fun h => ?_) <;> (conv => whnf)))
  repeat' (first | exact trivial | exact rfl | (refine And.intro ?_ ?_) | ((conv => whnf); done) | ((conv => whnf); (first | rfl | (refine congrArg (fun b => T.v (Value.bool b)) ?_; first | rfl | exact (decide_eq_true (by omega)).symm | exact (decide_eq_false (by omega)).symm | exact decide_eq_decide.2 (by omega)) | (refine congrArg (fun b => T.v (Value.int _ b)) ?_; first | rfl | omega) | omega)) | (first | rfl | (refine congrArg (fun b => T.v (Value.bool b)) ?_; first | rfl | exact (decide_eq_true (by omega)).symm | exact (decide_eq_false (by omega)).symm | exact decide_eq_decide.2 (by omega)) | (refine congrArg (fun b => T.v (Value.int _ b)) ?_; first | rfl | omega) | omega))
/-- What Enc tells: how many words, the words, the error. -/
def encR (k p n r : Int) (ks vs ws : List Int) (c : Bool) (n3 : Nat) : Nat × List Int × Int := if rightK k p n r ks vs ws c = true then (encN k n3, encL k r ws c, 0) else (0, [], 1)
def EncOkA (k p n r : Int) (n1 n2 n3 : Nat) : Prop := n1 ≤ 1000 ∧ n2 ≤ 1000 ∧ n3 ≤ 1000 ∧ U64 r ∧ (k = 1 ∨ k = 5) ∧ fitsB k p n = true
theorem encA_pure {k p n r : Int} {n1 : Nat} {ks : List Int} {n2 : Nat} {vs : List Int} {n3 : Nat} {ws : List Int} {c : Bool} (h : EncOkA k p n r n1 n2 n3) : Pure Tryd.prog glR 14 [.agg [.v (.int .i64 k), .v (.int .i64 p), .v (.int .i64 n)], ST r n1 ks n2 vs n3 ws c] (.tup [.ow 0 1 (encR k p n r ks vs ws c n3).1, .v (.int .i64 (encR k p n r ks vs ws c n3).2.2)]) [(0, .fl [.u64] (encR k p n r ks vs ws c n3).2.1)] := by
  obtain ⟨h1, h2, h3, ur, hk, hf⟩ := h
  cases hr : rightK k p n r ks vs ws c
  · rw [show encR k p n r ks vs ws c n3 = (0, [], 1) from if_neg (by rw [hr]; exact Bool.false_ne_true)]
    rcases hk with rfl | rfl
    · exact encX1_pure _ _ _ _ _ _ _ _ _ _ hf h1 h2 ur hr
    · exact encX5_pure _ _ _ _ _ _ _ _ _ _ hf h1 h2 ur hr
  · rw [show encR k p n r ks vs ws c n3 = (encN k n3, encL k r ws c, 0) from if_pos hr]
    rcases hk with rfl | rfl
    · exact enc1_pure _ _ _ _ _ _ _ _ _ _ hf h1 h2 ur hr
    · exact enc5_pure _ _ _ _ _ _ _ _ _ _ hf h1 h2 h3 ur hr (right5_fits hr).2.2.2.2.2

def eEncA : Entry := ⟨14, 3, fun l => match l.map fixS with | [.agg [.v (.int .i64 k), .v (.int .i64 p), .v (.int .i64 n)], .agg [.v (.int .u64 r), .fl [.u64] n1 ks, .fl [.u64] n2 vs, .fl [.i64] n3 ws, .v (.bool c)]] => some (some (EncOkA k p n r n1 n2 n3), .tup [.ow 0 1 (encR k p n r ks vs ws c n3).1, .v (.int .i64 (encR k p n r ks vs ws c n3).2.2)], [(0, .fl [.u64] (encR k p n r ks vs ws c n3).2.1)]) | _ => none⟩
theorem eEncA_ok : eEncA.ok Tryd.prog glR := ⟨enters_of Tryd.func14 (by kernel_rfl) (by kernel_rfl), by
  intro args c t bs h hc
  simp only [eEncA] at h
  split at h <;> cases h
  rename_i heq
  replace hc := hc _ rfl
  refine pure_fixS ?_
  rw [heq]
  exact encA_pure hc⟩

end Go.Proofs.YtlcpcgdecodjfaaDoor
namespace Go.Proofs.YtlcpcgdecodjfaaDoor
open Go.RowKit Go.Proofs.YtlcpcgdecodjfaaDoor.Am
set_option linter.unusedVariables false
set_option linter.unusedSimpArgs false

theorem encB_len (ws : List Int) (c : Bool) : (encB ws c).length = ws.length + 9 := by simp [encB, tally9]
theorem tally_getD (ws : List Int) {q : Nat} (h : q < 8) : ((tally9 ws).drop 1).getD q 0 = cnt ws ((q + 1 : Nat) : Int) := by
  have : q = 0 ∨ q = 1 ∨ q = 2 ∨ q = 3 ∨ q = 4 ∨ q = 5 ∨ q = 6 ∨ q = 7 := by omega
  rcases this with rfl | rfl | rfl | rfl | rfl | rfl | rfl | rfl <;> rfl
theorem encB_zero (ws : List Int) (c : Bool) : (encB ws c).getD 0 0 = bitI c := rfl
theorem encB_vote (ws : List Int) (c : Bool) {q : Nat} (h : q < ws.length) : (encB ws c).getD (1 + q) 0 = ws.getD q 0 := by
  rw [Nat.add_comm]; unfold encB
  simp [List.getD, List.getElem?_append, h]
theorem encB_told (ws : List Int) (c : Bool) {q : Nat} (h1 : 1 ≤ q) (h8 : q ≤ 8) : (encB ws c).getD (ws.length + q) 0 = cnt ws q := by
  have e : ws.length + q = (ws.length + (q - 1)) + 1 := by omega
  have := tally_getD ws (q := q - 1) (by omega)
  rw [show ((q - 1 + 1 : Nat) : Int) = (q : Int) by omega] at this
  rw [← this, e]; unfold encB
  have h0 : ¬ ws.length + (q - 1) < ws.length := by omega
  simp [List.getD, List.getElem?_append, h0]
theorem encB_cast {n : Nat} {ws : List Int} (h : ws.length = n) : encB ws false = castW n ws := by
  refine getD_ext (by rw [encB_len, castW_len, h]) fun q hq => ?_
  rw [encB_len, h] at hq
  rw [castW_getD n _ hq]
  by_cases q0 : q = 0
  · subst q0; rw [if_pos rfl]; rfl
  · rw [if_neg q0]
    by_cases q1 : q ≤ n
    · rw [if_pos q1]
      have := encB_vote ws false (q := q - 1) (by omega)
      rw [show 1 + (q - 1) = q by omega] at this
      exact this
    · rw [if_neg q1]
      have := encB_told ws false (q := q - n) (by omega) (by omega)
      rw [show ws.length + (q - n) = q by omega] at this
      exact this
theorem encB_set0 (ws : List Int) (c d : Bool) : (encB ws c).set 0 (bitI d) = encB ws d := rfl
theorem encB_votesW {n : Nat} {ws : List Int} (c : Bool) (h : ws.length = n) : votesW n (encB ws c) = ws := by
  rw [← encB_set0 ws false c, votesW_set0, encB_cast h, castW_votes h]
theorem encB_toldW {n : Nat} {ws : List Int} (c : Bool) (h : ws.length = n) : toldW n (encB ws c) = (tally9 ws).drop 1 := by
  rw [← encB_set0 ws false c, toldW_set0, encB_cast h, castW_told h]
theorem rightB_enc {n : Nat} {ws : List Int} (c : Bool) (h : ws.length = n) (ho : okV ws = true) : rightB n (encB ws c) = true := by
  unfold rightB
  rw [encB_votesW c h, encB_toldW c h, okV_le ho, encB_zero]
  cases c <;> simp [bitI]
/-- Words that are right are those of a state. -/
theorem enc_of_right {n : Nat} {w : List Int} (hl : w.length = n + 9) (hu : AllU w) (hr : rightB n w = true) : encB (votesW n w) (decide (w.getD 0 0 = 1)) = w := by
  unfold rightB at hr
  simp only [Bool.and_eq_true, decide_eq_true_eq] at hr
  obtain ⟨h1, h2, h3⟩ := hr
  match w, hl with
  | x :: r, hl =>
    have hx := hu x (List.mem_cons_self ..)
    have h2 : x ≤ 1 := h2
    have e1 : bitI (decide ((x :: r).getD 0 0 = 1)) = x := by
      show bitI (decide (x = 1)) = x
      by_cases h : x = 1
      · subst h; rfl
      · rw [decide_eq_false h]; have := hx.1; show 0 = x; omega
    unfold encB
    rw [e1, h3]
    unfold votesW toldW
    rw [Nat.add_comm 1 n, List.drop_succ_cons, List.drop_succ_cons, List.drop_zero, List.take_append_drop]
theorem okV_right {n : Nat} {w : List Int} (hu : AllU w) (hr : rightB n w = true) : okV (votesW n w) = true := by
  unfold rightB at hr
  simp only [Bool.and_eq_true, decide_eq_true_eq] at hr
  have h1 := hr.1
  unfold allLe at h1
  unfold okV
  rw [List.all_eq_true] at h1 ⊢
  intro x hx
  have := h1 x hx
  have h0 := (hu x (List.mem_of_mem_drop (List.mem_of_mem_take hx))).1
  simp at this ⊢
  omega
theorem votesW_len {n : Nat} {w : List Int} (hl : w.length = n + 9) : (votesW n w).length = n := by simp [votesW]; omega
/-- What a call makes of a ballot's words are the words of what it makes of its state. -/
theorem balDo_enc {n : Nat} {ws : List Int} {c : Bool} {code key v : Int} (hn : n ≤ 1000) (h : ws.length = n) (hk : U64 key) (hv : U64 v) :
    balDo n (encB ws c) code key v = (encB (balR ws c code key v).1 (balR ws c code key v).2.1, (balR ws c code key v).2.2.1, (balR ws c code key v).2.2.2) := by
  have k0 := hk.1
  have v0 := hv.1
  subst h
  unfold balDo balR
  rw [encB_zero]
  by_cases h12 : code = 12
  · rw [if_pos h12, if_pos h12]
    by_cases hkv : key < ws.length ∧ 1 ≤ v ∧ v ≤ 8
    · rw [if_pos hkv, if_pos hkv]
      cases c
      · rw [if_neg (show ¬ bitI false = 1 from by decide), if_neg Bool.false_ne_true, encB_vote ws false (by omega)]
        by_cases h0 : ws.getD key.toNat 0 = 0
        · rw [if_pos h0, if_pos h0]
          have := castW_set (n := ws.length) (vs := ws) (k := key.toNat) (v := v) hn rfl (by omega) h0 hkv.2.1 hkv.2.2
          rw [encB_cast rfl, encB_cast (n := ws.length) (by simp), ← this]
        · rw [if_neg h0, if_neg h0]
      · rw [if_pos (show bitI true = 1 from rfl), if_pos rfl]
    · rw [if_neg hkv, if_neg hkv]
  rw [if_neg h12, if_neg h12]
  by_cases h13 : code = 13
  · rw [if_pos h13, if_pos h13]
    cases c <;> rfl
  rw [if_neg h13, if_neg h13]
  by_cases h14 : code = 14
  · rw [if_pos h14, if_pos h14]
    by_cases hkk : 1 ≤ key ∧ key ≤ 8
    · rw [if_pos hkk, if_pos hkk, encB_told ws c (by omega) (by omega), show ((key.toNat : Nat) : Int) = key by omega]
    · rw [if_neg hkk, if_neg hkk]
  rw [if_neg h14, if_neg h14]
  by_cases h15 : code = 15
  · rw [if_pos h15, if_pos h15]
    by_cases hkk : key < ws.length
    · rw [if_pos hkk, if_pos hkk, encB_vote ws c (by omega)]
    · rw [if_neg hkk, if_neg hkk]
  rw [if_neg h15, if_neg h15]
  by_cases h16 : code = 16
  · rw [if_pos h16, if_pos h16]
  · rw [if_neg h16, if_neg h16]
theorem balR_ok {ws : List Int} {c : Bool} {code key v : Int} (ho : okV ws = true) (hk : U64 key) : okV (balR ws c code key v).1 = true ∧ (balR ws c code key v).1.length = ws.length := by
  unfold balR
  repeat' split
  all_goals first | exact ⟨ho, rfl⟩ | skip
  rename_i h _ _
  exact ⟨okV_set ho ⟨by omega, h.2.2⟩, by simp⟩
theorem regDo_ok {r code v : Int} (ur : U64 r) (uv : U64 v) (hc : iCanon r = r) : ∃ x, (regDo r code v).1 = [x] ∧ U64 x ∧ iCanon x = x := by
  unfold regDo
  repeat' split
  · exact ⟨_, rfl, ur, hc⟩
  · exact ⟨_, rfl, u64_canon uv, p_canon2 _⟩
  · refine ⟨_, rfl, u64_top ur uv, ?_⟩
    rcases p_top_one (a := r) (b := v) with h | h <;> rw [h] <;> exact p_canon2 _
  · exact ⟨_, rfl, u64_sum ur uv, p_sum_canon ur uv⟩
  · exact ⟨_, rfl, ur, hc⟩
/-- What Dec makes of words: a state's word, votes, whether it is closed, the error. -/
def decR (k n : Int) (w : List Int) : Int × List Int × Bool × Int :=
  if (w.length : Int) = homeI k n then
    if k = 1 then if iCanon (w.getD 0 0) = w.getD 0 0 then (w.getD 0 0, [], false, 0) else (0, [], false, 2)
    else if rightB n.toNat w = true then (0, votesW n.toNat w, decide (w.getD 0 0 = 1), 0) else (0, [], false, 2)
  else (0, [], false, 2)
end Go.Proofs.YtlcpcgdecodjfaaDoor
namespace Go.Proofs.YtlcpcgdecodjfaaDoor
open Go.RowKit Go.Proofs.YtlcpcgdecodjfaaDoor.Am
set_option linter.unusedVariables false
set_option linter.unusedSimpArgs false

theorem ipick_tmod {c n : Int} (h : ¬ c < 0) : c.tmod n = ipick c n := by
  unfold ipick; rw [if_neg h, Int.tmod_eq_emod_of_nonneg (by omega)]
theorem ipick_tmodn {c n : Int} (h : c < 0) : (-(c + 1)).tmod n = ipick c n := by
  unfold ipick; rw [if_pos h, Int.tmod_eq_emod_of_nonneg (by omega)]
/-- Of a raw number, a word. -/
def wordL (w : Int) : List Int := [0, 9223372036854775808, 9221120237041090561, 9221120237041090566, 18446744073709551615, 9218868437227405312, 18442240474082181120, 4607182418800017408, 13830554455654793216, 4609434218613702656, 1, 9223372036854775809, 9218868437227405311, w]
def wordS (n w : Int) : Int := (wordL w).getD (ipick n 14).toNat 0
def keyS (k n w : Int) : Int := if ipick n 14 = 13 then w else if ipick n 14 = 12 ∧ k ≠ 5 then 4611686018427387904 else ipick n 14
def codeL (k : Int) : List Int := if k = 1 then [1, 2, 3, 4, 4] else [12, 12, 12, 14, 15, 16, 13]
def codeS (k n : Int) : Int := if k = 1 then (if ipick n 16 = 15 then ipick n 260 else (codeL 1).getD (ipick n 16 % 5).toNat 0) else (if ipick n 22 = 21 then ipick n 260 else (codeL 5).getD (ipick n 22 % 7).toNat 0)
def opV (k a c w : Int) : Int := if k = 5 ∨ codeS k a = 8 then ipick c 10 else wordS c w
theorem u64_wordS {n w : Int} (hw : U64 w) : U64 (wordS n w) := by
  unfold wordS
  obtain ⟨b1, b2⟩ := ipick_bounds n (n := 14) (by omega)
  have : AllU (wordL w) := by
    intro x hx
    simp only [wordL, List.mem_cons, List.not_mem_nil, or_false] at hx
    rcases hx with rfl | rfl | rfl | rfl | rfl | rfl | rfl | rfl | rfl | rfl | rfl | rfl | rfl | rfl <;> first | exact hw | exact ⟨by omega, by omega⟩
  exact allU_getD this _
theorem u64_ipick (c : Int) {n : Int} (h : 0 < n) (h2 : n ≤ 4096) : U64 (ipick c n) := by
  obtain ⟨b1, b2⟩ := ipick_bounds c h
  exact ⟨b1, by omega⟩
theorem u64_keyS {k n w : Int} (hw : U64 w) : U64 (keyS k n w) := by
  unfold keyS
  repeat' split
  · exact hw
  · exact ⟨by omega, by omega⟩
  · exact u64_ipick _ (by omega) (by omega)
theorem u64_opV {k a c w : Int} (hw : U64 w) : U64 (opV k a c w) := by
  unfold opV
  split
  · exact u64_ipick _ (by omega) (by omega)
  · exact u64_wordS hw
noncomputable def ctxPlV (P : Program) : Ctx := ctx P glR [ePick09] [] (noEq P) [] (fun _ h => by cases h)
theorem ctxPlV_good : (ctxPlV Tryd.prog).good := ctx_good (by kernel_rfl) (AllOk.mem ⟨ePick09_ok, trivial⟩) glR_two
set_option maxRecDepth 100000 in
theorem word09_pure (n w : Int) (hn : I64 n) : Pure Tryd.prog glR 56 [.v (.int .i64 n), .v (.int .u64 w)] (.v (.int .u64 (wordS n w))) := by
  obtain ⟨b1, b2⟩ := ipick_bounds n (n := 14) (by omega)
  refine pure_of (C := ctxPlV Tryd.prog) ctxPlV_good Tryd.func56 (c := bodyOf Tryd.f56) (by rfl) (Nat.le_of_ble_eq_true (by rfl)) 4 0 [0, 1, 4, 5] ?_
  conv => whnf
  refine And.intro ⟨hn, by omega, by omega⟩ ?_
  conv => whnf
  repeat' (first | (refine ifB_t (by assumption) ?_; conv => whnf) | (refine ifB_f (by assumption) ?_; conv => whnf) | (refine ifB_dec (fun h => ?_) (fun h => ?_) <;> (first | (exfalso; omega) | (conv => whnf))) | (refine ifB_eq (fun h => ?_) (fun h => ?_) <;> (first | (exfalso; omega) | (conv => whnf))) | (refine ifB_ne (fun h => ?_) (fun h => ?_) <;> (first | (exfalso; omega) | (conv => whnf))) | (refine ifB_not ?_; conv => whnf) | (refine ifB_and ?_; conv => whnf) | (refine ifB_or ?_; conv => whnf) | (refine And.intro ?_ ?_; (first | omega | assumption | (exact allU_getD (by assumption) _) | (simp only [cutL]; omega) | (refine And.intro ?_ ?_ <;> first | assumption | exact allU_getD (by assumption) _) | (simp only [cutL, IntKind.wrap_u64, IntKind.wrap_i64] at *; omega) | decide); conv => whnf) | (refine ifB_mk (fun h => ?_) (fun h => ?_) <;> (conv => whnf)))
  have e : 0 + addN 0 (ipick n ((14 : Nat) : Int)).toNat * (0 + 1) = (ipick n 14).toNat := by simp [addN_eq]
  rw [e]
  repeat' (first | exact trivial | exact rfl | (refine And.intro ?_ ?_) | ((conv => whnf); done) | ((conv => whnf); (first | rfl | (refine congrArg (fun b => T.v (Value.bool b)) ?_; first | rfl | exact (decide_eq_true (by omega)).symm | exact (decide_eq_false (by omega)).symm | exact decide_eq_decide.2 (by omega)) | (refine congrArg (fun b => T.v (Value.int _ b)) ?_; first | rfl | omega) | omega)) | (first | rfl | (refine congrArg (fun b => T.v (Value.bool b)) ?_; first | rfl | exact (decide_eq_true (by omega)).symm | exact (decide_eq_false (by omega)).symm | exact decide_eq_decide.2 (by omega)) | (refine congrArg (fun b => T.v (Value.int _ b)) ?_; first | rfl | omega) | omega))
def eWord09 : Entry := ⟨56, 3, fun l => match l with | [.v (.int .i64 n), .v (.int .u64 w)] => some (some (I64 n), .v (.int .u64 (wordS n w)), []) | _ => none⟩
theorem eWord09_ok : eWord09.ok Tryd.prog glR := ⟨enters_of Tryd.func56 (by kernel_rfl) (by kernel_rfl), by
  intro args c t bs h hc
  simp only [eWord09] at h
  split at h <;> cases h
  replace hc := hc _ rfl
  exact word09_pure _ _ hc⟩
set_option maxRecDepth 100000 in
theorem key09_pure (k p n m w : Int) (hk : k = 1 ∨ k = 5) (hn : I64 m) : Pure Tryd.prog glR 55 [.agg [.v (.int .i64 k), .v (.int .i64 p), .v (.int .i64 n)], .v (.int .i64 m), .v (.int .u64 w)] (.v (.int .u64 (keyS k m w))) := by
  obtain ⟨b1, b2⟩ := ipick_bounds m (n := 14) (by omega)
  have hw : IntKind.u64.wrap (ipick m 14) = ipick m 14 := wrapU (by omega) (by omega)
  refine pure_of (C := ctxPlV Tryd.prog) ctxPlV_good Tryd.func55 (c := bodyOf Tryd.f55) (by rfl) (Nat.le_of_ble_eq_true (by rfl)) 4 0 [0, 1, 2, 3, 6, 7, 10, 17, 25] ?_
  conv => whnf
  repeat' (first | (refine ifB_t (by assumption) ?_; conv => whnf) | (refine ifB_f (by assumption) ?_; conv => whnf) | (refine ifB_dec (fun h => ?_) (fun h => ?_) <;> (first | (exfalso; omega) | (conv => whnf))) | (refine ifB_eq (fun h => ?_) (fun h => ?_) <;> (first | (exfalso; omega) | (conv => whnf))) | (refine ifB_ne (fun h => ?_) (fun h => ?_) <;> (first | (exfalso; omega) | (conv => whnf))) | (refine ifB_not ?_; conv => whnf) | (refine ifB_and ?_; conv => whnf) | (refine ifB_or ?_; conv => whnf) | (refine And.intro ?_ ?_; (first | omega | assumption | (exact allU_getD (by assumption) _) | (simp only [cutL]; omega) | (refine And.intro ?_ ?_ <;> first | assumption | exact allU_getD (by assumption) _) | (simp only [cutL, IntKind.wrap_u64, IntKind.wrap_i64] at *; omega) | decide); conv => whnf) | (refine ifB_mk (fun h => ?_) (fun h => ?_) <;> (conv => whnf)))
  refine And.intro ⟨hn, by omega, by omega⟩ ?_
  conv => whnf
  repeat' (first | (refine ifB_t (by assumption) ?_; conv => whnf) | (refine ifB_f (by assumption) ?_; conv => whnf) | (refine ifB_dec (fun h => ?_) (fun h => ?_) <;> (first | (exfalso; omega) | (conv => whnf))) | (refine ifB_eq (fun h => ?_) (fun h => ?_) <;> (first | (exfalso; omega) | (conv => whnf))) | (refine ifB_ne (fun h => ?_) (fun h => ?_) <;> (first | (exfalso; omega) | (conv => whnf))) | (refine ifB_not ?_; conv => whnf) | (refine ifB_and ?_; conv => whnf) | (refine ifB_or ?_; conv => whnf) | (refine And.intro ?_ ?_; (first | omega | assumption | (exact allU_getD (by assumption) _) | (simp only [cutL]; omega) | (refine And.intro ?_ ?_ <;> first | assumption | exact allU_getD (by assumption) _) | (simp only [cutL, IntKind.wrap_u64, IntKind.wrap_i64] at *; omega) | decide); conv => whnf) | (refine ifB_mk (fun h => ?_) (fun h => ?_) <;> (conv => whnf)))
  all_goals (refine congrArg (fun x => T.v (Value.int _ x)) ?_; unfold keyS; first | (simp [*]; done) | (simp [*]; rfl))
def eKey09 : Entry := ⟨55, 3, fun l => match l with | [.agg [.v (.int .i64 k), .v (.int .i64 p), .v (.int .i64 n)], .v (.int .i64 m), .v (.int .u64 w)] => some (some ((k = 1 ∨ k = 5) ∧ I64 m), .v (.int .u64 (keyS k m w)), []) | _ => none⟩
theorem eKey09_ok : eKey09.ok Tryd.prog glR := ⟨enters_of Tryd.func55 (by kernel_rfl) (by kernel_rfl), by
  intro args c t bs h hc
  simp only [eKey09] at h
  split at h <;> cases h
  replace hc := hc _ rfl
  exact key09_pure _ _ _ _ _ hc.1 hc.2⟩
set_option maxRecDepth 100000 in
theorem code1_pure (p n m : Int) (hn : I64 m) : Pure Tryd.prog glR 54 [.agg [.v (.int .i64 1), .v (.int .i64 p), .v (.int .i64 n)], .v (.int .i64 m)] (.v (.int .i64 (codeS 1 m))) := by
  obtain ⟨b1, b2⟩ := ipick_bounds m (n := 16) (by omega)
  have e1 : IntKind.i64.wrap (3 * ((5 : Nat) : Int)) = 15 := by rfl
  have e2 : IntKind.i64.wrap (15 + 1) = 16 := by rfl
  have et : (ipick m 16).tmod ((5 : Nat) : Int) = ipick m 16 % 5 := Int.tmod_eq_emod_of_nonneg b1
  refine pure_of (C := ctxPlV Tryd.prog) ctxPlV_good Tryd.func54 (c := bodyOf Tryd.f54) (by rfl) (Nat.le_of_ble_eq_true (by rfl)) 4 0 [0, 1, 2, 4, 5, 6, 9, 10, 13, 17, 30] ?_
  conv => whnf
  rw [e1, e2]
  refine And.intro ⟨hn, by omega, by omega⟩ ?_
  conv => whnf
  rw [e1]
  refine ifB_eq (fun h => ?_) (fun h => ?_)
  · conv => whnf
    refine And.intro ⟨hn, by omega, by omega⟩ ?_
    conv => whnf
    refine congrArg (fun x => T.v (Value.int _ x)) ?_
    unfold codeS
    simp [h]
  · conv => whnf
    refine And.intro (by omega) ?_
    conv => whnf
    rw [et]
    refine And.intro ⟨by omega, by omega⟩ ?_
    conv => whnf
    have e : 0 + addN 0 (ipick m 16 % 5).toNat * (0 + 1) = (ipick m 16 % 5).toNat := by simp [addN_eq]
    rw [e]
    refine congrArg (fun x => T.v (Value.int _ x)) ?_
    unfold codeS
    simp [h, codeL]
set_option maxRecDepth 100000 in
theorem code5_pure (p n m : Int) (hn : I64 m) : Pure Tryd.prog glR 54 [.agg [.v (.int .i64 5), .v (.int .i64 p), .v (.int .i64 n)], .v (.int .i64 m)] (.v (.int .i64 (codeS 5 m))) := by
  obtain ⟨b1, b2⟩ := ipick_bounds m (n := 22) (by omega)
  have e1 : IntKind.i64.wrap (3 * ((7 : Nat) : Int)) = 21 := by rfl
  have e2 : IntKind.i64.wrap (21 + 1) = 22 := by rfl
  have et : (ipick m 22).tmod ((7 : Nat) : Int) = ipick m 22 % 7 := Int.tmod_eq_emod_of_nonneg b1
  refine pure_of (C := ctxPlV Tryd.prog) ctxPlV_good Tryd.func54 (c := bodyOf Tryd.f54) (by rfl) (Nat.le_of_ble_eq_true (by rfl)) 4 0 [0, 1, 2, 4, 5, 6, 9, 10, 13, 17, 30] ?_
  conv => whnf
  rw [e1, e2]
  refine And.intro ⟨hn, by omega, by omega⟩ ?_
  conv => whnf
  rw [e1]
  refine ifB_eq (fun h => ?_) (fun h => ?_)
  · conv => whnf
    refine And.intro ⟨hn, by omega, by omega⟩ ?_
    conv => whnf
    refine congrArg (fun x => T.v (Value.int _ x)) ?_
    unfold codeS
    simp [h]
  · conv => whnf
    refine And.intro (by omega) ?_
    conv => whnf
    rw [et]
    refine And.intro ⟨by omega, by omega⟩ ?_
    conv => whnf
    have e : 0 + addN 0 (ipick m 22 % 7).toNat * (0 + 1) = (ipick m 22 % 7).toNat := by simp [addN_eq]
    rw [e]
    refine congrArg (fun x => T.v (Value.int _ x)) ?_
    unfold codeS
    simp [h, codeL]
def eCode09 : Entry := ⟨54, 3, fun l => match l with | [.agg [.v (.int .i64 k), .v (.int .i64 p), .v (.int .i64 n)], .v (.int .i64 m)] => some (some ((k = 1 ∨ k = 5) ∧ I64 m), .v (.int .i64 (codeS k m)), []) | _ => none⟩
theorem eCode09_ok : eCode09.ok Tryd.prog glR := ⟨enters_of Tryd.func54 (by kernel_rfl) (by kernel_rfl), by
  intro args c t bs h hc
  simp only [eCode09] at h
  split at h <;> cases h
  replace hc := hc _ rfl
  exact (by obtain ⟨rfl | rfl, h⟩ := hc; exact code1_pure _ _ _ h; exact code5_pure _ _ _ h)⟩
noncomputable def ctxPlV2 (P : Program) : Ctx := ctx P glR [ePick09, eWord09, eKey09, eCode09] [] (noEq P) [] (fun _ h => by cases h)
theorem ctxPlV2_good : (ctxPlV2 Tryd.prog).good := ctx_good (by kernel_rfl) (AllOk.mem ⟨ePick09_ok, eWord09_ok, eKey09_ok, eCode09_ok, trivial⟩) glR_two
attribute [local irreducible] codeS keyS wordS
set_option maxRecDepth 100000 in
theorem op09_pure (k p n a b c w : Int) (hk : k = 1 ∨ k = 5) (ha : I64 a) (hb : I64 b) (hc : I64 c) : Pure Tryd.prog glR 23 [.agg [.v (.int .i64 k), .v (.int .i64 p), .v (.int .i64 n)], .agg [.v (.int .i64 a), .v (.int .i64 b), .v (.int .i64 c)], .v (.int .u64 w)] (.agg [.v (.int .i64 (codeS k a)), .v (.int .u64 (keyS k b w)), .v (.int .u64 (opV k a c w))]) := by
  have hc' : I64 ([a, b, c].getD 2 0) := hc
  obtain ⟨b1, b2⟩ := ipick_bounds c (n := 10) (by omega)
  have hw : IntKind.u64.wrap (ipick c 10) = ipick c 10 := wrapU (by omega) (by omega)
  refine pure_of (C := ctxPlV2 Tryd.prog) ctxPlV2_good Tryd.func23 (c := bodyOf Tryd.f23) (by rfl) (Nat.le_of_ble_eq_true (by rfl)) 4 0 [0, 1, 2, 3, 4, 6, 7, 29] ?_
  conv => whnf
  repeat' (first | (refine ifB_t (by assumption) ?_; conv => whnf) | (refine ifB_f (by assumption) ?_; conv => whnf) | (refine ifB_dec (fun h => ?_) (fun h => ?_) <;> (first | (exfalso; omega) | (conv => whnf))) | (refine ifB_eq (fun h => ?_) (fun h => ?_) <;> (first | (exfalso; omega) | (conv => whnf))) | (refine ifB_ne (fun h => ?_) (fun h => ?_) <;> (first | (exfalso; omega) | (conv => whnf))) | (refine ifB_not ?_; conv => whnf) | (refine ifB_and ?_; conv => whnf) | (refine ifB_or ?_; conv => whnf) | (refine And.intro ?_ ?_; (first | omega | assumption | (exact allU_getD (by assumption) _) | (simp only [cutL]; omega) | (refine And.intro ?_ ?_ <;> first | assumption | exact allU_getD (by assumption) _) | (simp only [cutL, IntKind.wrap_u64, IntKind.wrap_i64] at *; omega) | decide); conv => whnf) | (refine ifB_mk (fun h => ?_) (fun h => ?_) <;> (conv => whnf)))
  · refine And.intro (show I64 c ∧ (0 : Int) < 10 ∧ (10 : Int) ≤ 4096 from ⟨hc, by omega, by omega⟩) ?_
    conv => whnf
    rw [show opV k a c w = ipick c 10 from if_pos (.inl (by assumption))]
    repeat' (first | exact trivial | exact rfl | (refine And.intro ?_ ?_) | ((conv => whnf); done) | ((conv => whnf); (first | rfl | (refine congrArg (fun b => T.v (Value.bool b)) ?_; first | rfl | exact (decide_eq_true (by omega)).symm | exact (decide_eq_false (by omega)).symm | exact decide_eq_decide.2 (by omega)) | (refine congrArg (fun b => T.v (Value.int _ b)) ?_; first | rfl | omega) | omega)) | (first | rfl | (refine congrArg (fun b => T.v (Value.bool b)) ?_; first | rfl | exact (decide_eq_true (by omega)).symm | exact (decide_eq_false (by omega)).symm | exact decide_eq_decide.2 (by omega)) | (refine congrArg (fun b => T.v (Value.int _ b)) ?_; first | rfl | omega) | omega))
    exact congrArg (fun x => T.v (Value.int _ x)) hw
  · refine And.intro (show I64 c ∧ (0 : Int) < 10 ∧ (10 : Int) ≤ 4096 from ⟨hc, by omega, by omega⟩) ?_
    conv => whnf
    rw [show opV k a c w = ipick c 10 from if_pos (.inr (by assumption))]
    repeat' (first | exact trivial | exact rfl | (refine And.intro ?_ ?_) | ((conv => whnf); done) | ((conv => whnf); (first | rfl | (refine congrArg (fun b => T.v (Value.bool b)) ?_; first | rfl | exact (decide_eq_true (by omega)).symm | exact (decide_eq_false (by omega)).symm | exact decide_eq_decide.2 (by omega)) | (refine congrArg (fun b => T.v (Value.int _ b)) ?_; first | rfl | omega) | omega)) | (first | rfl | (refine congrArg (fun b => T.v (Value.bool b)) ?_; first | rfl | exact (decide_eq_true (by omega)).symm | exact (decide_eq_false (by omega)).symm | exact decide_eq_decide.2 (by omega)) | (refine congrArg (fun b => T.v (Value.int _ b)) ?_; first | rfl | omega) | omega))
    exact congrArg (fun x => T.v (Value.int _ x)) hw
  · rw [show opV k a c w = wordS c w from if_neg (by rintro (h | h); exact absurd h (by assumption); exact absurd h (by assumption))]
    repeat' (first | exact trivial | exact rfl | (refine And.intro ?_ ?_) | ((conv => whnf); done) | ((conv => whnf); (first | rfl | (refine congrArg (fun b => T.v (Value.bool b)) ?_; first | rfl | exact (decide_eq_true (by omega)).symm | exact (decide_eq_false (by omega)).symm | exact decide_eq_decide.2 (by omega)) | (refine congrArg (fun b => T.v (Value.int _ b)) ?_; first | rfl | omega) | omega)) | (first | rfl | (refine congrArg (fun b => T.v (Value.bool b)) ?_; first | rfl | exact (decide_eq_true (by omega)).symm | exact (decide_eq_false (by omega)).symm | exact decide_eq_decide.2 (by omega)) | (refine congrArg (fun b => T.v (Value.int _ b)) ?_; first | rfl | omega) | omega))
def eOp09 : Entry := ⟨23, 4, fun l => match l with | [.agg [.v (.int .i64 k), .v (.int .i64 p), .v (.int .i64 n)], .agg [.v (.int .i64 a), .v (.int .i64 b), .v (.int .i64 c)], .v (.int .u64 w)] => some (some ((k = 1 ∨ k = 5) ∧ I64 a ∧ I64 b ∧ I64 c), .agg [.v (.int .i64 (codeS k a)), .v (.int .u64 (keyS k b w)), .v (.int .u64 (opV k a c w))], []) | _ => none⟩
theorem eOp09_ok : eOp09.ok Tryd.prog glR := ⟨enters_of Tryd.func23 (by kernel_rfl) (by kernel_rfl), by
  intro args c t bs h hc
  simp only [eOp09] at h
  split at h <;> cases h
  replace hc := hc _ rfl
  exact op09_pure _ _ _ _ _ _ _ hc.1 hc.2.1 hc.2.2.1 hc.2.2.2⟩
noncomputable def ctxPlV3 (P : Program) : Ctx := ctx P glR [eRFits] [] (noEq P) [] (fun _ h => by cases h)
theorem ctxPlV3_good : (ctxPlV3 Tryd.prog).good := ctx_good (by kernel_rfl) (AllOk.mem ⟨eRFits_ok, trivial⟩) glR_two
attribute [local irreducible] fitsB
set_option maxRecDepth 100000 in
theorem new1_pure (p n : Int) (hf : fitsB 1 p n = true) : Pure Tryd.prog glR 47 [.agg [.v (.int .i64 1), .v (.int .i64 p), .v (.int .i64 n)]] (.tup [SO 0 0 0 0 false, .v (.int .i64 0)]) (SH [] [] []) := by
  refine pure_of (C := ctxPlV3 Tryd.prog) ctxPlV3_good Tryd.func47 (c := bodyOf Tryd.f47) (by rfl) (Nat.le_of_ble_eq_true (by rfl)) 4 0 [0, 1, 2, 3, 4, 7, 12] ?_
  conv => whnf
  repeat' (first | (refine ifB_t (by assumption) ?_; conv => whnf) | (refine ifB_f (by assumption) ?_; conv => whnf) | (refine ifB_dec (fun h => ?_) (fun h => ?_) <;> (first | (exfalso; omega) | (conv => whnf))) | (refine ifB_eq (fun h => ?_) (fun h => ?_) <;> (first | (exfalso; omega) | (conv => whnf))) | (refine ifB_ne (fun h => ?_) (fun h => ?_) <;> (first | (exfalso; omega) | (conv => whnf))) | (refine ifB_not ?_; conv => whnf) | (refine ifB_and ?_; conv => whnf) | (refine ifB_or ?_; conv => whnf) | (refine And.intro ?_ ?_; (first | omega | assumption | (exact allU_getD (by assumption) _) | (simp only [cutL]; omega) | (refine And.intro ?_ ?_ <;> first | assumption | exact allU_getD (by assumption) _) | (simp only [cutL, IntKind.wrap_u64, IntKind.wrap_i64] at *; omega) | decide); conv => whnf) | (refine ifB_mk (fun h => ?_) (fun h => ?_) <;> (conv => whnf)))
  repeat' (first | exact trivial | exact rfl | (refine And.intro ?_ ?_) | ((conv => whnf); done) | ((conv => whnf); (first | rfl | (refine congrArg (fun b => T.v (Value.bool b)) ?_; first | rfl | exact (decide_eq_true (by omega)).symm | exact (decide_eq_false (by omega)).symm | exact decide_eq_decide.2 (by omega)) | (refine congrArg (fun b => T.v (Value.int _ b)) ?_; first | rfl | omega) | omega)) | (first | rfl | (refine congrArg (fun b => T.v (Value.bool b)) ?_; first | rfl | exact (decide_eq_true (by omega)).symm | exact (decide_eq_false (by omega)).symm | exact decide_eq_decide.2 (by omega)) | (refine congrArg (fun b => T.v (Value.int _ b)) ?_; first | rfl | omega) | omega))
set_option maxRecDepth 100000 in
theorem new5_pure (p : Int) (n : Nat) (hf : fitsB 5 p n = true) : Pure Tryd.prog glR 47 [.agg [.v (.int .i64 5), .v (.int .i64 p), .v (.int .i64 n)]] (.tup [SO 0 0 0 n false, .v (.int .i64 0)]) (SH [] [] (List.replicate n 0)) := by
  obtain ⟨f1, f2, f3, f4, f5, f6⟩ := fitsB_room hf
  refine pure_of (C := ctxPlV3 Tryd.prog) ctxPlV3_good Tryd.func47 (c := bodyOf Tryd.f47) (by rfl) (Nat.le_of_ble_eq_true (by rfl)) 4 0 [0, 1, 2, 3, 4, 7, 12] ?_
  conv => whnf
  repeat' (first | (refine ifB_t (by assumption) ?_; conv => whnf) | (refine ifB_f (by assumption) ?_; conv => whnf) | (refine ifB_dec (fun h => ?_) (fun h => ?_) <;> (first | (exfalso; omega) | (conv => whnf))) | (refine ifB_eq (fun h => ?_) (fun h => ?_) <;> (first | (exfalso; omega) | (conv => whnf))) | (refine ifB_ne (fun h => ?_) (fun h => ?_) <;> (first | (exfalso; omega) | (conv => whnf))) | (refine ifB_not ?_; conv => whnf) | (refine ifB_and ?_; conv => whnf) | (refine ifB_or ?_; conv => whnf) | (refine And.intro ?_ ?_; (first | omega | assumption | (exact allU_getD (by assumption) _) | (simp only [cutL]; omega) | (refine And.intro ?_ ?_ <;> first | assumption | exact allU_getD (by assumption) _) | (simp only [cutL, IntKind.wrap_u64, IntKind.wrap_i64] at *; omega) | decide); conv => whnf) | (refine ifB_mk (fun h => ?_) (fun h => ?_) <;> (conv => whnf)))
  repeat' (first | exact trivial | exact rfl | (refine And.intro ?_ ?_) | ((conv => whnf); done) | ((conv => whnf); (first | rfl | (refine congrArg (fun b => T.v (Value.bool b)) ?_; first | rfl | exact (decide_eq_true (by omega)).symm | exact (decide_eq_false (by omega)).symm | exact decide_eq_decide.2 (by omega)) | (refine congrArg (fun b => T.v (Value.int _ b)) ?_; first | rfl | omega) | omega)) | (first | rfl | (refine congrArg (fun b => T.v (Value.bool b)) ?_; first | rfl | exact (decide_eq_true (by omega)).symm | exact (decide_eq_false (by omega)).symm | exact decide_eq_decide.2 (by omega)) | (refine congrArg (fun b => T.v (Value.int _ b)) ?_; first | rfl | omega) | omega))
theorem new_pure (k p n : Int) (hk : k = 1 ∨ k = 5) (hf : fitsB k p n = true) : Pure Tryd.prog glR 47 [.agg [.v (.int .i64 k), .v (.int .i64 p), .v (.int .i64 n)]] (.tup [SO 0 0 0 (if k = 1 then 0 else n.toNat) false, .v (.int .i64 0)]) (SH [] [] (List.replicate (if k = 1 then 0 else n.toNat) 0)) := by
  rcases hk with rfl | rfl
  · exact new1_pure _ _ hf
  · have := fitsB_room hf
    obtain ⟨n0, rfl⟩ := Int.eq_ofNat_of_zero_le (a := n) (by omega)
    exact new5_pure _ _ hf
def eNew9 : Entry := ⟨47, 3, fun l => match l with | [.agg [.v (.int .i64 k), .v (.int .i64 p), .v (.int .i64 n)]] => some (some ((k = 1 ∨ k = 5) ∧ fitsB k p n = true), .tup [SO 0 0 0 (if k = 1 then 0 else n.toNat) false, .v (.int .i64 0)], SH [] [] (List.replicate (if k = 1 then 0 else n.toNat) 0)) | _ => none⟩
theorem eNew9_ok : eNew9.ok Tryd.prog glR := ⟨enters_of Tryd.func47 (by kernel_rfl) (by kernel_rfl), by
  intro args c t bs h hc
  simp only [eNew9] at h
  split at h <;> cases h
  replace hc := hc _ rfl
  exact new_pure _ _ _ hc.1 hc.2⟩
end Go.Proofs.YtlcpcgdecodjfaaDoor
namespace Go.Proofs.YtlcpcgdecodjfaaDoor
open Go.RowKit Go.Proofs.YtlcpcgdecodjfaaDoor.Am
set_option linter.unusedVariables false
set_option linter.unusedSimpArgs false

/-- A register behind so many raw calls. -/
def st1 (raw : List Int) : Nat → Int
  | 0 => 0
  | j + 1 => (regDo (st1 raw j) (codeS 1 (raw.getD (j * 3) 0)) (opV 1 (raw.getD (j * 3) 0) (raw.getD (j * 3 + 2) 0) j)).1.getD 0 0
/-- A ballot of n behind so many. -/
def st5 (n : Nat) (raw : List Int) : Nat → List Int × Bool
  | 0 => (List.replicate n 0, false)
  | j + 1 => ((balR (st5 n raw j).1 (st5 n raw j).2 (codeS 5 (raw.getD (j * 3) 0)) (keyS 5 (raw.getD (j * 3 + 1) 0) j) (opV 5 (raw.getD (j * 3) 0) (raw.getD (j * 3 + 2) 0) j)).1, (balR (st5 n raw j).1 (st5 n raw j).2 (codeS 5 (raw.getD (j * 3) 0)) (keyS 5 (raw.getD (j * 3 + 1) 0) j) (opV 5 (raw.getD (j * 3) 0) (raw.getD (j * 3 + 2) 0) j)).2.1)
theorem allI_getD {xs : List Int} (h : AllI xs) (i : Nat) : I64 (xs.getD i 0) := by
  by_cases hi : i < xs.length
  · exact h.at hi
  · rw [List.getD_eq_getElem?_getD, List.getElem?_eq_none (by omega)]; exact ⟨by decide, by decide⟩
noncomputable def ctxPlS (P : Program) : Ctx := ctx P glR [eNew9, eDo9, eOp09] [] (noEq P) [] (fun _ h => by cases h)
theorem ctxPlS_good : (ctxPlS Tryd.prog).good := ctx_good (by kernel_rfl) (AllOk.mem ⟨eNew9_ok, eDo9_ok, eOp09_ok, trivial⟩) glR_two
attribute [local irreducible] fitsB codeS keyS opV regDo balR
set_option maxRecDepth 100000 in
theorem state1_pure (p n : Int) (hf : fitsB 1 p n = true) (m : Nat) (raw : List Int) (hx : AllI raw) : Pure Tryd.prog glR 15 [.agg [.v (.int .i64 1), .v (.int .i64 p), .v (.int .i64 n)], .fl [.i64, .i64, .i64] m raw] (SO (st1 raw (min m 30)) 0 0 0 false) (SH [] [] []) := by
  refine pure_wf fun hw => ?_
  obtain ⟨-, ⟨w1, w2⟩, -⟩ := hw
  simp only [List.length_cons, List.length_nil, Nat.zero_add, Nat.mul_one] at w1
  refine pure_of (C := ctxPlS Tryd.prog) ctxPlS_good Tryd.func15 (c := bodyOf Tryd.f15) (by rfl) (Nat.le_of_ble_eq_true (by rfl)) 4 0 [0, 1, 2, 4, 5, 7, 8, 10, 23, 42] ?_
  conv => whnf
  refine And.intro ⟨.inl rfl, hf⟩ ?_
  conv => whnf
  refine TW.loopD ctxPlS_good 0 (base := 0) (lv := [0, 1, 2, 4, 5, 7, 8, 10, 23, 42]) [7] [20, 52, 53, 54] [(20, 20), (52, 52), (53, 53), (54, 54)] (fun j : Nat => [.v (.int .i64 j)]) (fun j => [.cs [.v (.int .u64 (st1 raw j)), .ow 52 1 0, .ow 53 1 0, .ow 54 1 0, .v (.bool false)], .fl [.u64] [], .fl [.u64] [], .fl [.i64] []]) (fun j => (j ≤ m ∧ j ≤ 30) ∧ U64 (st1 raw j) ∧ iCanon (st1 raw j) = st1 raw j) (fun j => 30 - j) ?_
  conv => whnf
  refine ⟨⟨0, ⟨rfl, rfl, rfl⟩, ⟨by omega, by omega⟩, ⟨(show (0 : Int) ≤ 0 by omega), (show (0 : Int) < 18446744073709551616 by omega)⟩, by rfl⟩, fun j ⟨⟨hj, hj2⟩, hu, hc⟩ => ?_⟩
  conv => whnf
  refine ifB_dec (fun h => ?_) (fun h => ?_)
  · conv => whnf
    refine ifB_dec (fun h2 => ?_) (fun h2 => ?_)
    · conv => whnf
      refine And.intro (by omega) ?_
      conv => whnf
      refine And.intro ⟨.inl rfl, allI_getD hx _, allI_getD hx _, allI_getD hx _⟩ ?_
      conv => whnf
      have i0 : 0 + (j : Int).toNat * (2 + 1) + 0 = j * 3 := by omega
      have i1 : 0 + (j : Int).toNat * (2 + 1) + (0 + 1) = j * 3 + 1 := by omega
      have i2 : 0 + (j : Int).toNat * (2 + 1) + (0 + 1 + 1) = j * 3 + 2 := by omega
      have ew : IntKind.u64.wrap (j : Int) = j := wrapU (by omega) (by omega)
      have uj : U64 (IntKind.u64.wrap (j : Int)) := by rw [ew]; exact ⟨by omega, by omega⟩
      refine And.intro ⟨rfl, rfl, rfl, rfl, u64_keyS uj, u64_opV uj, .inl ⟨rfl, hf, rfl, rfl, rfl, hu, hc⟩⟩ ?_
      conv => whnf
      obtain ⟨x, hx1, hx2, hx3⟩ := regDo_ok (code := codeS 1 (raw.getD (j * 3) 0)) hu (u64_opV (k := 1) (a := raw.getD (j * 3) 0) (c := raw.getD (j * 3 + 2) 0) (w := (j : Int)) ⟨by omega, by omega⟩) hc
      have hs : st1 raw (j + 1) = x := by show List.getD _ 0 0 = x; rw [hx1]; rfl
      rw [i0, i2, ew, wsucc (n := m) (by omega) w2]
      exact ⟨j + 1, [(20, 20), (148, 52), (149, 53), (150, 54)], ⟨rfl, rfl, rfl⟩, ⟨⟨by omega, by omega⟩, by rw [hs]; exact hx2, by rw [hs]; exact hx3⟩, by (try dsimp only); omega⟩
    · conv => whnf
      rw [show min m 30 = j by omega]
      repeat' (first | exact trivial | exact rfl | (refine And.intro ?_ ?_) | ((conv => whnf); done) | ((conv => whnf); (first | rfl | (refine congrArg (fun b => T.v (Value.bool b)) ?_; first | rfl | exact (decide_eq_true (by omega)).symm | exact (decide_eq_false (by omega)).symm | exact decide_eq_decide.2 (by omega)) | (refine congrArg (fun b => T.v (Value.int _ b)) ?_; first | rfl | omega) | omega)) | (first | rfl | (refine congrArg (fun b => T.v (Value.bool b)) ?_; first | rfl | exact (decide_eq_true (by omega)).symm | exact (decide_eq_false (by omega)).symm | exact decide_eq_decide.2 (by omega)) | (refine congrArg (fun b => T.v (Value.int _ b)) ?_; first | rfl | omega) | omega))
  · conv => whnf
    rw [show min m 30 = j by omega]
    repeat' (first | exact trivial | exact rfl | (refine And.intro ?_ ?_) | ((conv => whnf); done) | ((conv => whnf); (first | rfl | (refine congrArg (fun b => T.v (Value.bool b)) ?_; first | rfl | exact (decide_eq_true (by omega)).symm | exact (decide_eq_false (by omega)).symm | exact decide_eq_decide.2 (by omega)) | (refine congrArg (fun b => T.v (Value.int _ b)) ?_; first | rfl | omega) | omega)) | (first | rfl | (refine congrArg (fun b => T.v (Value.bool b)) ?_; first | rfl | exact (decide_eq_true (by omega)).symm | exact (decide_eq_false (by omega)).symm | exact decide_eq_decide.2 (by omega)) | (refine congrArg (fun b => T.v (Value.int _ b)) ?_; first | rfl | omega) | omega))
set_option maxRecDepth 100000 in
theorem state5_pure (p : Int) (n : Nat) (hf : fitsB 5 p n = true) (m : Nat) (raw : List Int) (hx : AllI raw) : Pure Tryd.prog glR 15 [.agg [.v (.int .i64 5), .v (.int .i64 p), .v (.int .i64 n)], .fl [.i64, .i64, .i64] m raw] (SO 0 0 0 n (st5 n raw (min m 30)).2) (SH [] [] (st5 n raw (min m 30)).1) := by
  refine pure_wf fun hw => ?_
  obtain ⟨-, ⟨w1, w2⟩, -⟩ := hw
  simp only [List.length_cons, List.length_nil, Nat.zero_add, Nat.mul_one] at w1
  refine pure_of (C := ctxPlS Tryd.prog) ctxPlS_good Tryd.func15 (c := bodyOf Tryd.f15) (by rfl) (Nat.le_of_ble_eq_true (by rfl)) 4 0 [0, 1, 2, 4, 5, 7, 8, 10, 23, 42] ?_
  conv => whnf
  refine And.intro ⟨.inr rfl, hf⟩ ?_
  conv => whnf
  refine TW.loopD ctxPlS_good 0 (base := 0) (lv := [0, 1, 2, 4, 5, 7, 8, 10, 23, 42]) [7] [20, 52, 53, 54] [(20, 20), (52, 52), (53, 53), (54, 54)] (fun j : Nat => [.v (.int .i64 j)]) (fun j => [.cs [.v (.int .u64 0), .ow 52 1 0, .ow 53 1 0, .ow 54 1 n, .v (.bool (st5 n raw j).2)], .fl [.u64] [], .fl [.u64] [], .fl [.i64] (st5 n raw j).1]) (fun j => (j ≤ m ∧ j ≤ 30) ∧ (st5 n raw j).1.length = n ∧ okV (st5 n raw j).1 = true) (fun j => 30 - j) ?_
  conv => whnf
  refine ⟨⟨0, ⟨rfl, rfl, rfl⟩, ⟨by omega, by omega⟩, List.length_replicate .., okV_pad (n := n) (l := []) rfl⟩, fun j ⟨⟨hj, hj2⟩, hl, ho⟩ => ?_⟩
  conv => whnf
  refine ifB_dec (fun h => ?_) (fun h => ?_)
  · conv => whnf
    refine ifB_dec (fun h2 => ?_) (fun h2 => ?_)
    · conv => whnf
      refine And.intro (by omega) ?_
      conv => whnf
      refine And.intro ⟨.inr rfl, allI_getD hx _, allI_getD hx _, allI_getD hx _⟩ ?_
      conv => whnf
      have i0 : 0 + (j : Int).toNat * (2 + 1) + 0 = j * 3 := by omega
      have i1 : 0 + (j : Int).toNat * (2 + 1) + (0 + 1) = j * 3 + 1 := by omega
      have i2 : 0 + (j : Int).toNat * (2 + 1) + (0 + 1 + 1) = j * 3 + 2 := by omega
      have ew : IntKind.u64.wrap (j : Int) = j := wrapU (by omega) (by omega)
      have uj : U64 (IntKind.u64.wrap (j : Int)) := by rw [ew]; exact ⟨by omega, by omega⟩
      refine And.intro ⟨rfl, rfl, rfl, rfl, u64_keyS uj, u64_opV uj, .inr ⟨rfl, rfl, n, rfl, hf, rfl, hl, ho⟩⟩ ?_
      conv => whnf
      obtain ⟨g1, g2⟩ := balR_ok (c := (st5 n raw j).2) (code := codeS 5 (raw.getD (j * 3) 0)) (key := keyS 5 (raw.getD (j * 3 + 1) 0) j) (v := opV 5 (raw.getD (j * 3) 0) (raw.getD (j * 3 + 2) 0) j) ho (u64_keyS ⟨by omega, by omega⟩)
      rw [i0, i1, i2, ew, wsucc (n := m) (by omega) w2]
      exact ⟨j + 1, [(20, 20), (148, 52), (149, 53), (150, 54)], ⟨rfl, rfl, rfl⟩, ⟨⟨by omega, by omega⟩, g2.trans hl, g1⟩, by (try dsimp only); omega⟩
    · conv => whnf
      rw [show min m 30 = j by omega]
      repeat' (first | exact trivial | exact rfl | (refine And.intro ?_ ?_) | ((conv => whnf); done) | ((conv => whnf); (first | rfl | (refine congrArg (fun b => T.v (Value.bool b)) ?_; first | rfl | exact (decide_eq_true (by omega)).symm | exact (decide_eq_false (by omega)).symm | exact decide_eq_decide.2 (by omega)) | (refine congrArg (fun b => T.v (Value.int _ b)) ?_; first | rfl | omega) | omega)) | (first | rfl | (refine congrArg (fun b => T.v (Value.bool b)) ?_; first | rfl | exact (decide_eq_true (by omega)).symm | exact (decide_eq_false (by omega)).symm | exact decide_eq_decide.2 (by omega)) | (refine congrArg (fun b => T.v (Value.int _ b)) ?_; first | rfl | omega) | omega))
  · conv => whnf
    rw [show min m 30 = j by omega]
    repeat' (first | exact trivial | exact rfl | (refine And.intro ?_ ?_) | ((conv => whnf); done) | ((conv => whnf); (first | rfl | (refine congrArg (fun b => T.v (Value.bool b)) ?_; first | rfl | exact (decide_eq_true (by omega)).symm | exact (decide_eq_false (by omega)).symm | exact decide_eq_decide.2 (by omega)) | (refine congrArg (fun b => T.v (Value.int _ b)) ?_; first | rfl | omega) | omega)) | (first | rfl | (refine congrArg (fun b => T.v (Value.bool b)) ?_; first | rfl | exact (decide_eq_true (by omega)).symm | exact (decide_eq_false (by omega)).symm | exact decide_eq_decide.2 (by omega)) | (refine congrArg (fun b => T.v (Value.int _ b)) ?_; first | rfl | omega) | omega))
theorem st1_ok (raw : List Int) (hx : AllI raw) : ∀ j, j ≤ 30 → U64 (st1 raw j) ∧ iCanon (st1 raw j) = st1 raw j
  | 0, _ => ⟨⟨(show (0 : Int) ≤ 0 by omega), (show (0 : Int) < 18446744073709551616 by omega)⟩, by rfl⟩
  | j + 1, h => by
    obtain ⟨hu, hc⟩ := st1_ok raw hx j (by omega)
    obtain ⟨x, hx1, hx2, hx3⟩ := regDo_ok (code := codeS 1 (raw.getD (j * 3) 0)) hu (u64_opV (k := 1) (a := raw.getD (j * 3) 0) (c := raw.getD (j * 3 + 2) 0) (w := (j : Int)) ⟨by omega, by omega⟩) hc
    have hs : st1 raw (j + 1) = x := by show List.getD _ 0 0 = x; rw [hx1]; rfl
    rw [hs]; exact ⟨hx2, hx3⟩
theorem st5_ok (n : Nat) (raw : List Int) (hx : AllI raw) : ∀ j, j ≤ 30 → (st5 n raw j).1.length = n ∧ okV (st5 n raw j).1 = true
  | 0, _ => ⟨List.length_replicate .., okV_pad (n := n) (l := []) rfl⟩
  | j + 1, h => by
    obtain ⟨hl, ho⟩ := st5_ok n raw hx j (by omega)
    obtain ⟨g1, g2⟩ := balR_ok (c := (st5 n raw j).2) (code := codeS 5 (raw.getD (j * 3) 0)) (key := keyS 5 (raw.getD (j * 3 + 1) 0) j) (v := opV 5 (raw.getD (j * 3) 0) (raw.getD (j * 3 + 2) 0) j) ho (u64_keyS ⟨by omega, by omega⟩)
    exact ⟨g2.trans hl, g1⟩
/-- A state's word, votes, whether it is closed. -/
def stR (k n : Int) (m : Nat) (raw : List Int) : Int := if k = 1 then st1 raw (min m 30) else 0
def stV (k n : Int) (m : Nat) (raw : List Int) : List Int := if k = 1 then [] else (st5 n.toNat raw (min m 30)).1
def stC (k n : Int) (m : Nat) (raw : List Int) : Bool := if k = 1 then false else (st5 n.toNat raw (min m 30)).2
theorem state_pure (k p n : Int) (hk : k = 1 ∨ k = 5) (hf : fitsB k p n = true) (m : Nat) (raw : List Int) (hx : AllI raw) : Pure Tryd.prog glR 15 [.agg [.v (.int .i64 k), .v (.int .i64 p), .v (.int .i64 n)], .fl [.i64, .i64, .i64] m raw] (SO (stR k n m raw) 0 0 (if k = 1 then 0 else n.toNat) (stC k n m raw)) (SH [] [] (stV k n m raw)) := by
  rcases hk with rfl | rfl
  · exact state1_pure _ _ hf _ _ hx
  · have := fitsB_room hf
    obtain ⟨n0, rfl⟩ := Int.eq_ofNat_of_zero_le (a := n) (by omega)
    exact state5_pure _ _ hf _ _ hx
def eState09 : Entry := ⟨15, 4, fun l => match l with | [.agg [.v (.int .i64 k), .v (.int .i64 p), .v (.int .i64 n)], .fl [.i64, .i64, .i64] m raw] => some (some ((k = 1 ∨ k = 5) ∧ fitsB k p n = true ∧ AllI raw), SO (stR k n m raw) 0 0 (if k = 1 then 0 else n.toNat) (stC k n m raw), SH [] [] (stV k n m raw)) | _ => none⟩
theorem eState09_ok : eState09.ok Tryd.prog glR := ⟨enters_of Tryd.func15 (by kernel_rfl) (by kernel_rfl), by
  intro args c t bs h hc
  simp only [eState09] at h
  split at h <;> cases h
  replace hc := hc _ rfl
  exact state_pure _ _ _ hc.1 hc.2.1 _ _ hc.2.2⟩
end Go.Proofs.YtlcpcgdecodjfaaDoor
namespace Go.Proofs.YtlcpcgdecodjfaaDoor
open Go.RowKit Go.Proofs.YtlcpcgdecodjfaaDoor.Am
set_option linter.unusedVariables false
set_option linter.unusedSimpArgs false

set_option maxRecDepth 100000 in
theorem guess1_pure (p n x : Int) : Pure Tryd.prog glR 95 [.agg [.v (.int .i64 1), .v (.int .i64 p), .v (.int .i64 n)], .fl [.u64] 1 [x]] (SO x 0 0 0 false) (SH [] [] []) := by
  refine pure_of (C := ctx0 Tryd.prog) ctx0_good Tryd.func95 (c := bodyOf Tryd.f95) (by rfl) (Nat.le_of_ble_eq_true (by rfl)) 4 0 [0, 1, 2, 4, 5, 6, 7, 8, 9, 11, 12, 15, 24, 32, 45, 51, 62, 78, 89, 102] ?_
  conv => whnf
  repeat' (first | (refine ifB_t (by assumption) ?_; conv => whnf) | (refine ifB_f (by assumption) ?_; conv => whnf) | (refine ifB_dec (fun h => ?_) (fun h => ?_) <;> (first | (exfalso; omega) | (conv => whnf))) | (refine ifB_eq (fun h => ?_) (fun h => ?_) <;> (first | (exfalso; omega) | (conv => whnf))) | (refine ifB_ne (fun h => ?_) (fun h => ?_) <;> (first | (exfalso; omega) | (conv => whnf))) | (refine ifB_not ?_; conv => whnf) | (refine ifB_and ?_; conv => whnf) | (refine ifB_or ?_; conv => whnf) | (refine And.intro ?_ ?_; (first | omega | assumption | (exact allU_getD (by assumption) _) | (simp only [cutL]; omega) | (refine And.intro ?_ ?_ <;> first | assumption | exact allU_getD (by assumption) _) | (simp only [cutL, IntKind.wrap_u64, IntKind.wrap_i64] at *; omega) | decide); conv => whnf) | (refine ifB_mk (fun h => ?_) (fun h => ?_) <;> (conv => whnf)))
  repeat' (first | exact trivial | exact rfl | (refine And.intro ?_ ?_) | ((conv => whnf); done) | ((conv => whnf); (first | rfl | (refine congrArg (fun b => T.v (Value.bool b)) ?_; first | rfl | exact (decide_eq_true (by omega)).symm | exact (decide_eq_false (by omega)).symm | exact decide_eq_decide.2 (by omega)) | (refine congrArg (fun b => T.v (Value.int _ b)) ?_; first | rfl | omega) | omega)) | (first | rfl | (refine congrArg (fun b => T.v (Value.bool b)) ?_; first | rfl | exact (decide_eq_true (by omega)).symm | exact (decide_eq_false (by omega)).symm | exact decide_eq_decide.2 (by omega)) | (refine congrArg (fun b => T.v (Value.int _ b)) ?_; first | rfl | omega) | omega))
/-- A ballot's votes, as they are guessed. -/
def gV (ws : List Int) : List Int := ws.map fun v => if v ≤ 8 then v else 9
theorem votesW_getD {n : Nat} {w : List Int} {j : Nat} (hj : j < n) : (votesW n w).getD j 0 = w.getD (1 + j) 0 := by
  unfold votesW
  rw [List.getD_eq_getElem?_getD, List.getElem?_take_of_lt hj, List.getElem?_drop, ← List.getD_eq_getElem?_getD]
theorem gV_snoc {ws : List Int} {j : Nat} (hj : j < ws.length) : (gV ws).take (j + 1) = (gV ws).take j ++ [if ws.getD j 0 ≤ 8 then ws.getD j 0 else 9] := by
  rw [take_snoc (by simpa [gV] using hj)]
  refine congrArg (fun x => _ ++ [x]) ?_
  simp [gV, List.getD, hj]
theorem gV_len (ws : List Int) : (gV ws).length = ws.length := by simp [gV]
set_option maxRecDepth 100000 in
theorem guess5_pure (p : Int) (n m : Nat) (w : List Int) (hn : n ≤ 1000) (hm : m = n + 9) (hx : AllU w) : Pure Tryd.prog glR 95 [.agg [.v (.int .i64 5), .v (.int .i64 p), .v (.int .i64 n)], .fl [.u64] m w] (SO 0 0 0 n (decide (w.getD 0 0 = 1))) (SH [] [] (gV (votesW n w))) := by
  refine pure_wf fun hw => ?_
  obtain ⟨-, ⟨w1, w2⟩, -⟩ := hw
  simp only [List.length_cons, List.length_nil, Nat.zero_add, Nat.mul_one] at w1
  refine pure_of (C := ctx0 Tryd.prog) ctx0_good Tryd.func95 (c := bodyOf Tryd.f95) (by rfl) (Nat.le_of_ble_eq_true (by rfl)) 4 0 [0, 1, 2, 4, 5, 6, 7, 8, 9, 11, 12, 15, 24, 32, 45, 51, 62, 78, 89, 102] ?_
  conv => whnf
  repeat' (first | (refine ifB_t (by assumption) ?_; conv => whnf) | (refine ifB_f (by assumption) ?_; conv => whnf) | (refine ifB_dec (fun h => ?_) (fun h => ?_) <;> (first | (exfalso; omega) | (conv => whnf))) | (refine ifB_eq (fun h => ?_) (fun h => ?_) <;> (first | (exfalso; omega) | (conv => whnf))) | (refine ifB_ne (fun h => ?_) (fun h => ?_) <;> (first | (exfalso; omega) | (conv => whnf))) | (refine ifB_not ?_; conv => whnf) | (refine ifB_and ?_; conv => whnf) | (refine ifB_or ?_; conv => whnf) | (refine And.intro ?_ ?_; (first | omega | assumption | (exact allU_getD (by assumption) _) | (simp only [cutL]; omega) | (refine And.intro ?_ ?_ <;> first | assumption | exact allU_getD (by assumption) _) | (simp only [cutL, IntKind.wrap_u64, IntKind.wrap_i64] at *; omega) | decide); conv => whnf) | (refine ifB_mk (fun h => ?_) (fun h => ?_) <;> (conv => whnf)))
  refine TW.nilOwnB 20 3 5000 1 _ (.fl [.i64] []) rfl rfl rfl (.inr ⟨_, _, rfl⟩) (by decide) ?_
  refine TW.loopD ctx0_good 0 (base := 0) (lv := [0, 1, 2, 4, 5, 6, 7, 8, 9, 11, 12, 15, 24, 32, 45, 51, 62, 78, 89, 102]) [11] [20, 5000] [(20, 20), (5000, 5000)] (fun j : Nat => [.v (.int .i64 j)]) (fun j => [.cs [.v (.int .u64 0), .v (.slice none 0 0), .v (.slice none 0 0), .ow 5000 1 j, .v (.bool (w.getD 0 0 == 1))], .fl [.i64] ((gV (votesW n w)).take j)]) (fun j => j ≤ n) (fun j => n - j) ?_
  conv => whnf
  refine ⟨⟨0, ⟨rfl, rfl, rfl⟩, Nat.zero_le _⟩, fun j hj => ?_⟩
  replace hj : j ≤ n := hj
  conv => whnf
  refine ifB_dec (fun h => ?_) (fun h => ?_)
  · conv => whnf
    have ei : 0 + (IntKind.i64.wrap (1 + (j : Int))).toNat * (0 + 1) = 1 + j := by rw [wrap64 (by omega) (by omega)]; omega
    have ej : IntKind.i64.wrap ((j : Int) + 1) = ((j + 1 : Nat) : Int) := wrap64 (by omega) (by omega)
    have hl : (votesW n w).length = n := votesW_len (by omega)
    have hs := gV_snoc (ws := votesW n w) (j := j) (by omega)
    rw [votesW_getD (by omega)] at hs
    have hu : U64 (w.getD (1 + j) 0) := allU_getD hx _
    repeat' (first | (refine ifB_t (by assumption) ?_; conv => whnf) | (refine ifB_f (by assumption) ?_; conv => whnf) | (refine ifB_dec (fun h => ?_) (fun h => ?_) <;> (first | (exfalso; omega) | (conv => whnf))) | (refine ifB_eq (fun h => ?_) (fun h => ?_) <;> (first | (exfalso; omega) | (conv => whnf))) | (refine ifB_ne (fun h => ?_) (fun h => ?_) <;> (first | (exfalso; omega) | (conv => whnf))) | (refine ifB_not ?_; conv => whnf) | (refine ifB_and ?_; conv => whnf) | (refine ifB_or ?_; conv => whnf) | (refine And.intro ?_ ?_; (first | omega | assumption | (exact allU_getD (by assumption) _) | (simp only [cutL]; omega) | (refine And.intro ?_ ?_ <;> first | assumption | exact allU_getD (by assumption) _) | (simp only [cutL, IntKind.wrap_u64, IntKind.wrap_i64] at *; omega) | decide); conv => whnf) | (refine ifB_mk (fun h => ?_) (fun h => ?_) <;> (conv => whnf)))
    · rw [ei] at *
      rw [if_pos (by assumption)] at hs
      have ew : IntKind.i64.wrap (w.getD (1 + j) 0) = w.getD (1 + j) 0 := wrap64 (by have := hu.1; omega) (by omega)
      rw [ej, ew, ← hs]
      exact ⟨j + 1, [(20, 20), (172, 5000)], ⟨rfl, rfl, rfl⟩, (by omega : j + 1 ≤ n), by (try dsimp only); omega⟩
    · rw [ei] at *
      rw [if_neg (by assumption)] at hs
      rw [ej, ← hs]
      exact ⟨j + 1, [(20, 20), (172, 5000)], ⟨rfl, rfl, rfl⟩, (by omega : j + 1 ≤ n), by (try dsimp only); omega⟩
  · conv => whnf
    have hl : (votesW n w).length = n := votesW_len (by omega)
    obtain rfl : j = n := by omega
    rw [List.take_of_length_le (by rw [gV_len]; omega)]
    repeat' (first | exact trivial | exact rfl | (refine And.intro ?_ ?_) | ((conv => whnf); done) | ((conv => whnf); (first | rfl | (refine congrArg (fun b => T.v (Value.bool b)) ?_; first | rfl | exact (decide_eq_true (by omega)).symm | exact (decide_eq_false (by omega)).symm | exact decide_eq_decide.2 (by omega)) | (refine congrArg (fun b => T.v (Value.int _ b)) ?_; first | rfl | omega) | omega)) | (first | rfl | (refine congrArg (fun b => T.v (Value.bool b)) ?_; first | rfl | exact (decide_eq_true (by omega)).symm | exact (decide_eq_false (by omega)).symm | exact decide_eq_decide.2 (by omega)) | (refine congrArg (fun b => T.v (Value.int _ b)) ?_; first | rfl | omega) | omega))
/-- What guess makes of words. -/
def gsR (k : Int) (w : List Int) : Int := if k = 1 then w.getD 0 0 else 0
def gsN (k n : Int) : Nat := if k = 1 then 0 else n.toNat
def gsC (k : Int) (w : List Int) : Bool := if k = 1 then false else decide (w.getD 0 0 = 1)
def gsV (k n : Int) (w : List Int) : List Int := if k = 1 then [] else gV (votesW n.toNat w)
theorem guess_pure {k p n : Int} {m : Nat} {w : List Int} (hk : k = 1 ∨ k = 5) (hm : (m : Int) = homeI k n) (hf : fitsB k p n = true) (hx : AllU w) : Pure Tryd.prog glR 95 [.agg [.v (.int .i64 k), .v (.int .i64 p), .v (.int .i64 n)], .fl [.u64] m w] (SO (gsR k w) 0 0 (gsN k n) (gsC k w)) (SH [] [] (gsV k n w)) := by
  have hr := fitsB_room hf
  refine pure_wf fun hw => ?_
  obtain ⟨-, ⟨w1, w2⟩, -⟩ := hw
  simp only [List.length_cons, List.length_nil, Nat.zero_add, Nat.mul_one] at w1
  rcases hk with rfl | rfl
  · have hm : (m : Int) = 1 := hm
    obtain ⟨x, rfl⟩ := List.length_eq_one_iff.1 (show w.length = 1 by omega)
    obtain rfl : m = 1 := by omega
    exact guess1_pure _ _ _
  · have hm : (m : Int) = 9 + n := hm
    obtain ⟨n0, rfl⟩ := Int.eq_ofNat_of_zero_le (a := n) (by omega)
    exact guess5_pure _ _ _ _ (by omega) (by omega) hx
def eGuess : Entry := ⟨95, 3, fun l => match l with | [.agg [.v (.int .i64 k), .v (.int .i64 p), .v (.int .i64 n)], .fl [.u64] m w] => some (some ((k = 1 ∨ k = 5) ∧ (m : Int) = homeI k n ∧ fitsB k p n = true ∧ AllU w), SO (gsR k w) 0 0 (gsN k n) (gsC k w), SH [] [] (gsV k n w)) | _ => none⟩
theorem eGuess_ok : eGuess.ok Tryd.prog glR := ⟨enters_of Tryd.func95 (by kernel_rfl) (by kernel_rfl), by
  intro args c t bs h hc
  simp only [eGuess] at h
  split at h <;> cases h
  replace hc := hc _ rfl
  exact guess_pure hc.1 hc.2.1 hc.2.2.1 hc.2.2.2⟩
noncomputable def ctxPlX (P : Program) : Ctx := ctx P glR [eRFits, eRHome, eGuess, eEncA, eWords] [] (noEq P) [] (fun _ h => by cases h)
theorem ctxPlX_good : (ctxPlX Tryd.prog).good := ctx_good (by kernel_rfl) (AllOk.mem ⟨eRFits_ok, eRHome_ok, eGuess_ok, eEncA_ok, eWords_ok, trivial⟩) glR_two
/-- What Dec tells. -/
abbrev decT (r : Int × List Int × Bool × Int) : T := .tup [SO r.1 0 0 r.2.1.length r.2.2.1, .v (.int .i64 r.2.2.2)]
attribute [local irreducible] fitsB encR homeI
set_option maxRecDepth 100000 in
theorem decL_pure (k p n : Int) (m : Nat) (w : List Int) (hf : fitsB k p n = true) (hm : (m : Int) ≠ homeI k n) : Pure Tryd.prog glR 53 [.agg [.v (.int .i64 k), .v (.int .i64 p), .v (.int .i64 n)], .fl [.u64] m w] (.tup [SO 0 0 0 0 false, .v (.int .i64 2)]) (SH [] [] []) := by
  refine pure_of (C := ctxPlX Tryd.prog) ctxPlX_good Tryd.func53 (c := bodyOf Tryd.f53) (by rfl) (Nat.le_of_ble_eq_true (by rfl)) 4 0 [0, 1, 2, 4, 5, 6, 7, 8, 11, 17, 35] ?_
  conv => whnf
  repeat' (first | (refine ifB_t (by assumption) ?_; conv => whnf) | (refine ifB_f (by assumption) ?_; conv => whnf) | (refine ifB_dec (fun h => ?_) (fun h => ?_) <;> (first | (exfalso; omega) | (conv => whnf))) | (refine ifB_eq (fun h => ?_) (fun h => ?_) <;> (first | (exfalso; omega) | (conv => whnf))) | (refine ifB_ne (fun h => ?_) (fun h => ?_) <;> (first | (exfalso; omega) | (conv => whnf))) | (refine ifB_not ?_; conv => whnf) | (refine ifB_and ?_; conv => whnf) | (refine ifB_or ?_; conv => whnf) | (refine And.intro ?_ ?_; (first | omega | assumption | (exact allU_getD (by assumption) _) | (simp only [cutL]; omega) | (refine And.intro ?_ ?_ <;> first | assumption | exact allU_getD (by assumption) _) | (simp only [cutL, IntKind.wrap_u64, IntKind.wrap_i64] at *; omega) | decide); conv => whnf) | (refine ifB_mk (fun h => ?_) (fun h => ?_) <;> (conv => whnf)))
  all_goals first | (exact absurd (by assumption) hm) | repeat' (first | exact trivial | exact rfl | (refine And.intro ?_ ?_) | ((conv => whnf); done) | ((conv => whnf); (first | rfl | (refine congrArg (fun b => T.v (Value.bool b)) ?_; first | rfl | exact (decide_eq_true (by omega)).symm | exact (decide_eq_false (by omega)).symm | exact decide_eq_decide.2 (by omega)) | (refine congrArg (fun b => T.v (Value.int _ b)) ?_; first | rfl | omega) | omega)) | (first | rfl | (refine congrArg (fun b => T.v (Value.bool b)) ?_; first | rfl | exact (decide_eq_true (by omega)).symm | exact (decide_eq_false (by omega)).symm | exact decide_eq_decide.2 (by omega)) | (refine congrArg (fun b => T.v (Value.int _ b)) ?_; first | rfl | omega) | omega))
theorem right1_new {p n x : Int} (hf : fitsB 1 p n = true) : rightK 1 p n x [] [] [] false = decide (iCanon x = x) := by
  show right1 p n x [] [] [] false = _
  simp [right1, hf]
theorem right5_new {p : Int} {n : Nat} {ws : List Int} {c : Bool} (hf : fitsB 5 p n = true) (h : ws.length = n) : rightK 5 p n 0 [] [] ws c = okV ws := by
  show right5 p n 0 [] [] ws c = _
  simp [right5, votesOk, hf, h]
theorem encR_yes {k p n r : Int} {ks vs ws : List Int} {c : Bool} {n3 : Nat} (h : rightK k p n r ks vs ws c = true) : encR k p n r ks vs ws c n3 = (encN k n3, encL k r ws c, 0) := by unfold encR; exact if_pos h
theorem encR_no {k p n r : Int} {ks vs ws : List Int} {c : Bool} {n3 : Nat} (h : rightK k p n r ks vs ws c = false) : encR k p n r ks vs ws c n3 = (0, [], 1) := by unfold encR; exact if_neg (by rw [h]; exact Bool.false_ne_true)
set_option maxRecDepth 100000 in
theorem dec1_pure (p n x : Int) (hf : fitsB 1 p n = true) (hx : U64 x) : Pure Tryd.prog glR 53 [.agg [.v (.int .i64 1), .v (.int .i64 p), .v (.int .i64 n)], .fl [.u64] 1 [x]] (decT (decR 1 n [x])) (SH [] [] (decR 1 n [x]).2.1) := by
  have hh : ((1 : Nat) : Int) = homeI 1 n := by unfold homeI; rfl
  have hxs : AllU [x] := by intro y hy; cases hy with | head => exact hx | tail _ h => cases h
  have hr := right1_new (x := x) hf
  have hd : decR 1 n [x] = if iCanon x = x then (x, [], false, 0) else (0, [], false, 2) := by unfold decR; rw [if_pos (show (([x] : List Int).length : Int) = homeI 1 n from hh)]; rfl
  refine pure_of (C := ctxPlX Tryd.prog) ctxPlX_good Tryd.func53 (c := bodyOf Tryd.f53) (by rfl) (Nat.le_of_ble_eq_true (by rfl)) 4 0 [0, 1, 2, 4, 5, 6, 7, 8, 11, 17, 35] ?_
  conv => whnf
  repeat' (first | (refine ifB_t (by assumption) ?_; conv => whnf) | (refine ifB_f (by assumption) ?_; conv => whnf) | (refine ifB_dec (fun h => ?_) (fun h => ?_) <;> (first | (exfalso; omega) | (conv => whnf))) | (refine ifB_eq (fun h => ?_) (fun h => ?_) <;> (first | (exfalso; omega) | (conv => whnf))) | (refine ifB_ne (fun h => ?_) (fun h => ?_) <;> (first | (exfalso; omega) | (conv => whnf))) | (refine ifB_not ?_; conv => whnf) | (refine ifB_and ?_; conv => whnf) | (refine ifB_or ?_; conv => whnf) | (refine And.intro ?_ ?_; (first | omega | assumption | (exact allU_getD (by assumption) _) | (simp only [cutL]; omega) | (refine And.intro ?_ ?_ <;> first | assumption | exact allU_getD (by assumption) _) | (simp only [cutL, IntKind.wrap_u64, IntKind.wrap_i64] at *; omega) | decide); conv => whnf) | (refine ifB_mk (fun h => ?_) (fun h => ?_) <;> (conv => whnf)))
  refine And.intro ⟨.inl rfl, hh, hf, hxs⟩ ?_
  conv => whnf
  refine And.intro ⟨by omega, by omega, (show (0 : Nat) ≤ 1000 by omega), hx, .inl rfl, hf⟩ ?_
  conv => whnf
  by_cases hc : iCanon x = x
  · have he := encR_yes (n3 := 0) (hr.trans (decide_eq_true hc))
    rw [if_pos hc] at hd
    rw [hd]
    replace he : encR 1 p n (gsR 1 [x]) [] [] (gsV 1 n [x]) (gsC 1 [x]) (gsN 1 n) = (1, [x], 0) := he
    rw [he]
    conv => whnf
    refine ifB_f (show (bif false then true else !decide ((1, [x], (0 : Int)).2.1 = [x])) = false by simp) ?_
    conv => whnf
    repeat' (first | exact trivial | exact rfl | (refine And.intro ?_ ?_) | ((conv => whnf); done) | ((conv => whnf); (first | rfl | (refine congrArg (fun b => T.v (Value.bool b)) ?_; first | rfl | exact (decide_eq_true (by omega)).symm | exact (decide_eq_false (by omega)).symm | exact decide_eq_decide.2 (by omega)) | (refine congrArg (fun b => T.v (Value.int _ b)) ?_; first | rfl | omega) | omega)) | (first | rfl | (refine congrArg (fun b => T.v (Value.bool b)) ?_; first | rfl | exact (decide_eq_true (by omega)).symm | exact (decide_eq_false (by omega)).symm | exact decide_eq_decide.2 (by omega)) | (refine congrArg (fun b => T.v (Value.int _ b)) ?_; first | rfl | omega) | omega))
  · have he := encR_no (n3 := 0) (hr.trans (decide_eq_false hc))
    rw [if_neg hc] at hd
    rw [hd]
    replace he : encR 1 p n (gsR 1 [x]) [] [] (gsV 1 n [x]) (gsC 1 [x]) (gsN 1 n) = (0, [], 1) := he
    rw [he]
    conv => whnf
    repeat' (first | exact trivial | exact rfl | (refine And.intro ?_ ?_) | ((conv => whnf); done) | ((conv => whnf); (first | rfl | (refine congrArg (fun b => T.v (Value.bool b)) ?_; first | rfl | exact (decide_eq_true (by omega)).symm | exact (decide_eq_false (by omega)).symm | exact decide_eq_decide.2 (by omega)) | (refine congrArg (fun b => T.v (Value.int _ b)) ?_; first | rfl | omega) | omega)) | (first | rfl | (refine congrArg (fun b => T.v (Value.bool b)) ?_; first | rfl | exact (decide_eq_true (by omega)).symm | exact (decide_eq_false (by omega)).symm | exact decide_eq_decide.2 (by omega)) | (refine congrArg (fun b => T.v (Value.int _ b)) ?_; first | rfl | omega) | omega))
theorem gV_ok {ws : List Int} (h : okV (gV ws) = true) (hu : AllU ws) : gV ws = ws ∧ okV ws = true := by
  have h1 : ∀ x ∈ ws, x ≤ 8 := by
    intro x hx
    unfold okV at h
    rw [List.all_eq_true] at h
    have := h (if x ≤ 8 then x else 9) (List.mem_map.2 ⟨x, hx, rfl⟩)
    by_cases h8 : x ≤ 8
    · exact h8
    · rw [if_neg h8] at this; simp at this
  refine ⟨?_, ?_⟩
  · unfold gV
    conv => rhs; rw [← List.map_id ws]
    exact List.map_congr_left fun x hx => if_pos (h1 x hx)
  · unfold okV
    rw [List.all_eq_true]
    intro x hx
    have := (hu x hx).1
    have := h1 x hx
    simp; omega
theorem gV_same {ws : List Int} (h : okV ws = true) : gV ws = ws := by
  unfold gV
  conv => rhs; rw [← List.map_id ws]
  refine List.map_congr_left fun x hx => if_pos ?_
  unfold okV at h
  rw [List.all_eq_true] at h
  have := h x hx
  simp at this
  omega
theorem allU_votesW {n : Nat} {w : List Int} (h : AllU w) : AllU (votesW n w) := fun x hx => h x (List.mem_of_mem_drop (List.mem_of_mem_take hx))
set_option maxRecDepth 100000 in
theorem dec5_pure (p : Int) (n m : Nat) (w : List Int) (hf : fitsB 5 p n = true) (hx : AllU w) (hm : m = n + 9) : Pure Tryd.prog glR 53 [.agg [.v (.int .i64 5), .v (.int .i64 p), .v (.int .i64 n)], .fl [.u64] m w] (decT (decR 5 n w)) (SH [] [] (decR 5 n w).2.1) := by
  refine pure_wf fun hw => ?_
  obtain ⟨-, ⟨w1, w2⟩, -⟩ := hw
  simp only [List.length_cons, List.length_nil, Nat.zero_add, Nat.mul_one] at w1
  have hn := (fitsB_room hf).2.2.2.2
  have hh : (m : Int) = homeI 5 n := by unfold homeI; show (m : Int) = 9 + n; omega
  have hl : (votesW n w).length = n := votesW_len (by omega)
  have hr := right5_new (c := decide (w.getD 0 0 = 1)) hf ((gV_len (votesW n w)).trans hl)
  have hd : decR 5 n w = if rightB n w = true then (0, votesW n w, decide (w.getD 0 0 = 1), 0) else (0, [], false, 2) := by unfold decR; rw [if_pos (by rw [w1]; exact hh)]; rfl
  refine pure_of (C := ctxPlX Tryd.prog) ctxPlX_good Tryd.func53 (c := bodyOf Tryd.f53) (by rfl) (Nat.le_of_ble_eq_true (by rfl)) 4 0 [0, 1, 2, 4, 5, 6, 7, 8, 11, 17, 35] ?_
  conv => whnf
  repeat' (first | (refine ifB_t (by assumption) ?_; conv => whnf) | (refine ifB_f (by assumption) ?_; conv => whnf) | (refine ifB_dec (fun h => ?_) (fun h => ?_) <;> (first | (exfalso; omega) | (conv => whnf))) | (refine ifB_eq (fun h => ?_) (fun h => ?_) <;> (first | (exfalso; omega) | (conv => whnf))) | (refine ifB_ne (fun h => ?_) (fun h => ?_) <;> (first | (exfalso; omega) | (conv => whnf))) | (refine ifB_not ?_; conv => whnf) | (refine ifB_and ?_; conv => whnf) | (refine ifB_or ?_; conv => whnf) | (refine And.intro ?_ ?_; (first | omega | assumption | (exact allU_getD (by assumption) _) | (simp only [cutL]; omega) | (refine And.intro ?_ ?_ <;> first | assumption | exact allU_getD (by assumption) _) | (simp only [cutL, IntKind.wrap_u64, IntKind.wrap_i64] at *; omega) | decide); conv => whnf) | (refine ifB_mk (fun h => ?_) (fun h => ?_) <;> (conv => whnf)))
  refine And.intro ⟨.inr rfl, hh, hf, hx⟩ ?_
  conv => whnf
  refine And.intro ⟨by omega, by omega, (show n ≤ 1000 by omega), (show U64 0 from ⟨by omega, by omega⟩), .inr rfl, hf⟩ ?_
  conv => whnf
  cases ho : okV (gV (votesW n w))
  · have he := encR_no (n3 := n) (hr.trans ho)
    rw [if_neg (fun h => by rw [gV_same (okV_right hx h), okV_right hx h] at ho; cases ho)] at hd
    rw [hd]
    replace he : encR 5 p n (gsR 5 w) [] [] (gsV 5 n w) (gsC 5 w) (gsN 5 n) = (0, [], 1) := he
    rw [he]
    conv => whnf
    repeat' (first | exact trivial | exact rfl | (refine And.intro ?_ ?_) | ((conv => whnf); done) | ((conv => whnf); (first | rfl | (refine congrArg (fun b => T.v (Value.bool b)) ?_; first | rfl | exact (decide_eq_true (by omega)).symm | exact (decide_eq_false (by omega)).symm | exact decide_eq_decide.2 (by omega)) | (refine congrArg (fun b => T.v (Value.int _ b)) ?_; first | rfl | omega) | omega)) | (first | rfl | (refine congrArg (fun b => T.v (Value.bool b)) ?_; first | rfl | exact (decide_eq_true (by omega)).symm | exact (decide_eq_false (by omega)).symm | exact decide_eq_decide.2 (by omega)) | (refine congrArg (fun b => T.v (Value.int _ b)) ?_; first | rfl | omega) | omega))
  · obtain ⟨g1, g2⟩ := gV_ok ho (allU_votesW hx)
    have he := encR_yes (n3 := n) (hr.trans ho)
    rw [g1] at he
    replace he : encR 5 p n 0 [] [] (votesW n w) (decide (w.getD 0 0 = 1)) n = (1 + (n + 8), encB (votesW n w) (decide (w.getD 0 0 = 1)), 0) := he
    rw [show gsV 5 n w = votesW n w from g1, show encR 5 p n (gsR 5 w) [] [] (votesW n w) (gsC 5 w) (gsN 5 n) = _ from he]
    conv => whnf
    by_cases hq : encB (votesW n w) (decide (w.getD 0 0 = 1)) = w
    · have hb : rightB n w = true := by rw [← hq]; exact rightB_enc _ hl g2
      rw [if_pos hb] at hd
      rw [hd]
      refine ifB_f (show (bif false then true else !decide (encB (votesW n w) (decide (w.getD 0 0 = 1)) = w)) = false by rw [decide_eq_true hq]; rfl) ?_
      conv => whnf
      repeat' (first | exact trivial | exact rfl | (refine And.intro ?_ ?_) | ((conv => whnf); done) | ((conv => whnf); (first | rfl | (refine congrArg (fun b => T.v (Value.bool b)) ?_; first | rfl | exact (decide_eq_true (by omega)).symm | exact (decide_eq_false (by omega)).symm | exact decide_eq_decide.2 (by omega)) | (refine congrArg (fun b => T.v (Value.int _ b)) ?_; first | rfl | omega) | omega)) | (first | rfl | (refine congrArg (fun b => T.v (Value.bool b)) ?_; first | rfl | exact (decide_eq_true (by omega)).symm | exact (decide_eq_false (by omega)).symm | exact decide_eq_decide.2 (by omega)) | (refine congrArg (fun b => T.v (Value.int _ b)) ?_; first | rfl | omega) | omega))
      conv => whnf
      exact hl.symm
    · rw [if_neg (fun h => hq (enc_of_right (by omega) hx h))] at hd
      rw [hd]
      refine ifB_t (show (bif false then true else !decide (encB (votesW n w) (decide (w.getD 0 0 = 1)) = w)) = true by rw [decide_eq_false hq]; rfl) ?_
      conv => whnf
      repeat' (first | exact trivial | exact rfl | (refine And.intro ?_ ?_) | ((conv => whnf); done) | ((conv => whnf); (first | rfl | (refine congrArg (fun b => T.v (Value.bool b)) ?_; first | rfl | exact (decide_eq_true (by omega)).symm | exact (decide_eq_false (by omega)).symm | exact decide_eq_decide.2 (by omega)) | (refine congrArg (fun b => T.v (Value.int _ b)) ?_; first | rfl | omega) | omega)) | (first | rfl | (refine congrArg (fun b => T.v (Value.bool b)) ?_; first | rfl | exact (decide_eq_true (by omega)).symm | exact (decide_eq_false (by omega)).symm | exact decide_eq_decide.2 (by omega)) | (refine congrArg (fun b => T.v (Value.int _ b)) ?_; first | rfl | omega) | omega))
theorem decR_len {k n : Int} {w : List Int} (h : (w.length : Int) ≠ homeI k n) : decR k n w = (0, [], false, 2) := by unfold decR; exact if_neg h
theorem dec_pure {k p n : Int} {m : Nat} {w : List Int} (hk : k = 1 ∨ k = 5) (hf : fitsB k p n = true) (hx : AllU w) : Pure Tryd.prog glR 53 [.agg [.v (.int .i64 k), .v (.int .i64 p), .v (.int .i64 n)], .fl [.u64] m w] (decT (decR k n w)) (SH [] [] (decR k n w).2.1) := by
  refine pure_wf fun hw => ?_
  obtain ⟨-, ⟨w1, w2⟩, -⟩ := hw
  simp only [List.length_cons, List.length_nil, Nat.zero_add, Nat.mul_one] at w1
  have hr := fitsB_room hf
  by_cases hm : (m : Int) = homeI k n
  · unfold homeI at hm
    rcases hk with rfl | rfl
    · have hm : (m : Int) = 1 := hm
      obtain ⟨x, rfl⟩ := List.length_eq_one_iff.1 (show w.length = 1 by omega)
      obtain rfl : m = 1 := by omega
      exact dec1_pure _ _ _ hf (hx x (List.mem_cons_self ..))
    · have hm : (m : Int) = 9 + n := hm
      obtain ⟨n0, rfl⟩ := Int.eq_ofNat_of_zero_le (a := n) (by omega)
      exact dec5_pure _ _ _ _ hf hx (by omega)
  · rw [decR_len (by rw [w1]; exact hm)]
    exact decL_pure _ _ _ _ _ hf hm
def eDec : Entry := ⟨53, 4, fun l => match l with | [.agg [.v (.int .i64 k), .v (.int .i64 p), .v (.int .i64 n)], .fl [.u64] m w] => some (some ((k = 1 ∨ k = 5) ∧ fitsB k p n = true ∧ AllU w), decT (decR k n w), SH [] [] (decR k n w).2.1) | _ => none⟩
theorem eDec_ok : eDec.ok Tryd.prog glR := ⟨enters_of Tryd.func53 (by kernel_rfl) (by kernel_rfl), by
  intro args c t bs h hc
  simp only [eDec] at h
  split at h <;> cases h
  replace hc := hc _ rfl
  exact dec_pure hc.1 hc.2.1 hc.2.2⟩
end Go.Proofs.YtlcpcgdecodjfaaDoor
namespace Go.Proofs.YtlcpcgdecodjfaaDoor
open Go.RowKit Go.Proofs.YtlcpcgdecodjfaaDoor.Am
set_option linter.unusedVariables false
set_option linter.unusedSimpArgs false

noncomputable def ctxPlY (P : Program) : Ctx := ctx P glR [eRFits, eDec, eDo9, eEncA] [] (noEq P) [] (fun _ h => by cases h)
theorem ctxPlY_good : (ctxPlY Tryd.prog).good := ctx_good (by kernel_rfl) (AllOk.mem ⟨eRFits_ok, eDec_ok, eDo9_ok, eEncA_ok, trivial⟩) glR_two
attribute [local irreducible] fitsB encR homeI decR regDo balR
set_option maxRecDepth 100000 in
theorem rapplyF_pure (k p n : Int) (m : Nat) (w : List Int) (code key v : Int) (hf : fitsB k p n = false) : Pure Tryd.prog glR 25 (applyArgs k p n m w code key v) (applyT ([], 0, 0, 5)) (applyB ([], 0, 0, 5)) := by
  refine pure_of (C := ctxPlY Tryd.prog) ctxPlY_good Tryd.func25 (c := bodyOf Tryd.f25) (by rfl) (Nat.le_of_ble_eq_true (by rfl)) 4 0 [0, 1, 2, 3, 5, 6, 7, 8, 9, 10, 11, 12, 14, 28, 37] ?_
  conv => whnf
  repeat' (first | (refine ifB_t (by assumption) ?_; conv => whnf) | (refine ifB_f (by assumption) ?_; conv => whnf) | (refine ifB_dec (fun h => ?_) (fun h => ?_) <;> (first | (exfalso; omega) | (conv => whnf))) | (refine ifB_eq (fun h => ?_) (fun h => ?_) <;> (first | (exfalso; omega) | (conv => whnf))) | (refine ifB_ne (fun h => ?_) (fun h => ?_) <;> (first | (exfalso; omega) | (conv => whnf))) | (refine ifB_not ?_; conv => whnf) | (refine ifB_and ?_; conv => whnf) | (refine ifB_or ?_; conv => whnf) | (refine And.intro ?_ ?_; (first | omega | assumption | (exact allU_getD (by assumption) _) | (simp only [cutL]; omega) | (refine And.intro ?_ ?_ <;> first | assumption | exact allU_getD (by assumption) _) | (simp only [cutL, IntKind.wrap_u64, IntKind.wrap_i64] at *; omega) | decide); conv => whnf) | (refine ifB_mk (fun h => ?_) (fun h => ?_) <;> (conv => whnf)))
  repeat' (first | exact trivial | exact rfl | (refine And.intro ?_ ?_) | ((conv => whnf); done) | ((conv => whnf); (first | rfl | (refine congrArg (fun b => T.v (Value.bool b)) ?_; first | rfl | exact (decide_eq_true (by omega)).symm | exact (decide_eq_false (by omega)).symm | exact decide_eq_decide.2 (by omega)) | (refine congrArg (fun b => T.v (Value.int _ b)) ?_; first | rfl | omega) | omega)) | (first | rfl | (refine congrArg (fun b => T.v (Value.bool b)) ?_; first | rfl | exact (decide_eq_true (by omega)).symm | exact (decide_eq_false (by omega)).symm | exact decide_eq_decide.2 (by omega)) | (refine congrArg (fun b => T.v (Value.int _ b)) ?_; first | rfl | omega) | omega))
set_option maxRecDepth 100000 in
theorem rapplyN_pure (k p n : Int) (m : Nat) (w : List Int) (code key v : Int) (hf : fitsB k p n = true) (h1 : k ≠ 1) (h2 : k ≠ 5) : Pure Tryd.prog glR 25 (applyArgs k p n m w code key v) (applyT ([], 0, 0, 5)) (applyB ([], 0, 0, 5)) := by
  refine pure_of (C := ctxPlY Tryd.prog) ctxPlY_good Tryd.func25 (c := bodyOf Tryd.f25) (by rfl) (Nat.le_of_ble_eq_true (by rfl)) 4 0 [0, 1, 2, 3, 5, 6, 7, 8, 9, 10, 11, 12, 14, 28, 37] ?_
  conv => whnf
  repeat' (first | (refine ifB_t (by assumption) ?_; conv => whnf) | (refine ifB_f (by assumption) ?_; conv => whnf) | (refine ifB_dec (fun h => ?_) (fun h => ?_) <;> (first | (exfalso; omega) | (conv => whnf))) | (refine ifB_eq (fun h => ?_) (fun h => ?_) <;> (first | (exfalso; omega) | (conv => whnf))) | (refine ifB_ne (fun h => ?_) (fun h => ?_) <;> (first | (exfalso; omega) | (conv => whnf))) | (refine ifB_not ?_; conv => whnf) | (refine ifB_and ?_; conv => whnf) | (refine ifB_or ?_; conv => whnf) | (refine And.intro ?_ ?_; (first | omega | assumption | (exact allU_getD (by assumption) _) | (simp only [cutL]; omega) | (refine And.intro ?_ ?_ <;> first | assumption | exact allU_getD (by assumption) _) | (simp only [cutL, IntKind.wrap_u64, IntKind.wrap_i64] at *; omega) | decide); conv => whnf) | (refine ifB_mk (fun h => ?_) (fun h => ?_) <;> (conv => whnf)))
  all_goals repeat' (first | exact trivial | exact rfl | (refine And.intro ?_ ?_) | ((conv => whnf); done) | ((conv => whnf); (first | rfl | (refine congrArg (fun b => T.v (Value.bool b)) ?_; first | rfl | exact (decide_eq_true (by omega)).symm | exact (decide_eq_false (by omega)).symm | exact decide_eq_decide.2 (by omega)) | (refine congrArg (fun b => T.v (Value.int _ b)) ?_; first | rfl | omega) | omega)) | (first | rfl | (refine congrArg (fun b => T.v (Value.bool b)) ?_; first | rfl | exact (decide_eq_true (by omega)).symm | exact (decide_eq_false (by omega)).symm | exact decide_eq_decide.2 (by omega)) | (refine congrArg (fun b => T.v (Value.int _ b)) ?_; first | rfl | omega) | omega))
set_option maxRecDepth 100000 in
theorem rapplyE_pure (k p n : Int) (m : Nat) (w : List Int) (code key v : Int) (hf : fitsB k p n = true) (hk : k = 1 ∨ k = 5) (hx : AllU w) (hd : decR k n w = (0, [], false, 2)) : Pure Tryd.prog glR 25 (applyArgs k p n m w code key v) (applyT ([], 0, 0, 2)) (applyB ([], 0, 0, 2)) := by
  refine pure_of (C := ctxPlY Tryd.prog) ctxPlY_good Tryd.func25 (c := bodyOf Tryd.f25) (by rfl) (Nat.le_of_ble_eq_true (by rfl)) 4 0 [0, 1, 2, 3, 5, 6, 7, 8, 9, 10, 11, 12, 14, 28, 37] ?_
  rcases hk with rfl | rfl
  · conv => whnf
    repeat' (first | (refine ifB_t (by assumption) ?_; conv => whnf) | (refine ifB_f (by assumption) ?_; conv => whnf) | (refine ifB_dec (fun h => ?_) (fun h => ?_) <;> (first | (exfalso; omega) | (conv => whnf))) | (refine ifB_eq (fun h => ?_) (fun h => ?_) <;> (first | (exfalso; omega) | (conv => whnf))) | (refine ifB_ne (fun h => ?_) (fun h => ?_) <;> (first | (exfalso; omega) | (conv => whnf))) | (refine ifB_not ?_; conv => whnf) | (refine ifB_and ?_; conv => whnf) | (refine ifB_or ?_; conv => whnf) | (refine And.intro ?_ ?_; (first | omega | assumption | (exact allU_getD (by assumption) _) | (simp only [cutL]; omega) | (refine And.intro ?_ ?_ <;> first | assumption | exact allU_getD (by assumption) _) | (simp only [cutL, IntKind.wrap_u64, IntKind.wrap_i64] at *; omega) | decide); conv => whnf) | (refine ifB_mk (fun h => ?_) (fun h => ?_) <;> (conv => whnf)))
    refine And.intro ⟨.inl rfl, hf, hx⟩ ?_
    conv => whnf
    rw [hd]
    conv => whnf
    repeat' (first | exact trivial | exact rfl | (refine And.intro ?_ ?_) | ((conv => whnf); done) | ((conv => whnf); (first | rfl | (refine congrArg (fun b => T.v (Value.bool b)) ?_; first | rfl | exact (decide_eq_true (by omega)).symm | exact (decide_eq_false (by omega)).symm | exact decide_eq_decide.2 (by omega)) | (refine congrArg (fun b => T.v (Value.int _ b)) ?_; first | rfl | omega) | omega)) | (first | rfl | (refine congrArg (fun b => T.v (Value.bool b)) ?_; first | rfl | exact (decide_eq_true (by omega)).symm | exact (decide_eq_false (by omega)).symm | exact decide_eq_decide.2 (by omega)) | (refine congrArg (fun b => T.v (Value.int _ b)) ?_; first | rfl | omega) | omega))
  · conv => whnf
    repeat' (first | (refine ifB_t (by assumption) ?_; conv => whnf) | (refine ifB_f (by assumption) ?_; conv => whnf) | (refine ifB_dec (fun h => ?_) (fun h => ?_) <;> (first | (exfalso; omega) | (conv => whnf))) | (refine ifB_eq (fun h => ?_) (fun h => ?_) <;> (first | (exfalso; omega) | (conv => whnf))) | (refine ifB_ne (fun h => ?_) (fun h => ?_) <;> (first | (exfalso; omega) | (conv => whnf))) | (refine ifB_not ?_; conv => whnf) | (refine ifB_and ?_; conv => whnf) | (refine ifB_or ?_; conv => whnf) | (refine And.intro ?_ ?_; (first | omega | assumption | (exact allU_getD (by assumption) _) | (simp only [cutL]; omega) | (refine And.intro ?_ ?_ <;> first | assumption | exact allU_getD (by assumption) _) | (simp only [cutL, IntKind.wrap_u64, IntKind.wrap_i64] at *; omega) | decide); conv => whnf) | (refine ifB_mk (fun h => ?_) (fun h => ?_) <;> (conv => whnf)))
    refine And.intro ⟨.inr rfl, hf, hx⟩ ?_
    conv => whnf
    rw [hd]
    conv => whnf
    repeat' (first | exact trivial | exact rfl | (refine And.intro ?_ ?_) | ((conv => whnf); done) | ((conv => whnf); (first | rfl | (refine congrArg (fun b => T.v (Value.bool b)) ?_; first | rfl | exact (decide_eq_true (by omega)).symm | exact (decide_eq_false (by omega)).symm | exact decide_eq_decide.2 (by omega)) | (refine congrArg (fun b => T.v (Value.int _ b)) ?_; first | rfl | omega) | omega)) | (first | rfl | (refine congrArg (fun b => T.v (Value.bool b)) ?_; first | rfl | exact (decide_eq_true (by omega)).symm | exact (decide_eq_false (by omega)).symm | exact decide_eq_decide.2 (by omega)) | (refine congrArg (fun b => T.v (Value.int _ b)) ?_; first | rfl | omega) | omega))
set_option maxRecDepth 100000 in
theorem rapply1_pure (p n x code key v : Int) (hf : fitsB 1 p n = true) (hx : U64 x) (hc : iCanon x = x) (hk : U64 key) (hv : U64 v) : Pure Tryd.prog glR 25 (applyArgs 1 p n 1 [x] code key v) (applyT ((regDo x code v).1, (regDo x code v).2.1, (regDo x code v).2.2, 0)) (applyB ((regDo x code v).1, (regDo x code v).2.1, (regDo x code v).2.2, 0)) := by
  have hd : decR 1 n [x] = (x, [], false, 0) := by unfold decR; rw [if_pos (show (([x] : List Int).length : Int) = homeI 1 n by unfold homeI; rfl)]; exact if_pos hc
  have hxs : AllU [x] := by intro y hy; cases hy with | head => exact hx | tail _ h => cases h
  obtain ⟨y, g1, g2, g3⟩ := regDo_ok (code := code) hx hv hc
  obtain ⟨e, t, hq⟩ : ∃ e t, regDo x code v = ([y], e, t) := ⟨(regDo x code v).2.1, (regDo x code v).2.2, Prod.ext g1 rfl⟩
  rw [hq]
  refine pure_of (C := ctxPlY Tryd.prog) ctxPlY_good Tryd.func25 (c := bodyOf Tryd.f25) (by rfl) (Nat.le_of_ble_eq_true (by rfl)) 4 0 [0, 1, 2, 3, 5, 6, 7, 8, 9, 10, 11, 12, 14, 28, 37] ?_
  conv => whnf
  repeat' (first | (refine ifB_t (by assumption) ?_; conv => whnf) | (refine ifB_f (by assumption) ?_; conv => whnf) | (refine ifB_dec (fun h => ?_) (fun h => ?_) <;> (first | (exfalso; omega) | (conv => whnf))) | (refine ifB_eq (fun h => ?_) (fun h => ?_) <;> (first | (exfalso; omega) | (conv => whnf))) | (refine ifB_ne (fun h => ?_) (fun h => ?_) <;> (first | (exfalso; omega) | (conv => whnf))) | (refine ifB_not ?_; conv => whnf) | (refine ifB_and ?_; conv => whnf) | (refine ifB_or ?_; conv => whnf) | (refine And.intro ?_ ?_; (first | omega | assumption | (exact allU_getD (by assumption) _) | (simp only [cutL]; omega) | (refine And.intro ?_ ?_ <;> first | assumption | exact allU_getD (by assumption) _) | (simp only [cutL, IntKind.wrap_u64, IntKind.wrap_i64] at *; omega) | decide); conv => whnf) | (refine ifB_mk (fun h => ?_) (fun h => ?_) <;> (conv => whnf)))
  refine And.intro ⟨.inl rfl, hf, hxs⟩ ?_
  conv => whnf
  rw [hd]
  conv => whnf
  refine And.intro ⟨rfl, rfl, rfl, rfl, hk, hv, .inl ⟨rfl, hf, rfl, rfl, rfl, hx, hc⟩⟩ ?_
  conv => whnf
  rw [hq]
  conv => whnf
  refine And.intro ⟨by omega, by omega, (show (0 : Nat) ≤ 1000 by omega), g2, .inl rfl, hf⟩ ?_
  conv => whnf
  rw [show ([y], e, t).1.getD 0 0 = y from rfl, encR_yes ((right1_new hf).trans (decide_eq_true g3))]
  conv => whnf
  repeat' (first | exact trivial | exact rfl | (refine And.intro ?_ ?_) | ((conv => whnf); done) | ((conv => whnf); (first | rfl | (refine congrArg (fun b => T.v (Value.bool b)) ?_; first | rfl | exact (decide_eq_true (by omega)).symm | exact (decide_eq_false (by omega)).symm | exact decide_eq_decide.2 (by omega)) | (refine congrArg (fun b => T.v (Value.int _ b)) ?_; first | rfl | omega) | omega)) | (first | rfl | (refine congrArg (fun b => T.v (Value.bool b)) ?_; first | rfl | exact (decide_eq_true (by omega)).symm | exact (decide_eq_false (by omega)).symm | exact decide_eq_decide.2 (by omega)) | (refine congrArg (fun b => T.v (Value.int _ b)) ?_; first | rfl | omega) | omega))
set_option maxRecDepth 100000 in
theorem rapply5_pure (p : Int) (n m : Nat) (w : List Int) (code key v : Int) (hf : fitsB 5 p n = true) (hx : AllU w) (hm : m = n + 9) (hr : rightB n w = true) (hk : U64 key) (hv : U64 v) : Pure Tryd.prog glR 25 (applyArgs 5 p n m w code key v) (applyT ((balDo n w code key v).1, (balDo n w code key v).2.1, (balDo n w code key v).2.2, 0)) (applyB ((balDo n w code key v).1, (balDo n w code key v).2.1, (balDo n w code key v).2.2, 0)) := by
  refine pure_wf fun hw => ?_
  obtain ⟨-, ⟨w1, w2⟩, -⟩ := hw
  simp only [List.length_cons, List.length_nil, Nat.zero_add, Nat.mul_one] at w1
  have hn := (fitsB_room hf).2.2.2.2
  have hl : (votesW n w).length = n := votesW_len (by omega)
  have ho := okV_right hx hr
  obtain ⟨ws, c, e, t, hq⟩ : ∃ ws c e t, balR (votesW n w) (decide (w.getD 0 0 = 1)) code key v = (ws, c, e, t) := ⟨_, _, _, _, rfl⟩
  obtain ⟨o1, o2⟩ := balR_ok (c := decide (w.getD 0 0 = 1)) (code := code) (key := key) (v := v) ho hk
  rw [hq] at o1 o2
  replace o2 : ws.length = n := o2.trans hl
  have hB := balDo_enc (c := decide (w.getD 0 0 = 1)) (code := code) (key := key) (v := v) (by omega) hl hk hv
  rw [enc_of_right (by omega) hx hr, hq] at hB
  rw [hB]
  have hd : decR 5 n w = (0, votesW n w, decide (w.getD 0 0 = 1), 0) := by unfold decR; rw [if_pos (show (w.length : Int) = homeI 5 n by unfold homeI; show (w.length : Int) = 9 + n; omega)]; exact if_pos hr
  refine pure_of (C := ctxPlY Tryd.prog) ctxPlY_good Tryd.func25 (c := bodyOf Tryd.f25) (by rfl) (Nat.le_of_ble_eq_true (by rfl)) 4 0 [0, 1, 2, 3, 5, 6, 7, 8, 9, 10, 11, 12, 14, 28, 37] ?_
  conv => whnf
  repeat' (first | (refine ifB_t (by assumption) ?_; conv => whnf) | (refine ifB_f (by assumption) ?_; conv => whnf) | (refine ifB_dec (fun h => ?_) (fun h => ?_) <;> (first | (exfalso; omega) | (conv => whnf))) | (refine ifB_eq (fun h => ?_) (fun h => ?_) <;> (first | (exfalso; omega) | (conv => whnf))) | (refine ifB_ne (fun h => ?_) (fun h => ?_) <;> (first | (exfalso; omega) | (conv => whnf))) | (refine ifB_not ?_; conv => whnf) | (refine ifB_and ?_; conv => whnf) | (refine ifB_or ?_; conv => whnf) | (refine And.intro ?_ ?_; (first | omega | assumption | (exact allU_getD (by assumption) _) | (simp only [cutL]; omega) | (refine And.intro ?_ ?_ <;> first | assumption | exact allU_getD (by assumption) _) | (simp only [cutL, IntKind.wrap_u64, IntKind.wrap_i64] at *; omega) | decide); conv => whnf) | (refine ifB_mk (fun h => ?_) (fun h => ?_) <;> (conv => whnf)))
  refine And.intro ⟨.inr rfl, hf, hx⟩ ?_
  conv => whnf
  rw [hd]
  conv => whnf
  refine And.intro ⟨rfl, rfl, rfl, rfl, hk, hv, .inr ⟨rfl, rfl, n, rfl, hf, hl, hl, ho⟩⟩ ?_
  conv => whnf
  rw [hq]
  conv => whnf
  refine And.intro ⟨by omega, by omega, (show (votesW n w).length ≤ 1000 by omega), (show U64 0 from ⟨by omega, by omega⟩), .inr rfl, hf⟩ ?_
  conv => whnf
  rw [encR_yes (show rightK 5 p n 0 [] [] (ws, c, e, t).1 (ws, c, e, t).2.1 = true from (right5_new hf o2).trans o1)]
  conv => whnf
  repeat' (first | exact trivial | exact rfl | (refine And.intro ?_ ?_) | ((conv => whnf); done) | ((conv => whnf); (first | rfl | (refine congrArg (fun b => T.v (Value.bool b)) ?_; first | rfl | exact (decide_eq_true (by omega)).symm | exact (decide_eq_false (by omega)).symm | exact decide_eq_decide.2 (by omega)) | (refine congrArg (fun b => T.v (Value.int _ b)) ?_; first | rfl | omega) | omega)) | (first | rfl | (refine congrArg (fun b => T.v (Value.bool b)) ?_; first | rfl | exact (decide_eq_true (by omega)).symm | exact (decide_eq_false (by omega)).symm | exact decide_eq_decide.2 (by omega)) | (refine congrArg (fun b => T.v (Value.int _ b)) ?_; first | rfl | omega) | omega))
  conv => whnf
  show 1 + ((votesW n w).length + 8) = (encB ws c).length
  rw [encB_len]; omega
theorem applyS_fit {k p n : Int} {w : List Int} {code key v : Int} (hf : fitsB k p n = true) (hk : k = 1 ∨ k = 5) (hl : (w.length : Int) ≠ homeI k n) : applyS k p n w code key v = ([], 0, 0, 2) := by
  unfold applyS; rw [if_pos ⟨hf, hk⟩, if_neg hl]
theorem rapply_pure (k p n : Int) (m : Nat) (w : List Int) (code key v : Int) (hx : AllU w) (hk : U64 key) (hv : U64 v) : Pure Tryd.prog glR 25 (applyArgs k p n m w code key v) (applyT (applyS k p n w code key v)) (applyB (applyS k p n w code key v)) := by
  refine pure_wf fun hw => ?_
  obtain ⟨-, ⟨w1, w2⟩, -⟩ := hw
  simp only [List.length_cons, List.length_nil, Nat.zero_add, Nat.mul_one] at w1
  cases hf : fitsB k p n
  · have e : applyS k p n w code key v = ([], 0, 0, 5) := by simp [applyS, hf]
    rw [e]; exact rapplyF_pure _ _ _ _ _ _ _ _ hf
  by_cases h15 : k = 1 ∨ k = 5
  · by_cases hm : (w.length : Int) = homeI k n
    · have hm' := hm
      unfold homeI at hm'
      rcases h15 with rfl | rfl
      · have hm1 : (w.length : Int) = 1 := hm'
        obtain ⟨x, rfl⟩ := List.length_eq_one_iff.1 (show w.length = 1 by omega)
        have : m = 1 := by rw [← w1]; rfl
        subst this
        by_cases hc : iCanon x = x
        · have e : applyS 1 p n [x] code key v = ((regDo x code v).1, (regDo x code v).2.1, (regDo x code v).2.2, 0) := by
            unfold applyS; rw [if_pos ⟨hf, .inl rfl⟩, if_pos hm, if_pos rfl]; exact if_pos hc
          rw [e]; exact rapply1_pure _ _ _ _ _ _ hf (hx x (List.mem_cons_self ..)) hc hk hv
        · have e : applyS 1 p n [x] code key v = ([], 0, 0, 2) := by
            unfold applyS; rw [if_pos ⟨hf, .inl rfl⟩, if_pos hm, if_pos rfl]; exact if_neg hc
          rw [e]; exact rapplyE_pure _ _ _ _ _ _ _ _ hf (.inl rfl) hx (by unfold decR; rw [if_pos hm, if_pos rfl]; exact if_neg hc)
      · have hn := (fitsB_room hf).2.2.2.2
        have hm1 : (w.length : Int) = 9 + n := hm'
        obtain ⟨n0, rfl⟩ := Int.eq_ofNat_of_zero_le (a := n) (by omega)
        by_cases hr : rightB n0 w = true
        · have e : applyS 5 p n0 w code key v = ((balDo n0 w code key v).1, (balDo n0 w code key v).2.1, (balDo n0 w code key v).2.2, 0) := by
            unfold applyS; rw [if_pos ⟨hf, .inr rfl⟩, if_pos hm, if_neg (by omega)]; exact if_pos hr
          rw [e]; exact rapply5_pure _ _ _ _ _ _ _ hf hx (by omega) hr hk hv
        · have e : applyS 5 p n0 w code key v = ([], 0, 0, 2) := by
            unfold applyS; rw [if_pos ⟨hf, .inr rfl⟩, if_pos hm, if_neg (by omega)]; exact if_neg hr
          rw [e]; exact rapplyE_pure _ _ _ _ _ _ _ _ hf (.inr rfl) hx (by unfold decR; rw [if_pos hm, if_neg (by omega)]; exact if_neg hr)
    · rw [applyS_fit hf h15 hm]; exact rapplyE_pure _ _ _ _ _ _ _ _ hf h15 hx (decR_len hm)
  · have e : applyS k p n w code key v = ([], 0, 0, 5) := by unfold applyS; rw [if_neg (fun h => h15 h.2)]
    rw [e]; exact rapplyN_pure _ _ _ _ _ _ _ _ hf (fun h => h15 (.inl h)) (fun h => h15 (.inr h))
def eRApply : Entry := ⟨25, 3, fun l => match l with | [.agg [.v (.int .i64 k), .v (.int .i64 p), .v (.int .i64 n)], .fl [.u64] m w, .agg [.v (.int .i64 code), .v (.int .u64 key), .v (.int .u64 v)]] => some (some (AllU w ∧ U64 key ∧ U64 v), applyT (applyS k p n w code key v), applyB (applyS k p n w code key v)) | _ => none⟩
theorem eRApply_ok : eRApply.ok Tryd.prog glR := ⟨enters_of Tryd.func25 (by kernel_rfl) (by kernel_rfl), by
  intro args c t bs h hc
  simp only [eRApply] at h
  split at h <;> cases h
  replace hc := hc _ rfl
  exact rapply_pure _ _ _ _ _ _ _ _ hc.1 hc.2.1 hc.2.2⟩
end Go.Proofs.YtlcpcgdecodjfaaDoor
