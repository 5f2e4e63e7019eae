/- plain: what values make of a register; law14's small functions. -/
import Derived.Test.YtlcpcgdecodjfaaDoorPlD
namespace Go.Proofs.YtlcpcgdecodjfaaDoor
open Go.RowKit Go.Proofs.YtlcpcgdecodjfaaDoor.Am
set_option linter.unusedVariables false
set_option linter.unusedSimpArgs false

theorem map_snoc {f : Int → Int} (xs : List Int) (j : Nat) (hj : j < xs.length) : (xs.take j).map f ++ [f (xs.getD j 0)] = (xs.take (j + 1)).map f := by
  rw [take_snoc hj, List.map_append]; rfl
def chs (c : Int) (xs : List Int) : List Int := (xs.take c.toNat).map (fun x => ipick x 9)
noncomputable def ctxPlE (P : Program) : Ctx := ctx P glR [ePick14] [] (noEq P) [] (fun _ h => by cases h)
theorem ctxPlE_good : (ctxPlE Tryd.prog).good := ctx_good (by kernel_rfl) (AllOk.mem ⟨ePick14_ok, trivial⟩) glR_two
set_option maxRecDepth 100000 in
theorem box_pure (c : Int) (hc : I64 c) : Pure Tryd.prog glR 17 [.v (.int .i64 c)] (.agg [.v (.int .i64 5), .v (.int .i64 1), .v (.int .i64 (1 + ipick c 12))]) := by
  obtain ⟨b1, b2⟩ := ipick_bounds c (n := 12) (by omega)
  have hw : IntKind.i64.wrap (1 + ipick c 12) = 1 + ipick c 12 := wrap64 (by omega) (by omega)
  refine pure_of (C := ctxPlE Tryd.prog) ctxPlE_good Tryd.func17 (c := bodyOf Tryd.f17) (by rfl) (Nat.le_of_ble_eq_true (by rfl)) 4 0 [0, 2] ?_
  conv => whnf
  refine And.intro ⟨hc, by omega, by omega⟩ ?_
  conv => whnf
  rw [hw]
  repeat' (first | exact trivial | exact rfl | (refine And.intro ?_ ?_) | ((conv => whnf); done) | ((conv => whnf); (first | rfl | (refine congrArg (fun b => T.v (Value.bool b)) ?_; first | rfl | exact (decide_eq_true (by omega)).symm | exact (decide_eq_false (by omega)).symm | exact decide_eq_decide.2 (by omega)) | (refine congrArg (fun b => T.v (Value.int _ b)) ?_; first | rfl | omega) | omega)) | (first | rfl | (refine congrArg (fun b => T.v (Value.bool b)) ?_; first | rfl | exact (decide_eq_true (by omega)).symm | exact (decide_eq_false (by omega)).symm | exact decide_eq_decide.2 (by omega)) | (refine congrArg (fun b => T.v (Value.int _ b)) ?_; first | rfl | omega) | omega))
def eBox : Entry := ⟨17, 3, fun l => match l with | [.v (.int .i64 c)] => some (some (I64 c), .agg [.v (.int .i64 5), .v (.int .i64 1), .v (.int .i64 (1 + ipick c 12))], []) | _ => none⟩
theorem eBox_ok : eBox.ok Tryd.prog glR := ⟨enters_of Tryd.func17 (by kernel_rfl) (by kernel_rfl), by
  intro args c t bs h hc
  simp only [eBox] at h
  split at h <;> cases h
  replace hc := hc _ rfl
  exact box_pure _ hc⟩
set_option maxRecDepth 100000 in
theorem choices_pure (k p c : Int) (hc : 0 ≤ c ∧ c ≤ 256) (n : Nat) (xs : List Int) (hx : AllI xs) : Pure Tryd.prog glR 16 [.agg [.v (.int .i64 k), .v (.int .i64 p), .v (.int .i64 c)], .fl [.i64] n xs] (.ow 0 1 (min n c.toNat)) [(0, .fl [.i64] (chs c xs))] := by
  refine pure_wf fun hw => ?_
  obtain ⟨-, ⟨w1, w2⟩, -⟩ := hw
  simp only [List.length_cons, List.length_nil, Nat.zero_add, Nat.mul_one] at w1
  refine pure_of (C := ctxPlE Tryd.prog) ctxPlE_good Tryd.func16 (c := bodyOf Tryd.f16) (by rfl) (Nat.le_of_ble_eq_true (by rfl)) 4 0 [0, 1, 2, 4, 5, 6, 16] ?_
  conv => whnf
  refine TW.nilOwn 5 5000 1 (.fl [.i64] []) rfl rfl (.inr ⟨_, _, rfl⟩) (by decide) ?_
  refine TW.loopD ctxPlE_good 0 (base := 0) (lv := [0, 1, 2, 4, 5, 6, 16]) [5, 6] [5000] [(5000, 5000)] (fun j : Nat => [.ow 5000 1 j, .v (.int .i64 j)]) (fun j => [.fl [.i64] ((xs.take j).map (fun x => ipick x 9))]) (fun j => j ≤ n ∧ (j : Int) ≤ c) (fun j => n - j) ?_
  conv => whnf
  refine ⟨⟨0, ⟨rfl, rfl, rfl⟩, by omega, by omega⟩, fun j ⟨hj, ht⟩ => ?_⟩
  conv => whnf
  refine ifB_dec (fun h => ?_) (fun h => ?_)
  · conv => whnf
    refine ifB_dec (fun h2 => ?_) (fun h2 => ?_)
    · conv => whnf
      have e : xs.getD (0 + (j : Int).toNat * (0 + 1)) 0 = xs.getD j 0 := by simp
      refine And.intro (by omega) ?_
      conv => whnf
      rw [e]
      refine And.intro ⟨hx.at (by omega), by omega, by omega⟩ ?_
      conv => whnf
      repeat' (first | (refine ifB_t (by assumption) ?_; conv => whnf) | (refine ifB_f (by assumption) ?_; conv => whnf) | (refine ifB_dec (fun h => ?_) (fun h => ?_) <;> (first | (exfalso; omega) | (conv => whnf))) | (refine ifB_eq (fun h => ?_) (fun h => ?_) <;> (first | (exfalso; omega) | (conv => whnf))) | (refine ifB_ne (fun h => ?_) (fun h => ?_) <;> (first | (exfalso; omega) | (conv => whnf))) | (refine ifB_not ?_; conv => whnf) | (refine ifB_and ?_; conv => whnf) | (refine ifB_or ?_; conv => whnf) | (refine And.intro ?_ ?_; (first | omega | assumption | (exact allU_getD (by assumption) _) | (simp only [cutL]; omega) | (refine And.intro ?_ ?_ <;> first | assumption | exact allU_getD (by assumption) _) | (simp only [cutL, IntKind.wrap_u64, IntKind.wrap_i64] at *; omega) | decide); conv => whnf) | (refine ifB_mk (fun h => ?_) (fun h => ?_) <;> (conv => whnf)))
      rw [wsucc (n := n) (by omega) w2]
      have em := map_snoc (f := fun x => ipick x 9) xs j (by omega)
      rw [em]
      exact ⟨j + 1, [(104, 5000)], ⟨rfl, rfl, rfl⟩, ⟨by omega, by omega⟩, by (try dsimp only); omega⟩
    · conv => whnf
      have e1 : c.toNat = j := by omega
      have e2 : min n c.toNat = j := by omega
      rw [chs, e2, e1]
      repeat' (first | exact trivial | exact rfl | (refine And.intro ?_ ?_) | ((conv => whnf); done) | ((conv => whnf); (first | rfl | (refine congrArg (fun b => T.v (Value.bool b)) ?_; first | rfl | exact (decide_eq_true (by omega)).symm | exact (decide_eq_false (by omega)).symm | exact decide_eq_decide.2 (by omega)) | (refine congrArg (fun b => T.v (Value.int _ b)) ?_; first | rfl | omega) | omega)) | (first | rfl | (refine congrArg (fun b => T.v (Value.bool b)) ?_; first | rfl | exact (decide_eq_true (by omega)).symm | exact (decide_eq_false (by omega)).symm | exact decide_eq_decide.2 (by omega)) | (refine congrArg (fun b => T.v (Value.int _ b)) ?_; first | rfl | omega) | omega))
  · conv => whnf
    have e2 : min n c.toNat = j := by omega
    rw [chs, e2, List.take_of_length_le (by omega), List.take_of_length_le (by omega)]
    repeat' (first | exact trivial | exact rfl | (refine And.intro ?_ ?_) | ((conv => whnf); done) | ((conv => whnf); (first | rfl | (refine congrArg (fun b => T.v (Value.bool b)) ?_; first | rfl | exact (decide_eq_true (by omega)).symm | exact (decide_eq_false (by omega)).symm | exact decide_eq_decide.2 (by omega)) | (refine congrArg (fun b => T.v (Value.int _ b)) ?_; first | rfl | omega) | omega)) | (first | rfl | (refine congrArg (fun b => T.v (Value.bool b)) ?_; first | rfl | exact (decide_eq_true (by omega)).symm | exact (decide_eq_false (by omega)).symm | exact decide_eq_decide.2 (by omega)) | (refine congrArg (fun b => T.v (Value.int _ b)) ?_; first | rfl | omega) | omega))
def eChoices : Entry := ⟨16, 3, fun l => match l with | [.agg [.v (.int .i64 k), .v (.int .i64 p), .v (.int .i64 c)], .fl [.i64] n xs] => some (some ((0 ≤ c ∧ c ≤ 256) ∧ AllI xs), .ow 0 1 (min n c.toNat), [(0, .fl [.i64] (chs c xs))]) | _ => none⟩
theorem eChoices_ok : eChoices.ok Tryd.prog glR := ⟨enters_of Tryd.func16 (by kernel_rfl) (by kernel_rfl), by
  intro args c t bs h hc
  simp only [eChoices] at h
  split at h <;> cases h
  replace hc := hc _ rfl
  exact choices_pure _ _ _ hc.1 _ _ hc.2⟩

/-! ### what values make of a register -/
def turnF (k x v : Int) : Int := if k = 2 then iCanon v else if k = 3 then iTop x v else iSum x v
def foldF (k : Int) (ys : List Int) : Int := ys.foldl (turnF k) 0
theorem u64_turnF {k x v : Int} (hx : U64 x) (hv : U64 v) : U64 (turnF k x v) := by
  unfold turnF
  split
  · exact u64_canon hv
  · split
    · exact u64_top hx hv
    · exact u64_sum hx hv
theorem foldF_snoc (k : Int) (ys : List Int) (v : Int) : foldF k (ys ++ [v]) = turnF k (foldF k ys) v := by simp [foldF]
theorem u64_foldl (k : Int) (ys : List Int) : ∀ x, AllU ys → U64 x → U64 (ys.foldl (turnF k) x) := by
  induction ys with
  | nil => intro x _ h; exact h
  | cons y ys ih => intro x h hx; exact ih _ (fun z hz => h z (List.mem_cons_of_mem _ hz)) (u64_turnF hx (h y (List.mem_cons_self ..)))
theorem u64_foldF (k : Int) (ys : List Int) (h : AllU ys) : U64 (foldF k ys) := u64_foldl k ys 0 h ⟨by omega, by omega⟩
def foldS (k : Int) (ys : List Int) : Int × Int := if k = 2 ∨ k = 3 ∨ k = 4 then (foldF k ys, 0) else (0, 1)
noncomputable def inlFo : List Inl := [iTaken, iTaken1]
theorem inlFo_ok : InlOk Tryd.prog inlFo := ⟨iTaken_ok, iTaken1_ok, trivial⟩
noncomputable def ctxPlF (P : Program) (h : InlOk P inlFo) : Ctx := ctx P glR [eCanon, eMax, eSum] [] (noEq P) inlFo h.mem
theorem ctxPlF_good : (ctxPlF Tryd.prog inlFo_ok).good := ctx_good (by kernel_rfl) (AllOk.mem ⟨eCanon_ok, eMax_ok, eSum_ok, trivial⟩) glR_two
set_option maxRecDepth 100000 in
theorem fold2_pure (n : Nat) (xs : List Int) (hx : AllU xs) : Pure Tryd.prog glR 12 [.v (.int .i64 2), .fl [.u64] n xs] (.tup [.v (.int .u64 (foldF 2 xs)), .v (.int .i64 0)]) := by
  refine pure_wf fun hw => ?_
  obtain ⟨-, ⟨w1, w2⟩, -⟩ := hw
  simp only [List.length_cons, List.length_nil, Nat.zero_add, Nat.mul_one] at w1
  refine pure_of (C := ctxPlF Tryd.prog inlFo_ok) ctxPlF_good Tryd.func12 (c := bodyOf Tryd.f12) (by rfl) (Nat.le_of_ble_eq_true (by rfl)) 4 2 [0, 1, 4, 5, 6, 8, 13, 14, 15, 16, 17] ?_
  conv => whnf
  refine TW.loopD ctxPlF_good 2 (base := 0) (lv := [0, 1, 4, 5, 6, 8, 13, 14, 15, 16, 17]) [4, 16] [] [] (fun j : Nat => [.v (.int .u64 (foldF 2 (xs.take j))), .v (.int .i64 j)]) (fun j => []) (fun j => j ≤ n) (fun j => n - j) ?_
  conv => whnf
  refine ⟨⟨0, ⟨rfl, rfl, rfl⟩, by omega⟩, fun j hj => ?_⟩
  have hu : U64 (foldF 2 (xs.take j)) := u64_foldF 2 _ (fun x hx' => hx x (List.mem_of_mem_take hx'))
  replace hj : j ≤ n := hj
  conv => whnf
  refine ifB_dec (fun h => ?_) (fun h => ?_)
  · conv => whnf
    have e : xs.getD (0 + (j : Int).toNat * (0 + 1)) 0 = xs.getD j 0 := by simp
    have et : turnF 2 (foldF 2 (xs.take j)) (xs.getD j 0) = foldF 2 (xs.take (j + 1)) := by rw [take_snoc (by omega), foldF_snoc]
    repeat' (first | (refine ifB_t (by assumption) ?_; conv => whnf) | (refine ifB_f (by assumption) ?_; conv => whnf) | (refine ifB_dec (fun h => ?_) (fun h => ?_) <;> (first | (exfalso; omega) | (conv => whnf))) | (refine ifB_eq (fun h => ?_) (fun h => ?_) <;> (first | (exfalso; omega) | (conv => whnf))) | (refine ifB_ne (fun h => ?_) (fun h => ?_) <;> (first | (exfalso; omega) | (conv => whnf))) | (refine ifB_not ?_; conv => whnf) | (refine ifB_and ?_; conv => whnf) | (refine ifB_or ?_; conv => whnf) | (refine And.intro ?_ ?_; (first | omega | assumption | (exact allU_getD (by assumption) _) | (simp only [cutL]; omega) | (refine And.intro ?_ ?_ <;> first | assumption | exact allU_getD (by assumption) _) | (simp only [cutL, IntKind.wrap_u64, IntKind.wrap_i64] at *; omega) | decide); conv => whnf) | (refine ifB_mk (fun h => ?_) (fun h => ?_) <;> (conv => whnf)))
    rw [wsucc (n := n) (by omega) w2, e]
    replace et : iCanon (xs.getD j 0) = _ := et
    rw [et]
    exact ⟨j + 1, [], ⟨rfl, rfl, rfl⟩, (by omega : j + 1 ≤ n), by (try dsimp only); omega⟩
  · conv => whnf
    have e : j = n := by omega
    rw [e, List.take_of_length_le (by omega)]
    repeat' (first | exact trivial | exact rfl | (refine And.intro ?_ ?_) | ((conv => whnf); done) | ((conv => whnf); (first | rfl | (refine congrArg (fun b => T.v (Value.bool b)) ?_; first | rfl | exact (decide_eq_true (by omega)).symm | exact (decide_eq_false (by omega)).symm | exact decide_eq_decide.2 (by omega)) | (refine congrArg (fun b => T.v (Value.int _ b)) ?_; first | rfl | omega) | omega)) | (first | rfl | (refine congrArg (fun b => T.v (Value.bool b)) ?_; first | rfl | exact (decide_eq_true (by omega)).symm | exact (decide_eq_false (by omega)).symm | exact decide_eq_decide.2 (by omega)) | (refine congrArg (fun b => T.v (Value.int _ b)) ?_; first | rfl | omega) | omega))
set_option maxRecDepth 100000 in
theorem fold3_pure (n : Nat) (xs : List Int) (hx : AllU xs) : Pure Tryd.prog glR 12 [.v (.int .i64 3), .fl [.u64] n xs] (.tup [.v (.int .u64 (foldF 3 xs)), .v (.int .i64 0)]) := by
  refine pure_wf fun hw => ?_
  obtain ⟨-, ⟨w1, w2⟩, -⟩ := hw
  simp only [List.length_cons, List.length_nil, Nat.zero_add, Nat.mul_one] at w1
  refine pure_of (C := ctxPlF Tryd.prog inlFo_ok) ctxPlF_good Tryd.func12 (c := bodyOf Tryd.f12) (by rfl) (Nat.le_of_ble_eq_true (by rfl)) 4 2 [0, 1, 4, 5, 6, 8, 13, 14, 15, 16, 17] ?_
  conv => whnf
  refine TW.loopD ctxPlF_good 2 (base := 0) (lv := [0, 1, 4, 5, 6, 8, 13, 14, 15, 16, 17]) [4, 16] [] [] (fun j : Nat => [.v (.int .u64 (foldF 3 (xs.take j))), .v (.int .i64 j)]) (fun j => []) (fun j => j ≤ n) (fun j => n - j) ?_
  conv => whnf
  refine ⟨⟨0, ⟨rfl, rfl, rfl⟩, by omega⟩, fun j hj => ?_⟩
  have hu : U64 (foldF 3 (xs.take j)) := u64_foldF 3 _ (fun x hx' => hx x (List.mem_of_mem_take hx'))
  replace hj : j ≤ n := hj
  conv => whnf
  refine ifB_dec (fun h => ?_) (fun h => ?_)
  · conv => whnf
    have e : xs.getD (0 + (j : Int).toNat * (0 + 1)) 0 = xs.getD j 0 := by simp
    have et : turnF 3 (foldF 3 (xs.take j)) (xs.getD j 0) = foldF 3 (xs.take (j + 1)) := by rw [take_snoc (by omega), foldF_snoc]
    repeat' (first | (refine ifB_t (by assumption) ?_; conv => whnf) | (refine ifB_f (by assumption) ?_; conv => whnf) | (refine ifB_dec (fun h => ?_) (fun h => ?_) <;> (first | (exfalso; omega) | (conv => whnf))) | (refine ifB_eq (fun h => ?_) (fun h => ?_) <;> (first | (exfalso; omega) | (conv => whnf))) | (refine ifB_ne (fun h => ?_) (fun h => ?_) <;> (first | (exfalso; omega) | (conv => whnf))) | (refine ifB_not ?_; conv => whnf) | (refine ifB_and ?_; conv => whnf) | (refine ifB_or ?_; conv => whnf) | (refine And.intro ?_ ?_; (first | omega | assumption | (exact allU_getD (by assumption) _) | (simp only [cutL]; omega) | (refine And.intro ?_ ?_ <;> first | assumption | exact allU_getD (by assumption) _) | (simp only [cutL, IntKind.wrap_u64, IntKind.wrap_i64] at *; omega) | decide); conv => whnf) | (refine ifB_mk (fun h => ?_) (fun h => ?_) <;> (conv => whnf)))
    rw [wsucc (n := n) (by omega) w2, e]
    replace et : iTop (foldF 3 (xs.take j)) (xs.getD j 0) = _ := et
    rw [et]
    exact ⟨j + 1, [], ⟨rfl, rfl, rfl⟩, (by omega : j + 1 ≤ n), by (try dsimp only); omega⟩
  · conv => whnf
    have e : j = n := by omega
    rw [e, List.take_of_length_le (by omega)]
    repeat' (first | exact trivial | exact rfl | (refine And.intro ?_ ?_) | ((conv => whnf); done) | ((conv => whnf); (first | rfl | (refine congrArg (fun b => T.v (Value.bool b)) ?_; first | rfl | exact (decide_eq_true (by omega)).symm | exact (decide_eq_false (by omega)).symm | exact decide_eq_decide.2 (by omega)) | (refine congrArg (fun b => T.v (Value.int _ b)) ?_; first | rfl | omega) | omega)) | (first | rfl | (refine congrArg (fun b => T.v (Value.bool b)) ?_; first | rfl | exact (decide_eq_true (by omega)).symm | exact (decide_eq_false (by omega)).symm | exact decide_eq_decide.2 (by omega)) | (refine congrArg (fun b => T.v (Value.int _ b)) ?_; first | rfl | omega) | omega))
set_option maxRecDepth 100000 in
theorem fold4_pure (n : Nat) (xs : List Int) (hx : AllU xs) : Pure Tryd.prog glR 12 [.v (.int .i64 4), .fl [.u64] n xs] (.tup [.v (.int .u64 (foldF 4 xs)), .v (.int .i64 0)]) := by
  refine pure_wf fun hw => ?_
  obtain ⟨-, ⟨w1, w2⟩, -⟩ := hw
  simp only [List.length_cons, List.length_nil, Nat.zero_add, Nat.mul_one] at w1
  refine pure_of (C := ctxPlF Tryd.prog inlFo_ok) ctxPlF_good Tryd.func12 (c := bodyOf Tryd.f12) (by rfl) (Nat.le_of_ble_eq_true (by rfl)) 4 2 [0, 1, 4, 5, 6, 8, 13, 14, 15, 16, 17] ?_
  conv => whnf
  refine TW.loopD ctxPlF_good 2 (base := 0) (lv := [0, 1, 4, 5, 6, 8, 13, 14, 15, 16, 17]) [4, 16] [] [] (fun j : Nat => [.v (.int .u64 (foldF 4 (xs.take j))), .v (.int .i64 j)]) (fun j => []) (fun j => j ≤ n) (fun j => n - j) ?_
  conv => whnf
  refine ⟨⟨0, ⟨rfl, rfl, rfl⟩, by omega⟩, fun j hj => ?_⟩
  have hu : U64 (foldF 4 (xs.take j)) := u64_foldF 4 _ (fun x hx' => hx x (List.mem_of_mem_take hx'))
  replace hj : j ≤ n := hj
  conv => whnf
  refine ifB_dec (fun h => ?_) (fun h => ?_)
  · conv => whnf
    have e : xs.getD (0 + (j : Int).toNat * (0 + 1)) 0 = xs.getD j 0 := by simp
    have et : turnF 4 (foldF 4 (xs.take j)) (xs.getD j 0) = foldF 4 (xs.take (j + 1)) := by rw [take_snoc (by omega), foldF_snoc]
    repeat' (first | (refine ifB_t (by assumption) ?_; conv => whnf) | (refine ifB_f (by assumption) ?_; conv => whnf) | (refine ifB_dec (fun h => ?_) (fun h => ?_) <;> (first | (exfalso; omega) | (conv => whnf))) | (refine ifB_eq (fun h => ?_) (fun h => ?_) <;> (first | (exfalso; omega) | (conv => whnf))) | (refine ifB_ne (fun h => ?_) (fun h => ?_) <;> (first | (exfalso; omega) | (conv => whnf))) | (refine ifB_not ?_; conv => whnf) | (refine ifB_and ?_; conv => whnf) | (refine ifB_or ?_; conv => whnf) | (refine And.intro ?_ ?_; (first | omega | assumption | (exact allU_getD (by assumption) _) | (simp only [cutL]; omega) | (refine And.intro ?_ ?_ <;> first | assumption | exact allU_getD (by assumption) _) | (simp only [cutL, IntKind.wrap_u64, IntKind.wrap_i64] at *; omega) | decide); conv => whnf) | (refine ifB_mk (fun h => ?_) (fun h => ?_) <;> (conv => whnf)))
    rw [wsucc (n := n) (by omega) w2, e]
    replace et : iSum (foldF 4 (xs.take j)) (xs.getD j 0) = _ := et
    rw [et]
    exact ⟨j + 1, [], ⟨rfl, rfl, rfl⟩, (by omega : j + 1 ≤ n), by (try dsimp only); omega⟩
  · conv => whnf
    have e : j = n := by omega
    rw [e, List.take_of_length_le (by omega)]
    repeat' (first | exact trivial | exact rfl | (refine And.intro ?_ ?_) | ((conv => whnf); done) | ((conv => whnf); (first | rfl | (refine congrArg (fun b => T.v (Value.bool b)) ?_; first | rfl | exact (decide_eq_true (by omega)).symm | exact (decide_eq_false (by omega)).symm | exact decide_eq_decide.2 (by omega)) | (refine congrArg (fun b => T.v (Value.int _ b)) ?_; first | rfl | omega) | omega)) | (first | rfl | (refine congrArg (fun b => T.v (Value.bool b)) ?_; first | rfl | exact (decide_eq_true (by omega)).symm | exact (decide_eq_false (by omega)).symm | exact decide_eq_decide.2 (by omega)) | (refine congrArg (fun b => T.v (Value.int _ b)) ?_; first | rfl | omega) | omega))
set_option maxRecDepth 100000 in
theorem foldX_pure (k : Int) (n : Nat) (xs : List Int) (hk : k ≠ 2 ∧ k ≠ 3 ∧ k ≠ 4) : Pure Tryd.prog glR 12 [.v (.int .i64 k), .fl [.u64] n xs] (.tup [.v (.int .u64 0), .v (.int .i64 1)]) := by
  refine pure_of (C := ctxPlF Tryd.prog inlFo_ok) ctxPlF_good Tryd.func12 (c := bodyOf Tryd.f12) (by rfl) (Nat.le_of_ble_eq_true (by rfl)) 4 2 [0, 1, 4, 5, 6, 8, 13, 14, 15, 16, 17] ?_
  conv => whnf
  repeat' (first | (refine ifB_t (by assumption) ?_; conv => whnf) | (refine ifB_f (by assumption) ?_; conv => whnf) | (refine ifB_dec (fun h => ?_) (fun h => ?_) <;> (first | (exfalso; omega) | (conv => whnf))) | (refine ifB_eq (fun h => ?_) (fun h => ?_) <;> (first | (exfalso; omega) | (conv => whnf))) | (refine ifB_ne (fun h => ?_) (fun h => ?_) <;> (first | (exfalso; omega) | (conv => whnf))) | (refine ifB_not ?_; conv => whnf) | (refine ifB_and ?_; conv => whnf) | (refine ifB_or ?_; conv => whnf) | (refine And.intro ?_ ?_; (first | omega | assumption | (exact allU_getD (by assumption) _) | (simp only [cutL]; omega) | (refine And.intro ?_ ?_ <;> first | assumption | exact allU_getD (by assumption) _) | (simp only [cutL, IntKind.wrap_u64, IntKind.wrap_i64] at *; omega) | decide); conv => whnf) | (refine ifB_mk (fun h => ?_) (fun h => ?_) <;> (conv => whnf)))
  all_goals repeat' (first | exact trivial | exact rfl | (refine And.intro ?_ ?_) | ((conv => whnf); done) | ((conv => whnf); (first | rfl | (refine congrArg (fun b => T.v (Value.bool b)) ?_; first | rfl | exact (decide_eq_true (by omega)).symm | exact (decide_eq_false (by omega)).symm | exact decide_eq_decide.2 (by omega)) | (refine congrArg (fun b => T.v (Value.int _ b)) ?_; first | rfl | omega) | omega)) | (first | rfl | (refine congrArg (fun b => T.v (Value.bool b)) ?_; first | rfl | exact (decide_eq_true (by omega)).symm | exact (decide_eq_false (by omega)).symm | exact decide_eq_decide.2 (by omega)) | (refine congrArg (fun b => T.v (Value.int _ b)) ?_; first | rfl | omega) | omega))
theorem fold_pure (k : Int) (n : Nat) (xs : List Int) (hx : AllU xs) : Pure Tryd.prog glR 12 [.v (.int .i64 k), .fl [.u64] n xs] (.tup [.v (.int .u64 (foldS k xs).1), .v (.int .i64 (foldS k xs).2)]) := by
  by_cases h2 : k = 2
  · subst h2; exact fold2_pure n xs hx
  by_cases h3 : k = 3
  · subst h3; exact fold3_pure n xs hx
  by_cases h4 : k = 4
  · subst h4; exact fold4_pure n xs hx
  have e : foldS k xs = (0, 1) := if_neg (by omega)
  rw [e]; exact foldX_pure k n xs ⟨h2, h3, h4⟩
theorem pure_nil1 {P : Program} {gl : Nat → T} {f : FuncId} {a t : T} {ks : List IntKind} {bs : Hp} (h : Pure P gl f [a, .fl ks 0 []] t bs) : Pure P gl f [a, .v (.slice none 0 0)] t bs := by
  intro w vs hg hv
  refine h w vs hg ?_
  cases hv with
  | cons h1 h2 => cases h2 with
    | cons h3 h4 =>
      obtain ⟨rfl, -⟩ := h3.v_inv
      exact .cons h1 (.cons .fl0 h4)
def eCastN : Entry := ⟨18, 3, fun l => match l with
  | [.agg [.v (.int .i64 k), .v (.int .i64 p), .v (.int .i64 n)], .fl [.i64] m l] => some (none, .tup [.ow 0 1 (castS k p n l).1.length, .v (.int .i64 (castS k p n l).2)], [(0, .fl [.u64] (castS k p n l).1)])
  | [.agg [.v (.int .i64 k), .v (.int .i64 p), .v (.int .i64 n)], .v (.slice none 0 0)] => some (none, .tup [.ow 0 1 (castS k p n []).1.length, .v (.int .i64 (castS k p n []).2)], [(0, .fl [.u64] (castS k p n []).1)])
  | _ => none⟩
theorem eCastN_ok : eCastN.ok Tryd.prog glR := ⟨enters_of Tryd.func18 (by kernel_rfl) (by kernel_rfl), by
  intro args c t bs h hc
  simp only [eCastN] at h
  split at h <;> cases h
  · exact cast_pure _ _ _ _ _
  · exact pure_nil1 (ks := [.i64]) (cast_pure _ _ _ 0 [])⟩
def eFold : Entry := ⟨12, 3, fun l => match l with
  | [.v (.int .i64 k), .fl [.u64] n xs] => some (some (AllU xs), .tup [.v (.int .u64 (foldS k xs).1), .v (.int .i64 (foldS k xs).2)], [])
  | [.v (.int .i64 k), .v (.slice none 0 0)] => some (none, .tup [.v (.int .u64 (foldS k []).1), .v (.int .i64 (foldS k []).2)], [])
  | _ => none⟩
theorem eFold_ok : eFold.ok Tryd.prog glR := ⟨enters_of Tryd.func12 (by kernel_rfl) (by kernel_rfl), by
  intro args c t bs h hc
  simp only [eFold] at h
  split at h <;> cases h
  · replace hc := hc _ rfl
    exact fold_pure _ _ _ hc
  · exact pure_nil1 (ks := [.u64]) (fold_pure _ 0 [] (fun x hx => by cases hx))⟩
end Go.Proofs.YtlcpcgdecodjfaaDoor
