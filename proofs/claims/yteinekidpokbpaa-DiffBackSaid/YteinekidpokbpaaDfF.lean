/- diff.Patch and the document's. -/
import Derived.Test.YteinekidpokbpaaDfE
namespace Go.Proofs.Yteinekidpokbpaa.DfT
open Go.RowKit Go.Proofs.Yteinekidpokbpaa.Am Go.Proofs.Yteinekidpokbpaa Go.Proofs.Yteinekidpokbpaa.PrT
set_option linter.unusedVariables false
set_option linter.unusedSimpArgs false

/-- Places that Go's int has. -/
def WfW (l : List R) : Prop := ∀ w ∈ l, I64 w.1
theorem WfW.at {l : List R} (h : WfW l) {j : Nat} (hj : j < l.length) : I64 (kR l j) := h _ (gR_mem hj)
theorem fit_snoc {base : Int} {n : Nat} {L : List R} {j : Nat} (hj : j < L.length) : Fit base n (L.take (j + 1)) ↔ Fit base n (L.take j) ∧ (base ≤ kR L j ∧ kR L j < base + n) := by
  rw [take_snocR hj, Fit.app]
  exact ⟨fun ⟨a, b⟩ => ⟨a, b _ (by simp)⟩, fun ⟨a, b⟩ => ⟨a, fun w hw => by rw [List.mem_singleton.1 hw]; exact b⟩⟩
theorem fit_not {base : Int} {n : Nat} {L : List R} {j : Nat} (hj : j < L.length) (h : ¬ (base ≤ kR L j ∧ kR L j < base + n)) : ¬ Fit base n L := fun q => h (q _ (gR_mem hj))
theorem ptL_step {base : Int} {a : List Int} {L : List R} {j : Nat} (hj : j < L.length) : ptL base (L.take (j + 1)) a = (ptL base (L.take j) a).set (kR L j - base).toNat (gR L j).2 := by rw [take_snocR hj, ptL_snoc]; rfl
theorem ptL_nil (base : Int) (a : List Int) : ptL base [] a = a := rfl

noncomputable def ctxPt (P : Program) : Ctx := ctx P glR [eBased, eClone] [] (noEq P) [] (fun _ h => by cases h)
theorem ctxPt_good : (ctxPt Try.prog).good := ctx_good (by kernel_rfl) (AllOk.mem ⟨eBased_ok, eClone_ok, trivial⟩) glR_two
attribute [local irreducible] recs dfs ptL Bd
set_option maxHeartbeats 1000000 in
set_option maxRecDepth 100000 in
theorem patch_pure (n m : Nat) (a xs : List Int) (base : Int) (hn : n ≤ 4096) (hx : WfW (recs m 2 xs)) : Pure Try.prog glR 18 [.fl [.u64] n a, .v (.int .i64 base), .fl [.i64, .u64] m xs] (.tup [.ow 0 1 (ptS base a (recs m 2 xs)).length, .v (.int .i64 (ptE base n (recs m 2 xs)))]) [(0, .fl [.u64] (ptS base a (recs m 2 xs)))] := by
  refine pure_wf fun hw => ?_
  obtain ⟨⟨w1, w2⟩, -, ⟨w3, w4⟩, -⟩ := hw
  simp only [List.length_cons, List.length_nil, Nat.zero_add, Nat.mul_one] at w1 w3
  have hLl := recs_len m 2 xs
  have hLg : ∀ j, j < m → gR (recs m 2 xs) j = (xs.getD (j * 2) 0, xs.getD (j * 2 + 1) 0) := fun j hj => recs2_get hj
  generalize recs m 2 xs = L at *
  have hno : ¬ (Bd base ∧ Fit base n L) → ptE base n L = 1 ∧ ptS base a L = [] := fun q => by
    have := pt_no (a := a) (l := L) (base := base); rw [w1] at this; exact this q
  have hyes : Bd base ∧ Fit base n L → ptE base n L = 0 ∧ ptS base a L = ptL base L a := fun q => by
    have := pt_yes (a := a) (l := L) (base := base); rw [w1] at this; exact this q
  by_cases hb : Bd base
  · have hb12 : 0 ≤ base ∧ base ≤ 1048576 := by unfold Bd at hb; exact hb
    obtain ⟨hb1, hb2⟩ := hb12
    refine pure_of (C := ctxPt Try.prog) ctxPt_good Try.func18 (c := bodyOf Try.f18) (by rfl) (Nat.le_of_ble_eq_true (by rfl)) 4 0 [0, 1, 2, 6, 7, 8, 10, 11, 14, 17, 18, 19, 20, 36] ?_
    conv => whnf
    refine ifB_f (by rw [decide_eq_true hb]; rfl) ?_
    conv => whnf
    refine And.intro (by omega) ?_
    conv => whnf
    refine TW.loopD ctxPt_good 0 (base := 0) (lv := [0, 1, 2, 6, 7, 8, 10, 11, 14, 17, 18, 19, 20, 36]) [19] [64] [(64, 64)] (fun x : Nat × List Int => [.v (.int .i64 x.1)]) (fun x => [.fl [.u64] x.2]) (fun x => x.1 ≤ m ∧ x.2 = ptL base (L.take x.1) a ∧ x.2.length = n ∧ Fit base n (L.take x.1)) (fun x => m - x.1) ?_
    conv => whnf
    refine ⟨⟨(0, a), ⟨rfl, rfl, rfl⟩, Nat.zero_le _, (ptL_nil base a).symm, w1, fun w hw => by cases hw⟩, fun ⟨j, U⟩ ⟨hj, hU, hUl, hF⟩ => ?_⟩
    replace hj : j ≤ m := hj
    replace hU : U = ptL base (L.take j) a := hU
    replace hUl : U.length = n := hUl
    replace hF : Fit base n (L.take j) := hF
    conv => whnf
    refine ifB_dec (fun h => ?_) (fun h => ?_)
    · replace h : (j : Int) < m := h
      have hLj := hLg j (by omega)
      have hst := ptL_step (base := base) (a := a) (L := L) (j := j) (by omega)
      have hfs := fit_snoc (base := base) (n := n) (L := L) (j := j) (by omega)
      have hfn := fit_not (base := base) (n := n) (L := L) (j := j) (by omega)
      obtain ⟨i1, i2⟩ := hx.at (j := j) (by omega)
      have ek : kR L j = xs.getD (j * 2) 0 := by unfold kR; rw [hLj]
      have ev : (gR L j).2 = xs.getD (j * 2 + 1) 0 := by rw [hLj]
      conv => whnf
      repeat (refine And.intro (by first | omega | (dsimp only; omega)) ?_; conv => whnf)
      have E0 : xs.getD (0 + (((j, U) : Nat × List Int).1 : Int).toNat * (1 + 1) + 0) 0 = kR L j := by
        rw [ek, show 0 + (((j, U) : Nat × List Int).1 : Int).toNat * (1 + 1) + 0 = j * 2 by dsimp only; omega]
      have E1 : xs.getD (0 + (((j, U) : Nat × List Int).1 : Int).toNat * (1 + 1) + (0 + 1)) 0 = (gR L j).2 := by
        rw [ev, show 0 + (((j, U) : Nat × List Int).1 : Int).toNat * (1 + 1) + (0 + 1) = j * 2 + 1 by dsimp only; omega]
      rw [E0, E1]
      generalize kR L j = A at *
      generalize (gR L j).2 = B at *
      refine ifB_dec (fun h1 => ?_) (fun h1 => ?_)
      · replace h1 : A < base := h1
        conv => whnf
        obtain ⟨e1, e2⟩ := hno fun q => hfn (fun z => by omega) q.2
        rw [e1, e2]
        repeat' (first | exact trivial | exact rfl | (refine And.intro ?_ ?_) | ((conv => whnf); done) | ((conv => whnf); (first | rfl | (refine congrArg (fun b => T.v (Value.bool b)) ?_; first | rfl | exact (decide_eq_true (by omega)).symm | exact (decide_eq_false (by omega)).symm | exact decide_eq_decide.2 (by omega)) | (refine congrArg (fun b => T.v (Value.int _ b)) ?_; first | rfl | omega) | omega)) | (first | rfl | (refine congrArg (fun b => T.v (Value.bool b)) ?_; first | rfl | exact (decide_eq_true (by omega)).symm | exact (decide_eq_false (by omega)).symm | exact decide_eq_decide.2 (by omega)) | (refine congrArg (fun b => T.v (Value.int _ b)) ?_; first | rfl | omega) | omega))
      · replace h1 : ¬ A < base := h1
        have ew : IntKind.i64.wrap (A - base) = A - base := wrap64 (by omega) (by omega)
        conv => whnf
        rw [ew]
        refine ifB_dec (fun h2 => ?_) (fun h2 => ?_)
        · replace h2 : A - base ≥ n := h2
          conv => whnf
          obtain ⟨e1, e2⟩ := hno fun q => hfn (fun z => by omega) q.2
          rw [e1, e2]
          repeat' (first | exact trivial | exact rfl | (refine And.intro ?_ ?_) | ((conv => whnf); done) | ((conv => whnf); (first | rfl | (refine congrArg (fun b => T.v (Value.bool b)) ?_; first | rfl | exact (decide_eq_true (by omega)).symm | exact (decide_eq_false (by omega)).symm | exact decide_eq_decide.2 (by omega)) | (refine congrArg (fun b => T.v (Value.int _ b)) ?_; first | rfl | omega) | omega)) | (first | rfl | (refine congrArg (fun b => T.v (Value.bool b)) ?_; first | rfl | exact (decide_eq_true (by omega)).symm | exact (decide_eq_false (by omega)).symm | exact decide_eq_decide.2 (by omega)) | (refine congrArg (fun b => T.v (Value.int _ b)) ?_; first | rfl | omega) | omega))
        · replace h2 : ¬ A - base ≥ n := h2
          conv => whnf
          repeat (refine And.intro (by omega) ?_; conv => whnf)
          rw [wsucc (j := j) (n := m) (by omega) w4]
          refine ⟨(j + 1, U.set (A - base).toNat B), [(64, 64)], ⟨rfl, rfl, ?_⟩, ⟨(by omega : j + 1 ≤ m), ?_, ?_, ?_⟩, by dsimp only; omega⟩
          · rw [addN_eq, show 0 + (0 + (A - base).toNat) * (0 + 1) + 0 = (A - base).toNat by omega]; rfl
          · dsimp only; rw [hst, hU]
          · dsimp only; rw [List.length_set]; exact hUl
          · exact hfs.2 ⟨hF, by omega⟩
    · replace h : ¬ (j : Int) < m := h
      obtain rfl : j = m := by omega
      conv => whnf
      rw [List.take_of_length_le (by omega)] at hU hF
      obtain ⟨e1, e2⟩ := hyes ⟨hb, hF⟩
      rw [e1, e2, ← hU, hUl]
      repeat' (first | exact trivial | exact rfl | (refine And.intro ?_ ?_) | ((conv => whnf); done) | ((conv => whnf); (first | rfl | (refine congrArg (fun b => T.v (Value.bool b)) ?_; first | rfl | exact (decide_eq_true (by omega)).symm | exact (decide_eq_false (by omega)).symm | exact decide_eq_decide.2 (by omega)) | (refine congrArg (fun b => T.v (Value.int _ b)) ?_; first | rfl | omega) | omega)) | (first | rfl | (refine congrArg (fun b => T.v (Value.bool b)) ?_; first | rfl | exact (decide_eq_true (by omega)).symm | exact (decide_eq_false (by omega)).symm | exact decide_eq_decide.2 (by omega)) | (refine congrArg (fun b => T.v (Value.int _ b)) ?_; first | rfl | omega) | omega))
  · obtain ⟨e1, e2⟩ := hno fun q => hb q.1
    rw [e1, e2]
    refine pure_of (C := ctxPt Try.prog) ctxPt_good Try.func18 (c := bodyOf Try.f18) (by rfl) (Nat.le_of_ble_eq_true (by rfl)) 4 0 [0, 1, 2, 6, 7, 8, 10, 11, 14, 17, 18, 19, 20, 36] ?_
    conv => whnf
    refine ifB_t (by rw [decide_eq_false hb]; rfl) ?_
    conv => whnf
    repeat' (first | exact trivial | exact rfl | (refine And.intro ?_ ?_) | ((conv => whnf); done) | ((conv => whnf); (first | rfl | (refine congrArg (fun b => T.v (Value.bool b)) ?_; first | rfl | exact (decide_eq_true (by omega)).symm | exact (decide_eq_false (by omega)).symm | exact decide_eq_decide.2 (by omega)) | (refine congrArg (fun b => T.v (Value.int _ b)) ?_; first | rfl | omega) | omega)) | (first | rfl | (refine congrArg (fun b => T.v (Value.bool b)) ?_; first | rfl | exact (decide_eq_true (by omega)).symm | exact (decide_eq_false (by omega)).symm | exact decide_eq_decide.2 (by omega)) | (refine congrArg (fun b => T.v (Value.int _ b)) ?_; first | rfl | omega) | omega))
noncomputable def ePatch : Entry := ⟨18, 4, fun l => match l with | [.fl [.u64] n a, .v (.int .i64 base), .fl [.i64, .u64] m xs] => some (some (n ≤ 4096 ∧ WfW (recs m 2 xs)), .tup [.ow 0 1 (ptS base a (recs m 2 xs)).length, .v (.int .i64 (ptE base n (recs m 2 xs)))], [(0, .fl [.u64] (ptS base a (recs m 2 xs)))]) | _ => none⟩
theorem ePatch_ok : ePatch.ok Try.prog glR := ⟨Am.enters_of Try.func18 (by kernel_rfl) (by kernel_rfl), by
  intro args c t bs h hc
  simp only [ePatch] at h
  split at h <;> cases h
  replace hc := hc _ rfl
  exact patch_pure _ _ _ _ _ hc.1 hc.2⟩
set_option maxHeartbeats 1000000 in
set_option maxRecDepth 100000 in
theorem rpatch_pure (n m : Nat) (a xs : List Int) (base : Int) (hn : n ≤ 4096) (hx : WfW (recs m 2 xs)) : Pure Try.prog glR 19 [.fl [.u64] n a, .v (.int .i64 base), .fl [.i64, .u64] m xs] (.tup [.ow 0 1 (ptS base a (recs m 2 xs)).length, .v (.int .i64 (ptE base n (recs m 2 xs)))]) [(0, .fl [.u64] (ptS base a (recs m 2 xs)))] := by
  refine pure_wf fun hw => ?_
  obtain ⟨⟨w1, w2⟩, -, ⟨w3, w4⟩, -⟩ := hw
  simp only [List.length_cons, List.length_nil, Nat.zero_add, Nat.mul_one] at w1 w3
  have hLl := recs_len m 2 xs
  have hLg : ∀ j, j < m → gR (recs m 2 xs) j = (xs.getD (j * 2) 0, xs.getD (j * 2 + 1) 0) := fun j hj => recs2_get hj
  generalize recs m 2 xs = L at *
  have hno : ¬ (Bd base ∧ Fit base n L) → ptE base n L = 1 ∧ ptS base a L = [] := fun q => by
    have := pt_no (a := a) (l := L) (base := base); rw [w1] at this; exact this q
  have hyes : Bd base ∧ Fit base n L → ptE base n L = 0 ∧ ptS base a L = ptL base L a := fun q => by
    have := pt_yes (a := a) (l := L) (base := base); rw [w1] at this; exact this q
  refine pure_of (C := ctx0 Try.prog) ctx0_good Try.func19 (c := bodyOf Try.f19) (by rfl) (Nat.le_of_ble_eq_true (by rfl)) 4 0 [0, 1, 2, 6, 7, 8, 9, 15, 21, 42] ?_
  conv => whnf
  by_cases hb : 0 ≤ base ∧ base ≤ 1048576
  · have hB : Bd base := by unfold Bd; exact hb
    obtain ⟨hb1, hb2⟩ := hb
    refine ifB_dec (fun h => absurd h (by omega)) (fun h => ?_)
    conv => whnf
    refine ifB_dec (fun h => absurd h (by omega)) (fun h => ?_)
    conv => whnf
    refine And.intro (show n * 8 ≤ 140737488355328 by omega) ?_
    conv => whnf
    refine TW.loopD ctx0_good 0 (base := 0) (lv := [0, 1, 2, 6, 7, 8, 9, 15, 21, 42]) [9] [68] [(68, 68)] (fun x : Nat × List Int => [.v (.int .i64 x.1)]) (fun x => [.fl [.u64] x.2]) (fun x => x.1 ≤ m ∧ x.2 = ptL base (L.take x.1) a ∧ x.2.length = n ∧ Fit base n (L.take x.1)) (fun x => m - x.1) ?_
    conv => whnf
    refine ⟨⟨(0, a), ⟨rfl, rfl, rfl⟩, Nat.zero_le _, (ptL_nil base a).symm, w1, fun w hw => by cases hw⟩, fun ⟨j, U⟩ ⟨hj, hU, hUl, hF⟩ => ?_⟩
    replace hj : j ≤ m := hj
    replace hU : U = ptL base (L.take j) a := hU
    replace hUl : U.length = n := hUl
    replace hF : Fit base n (L.take j) := hF
    conv => whnf
    refine ifB_dec (fun h => ?_) (fun h => ?_)
    · replace h : (j : Int) < m := h
      have hLj := hLg j (by omega)
      have hst := ptL_step (base := base) (a := a) (L := L) (j := j) (by omega)
      have hfs := fit_snoc (base := base) (n := n) (L := L) (j := j) (by omega)
      have hfn := fit_not (base := base) (n := n) (L := L) (j := j) (by omega)
      obtain ⟨i1, i2⟩ := hx.at (j := j) (by omega)
      have ek : kR L j = xs.getD (j * 2) 0 := by unfold kR; rw [hLj]
      have ev : (gR L j).2 = xs.getD (j * 2 + 1) 0 := by rw [hLj]
      have eb : IntKind.i64.wrap (base + n) = base + n := wrap64 (by omega) (by omega)
      have E0 : xs.getD (0 + (((j, U) : Nat × List Int).1 : Int).toNat * (1 + 1)) 0 = kR L j := by
        rw [ek, show 0 + (((j, U) : Nat × List Int).1 : Int).toNat * (1 + 1) = j * 2 by dsimp only; omega]
      have E1 : xs.getD (0 + 1 + (((j, U) : Nat × List Int).1 : Int).toNat * (1 + 1)) 0 = (gR L j).2 := by
        rw [ev, show 0 + 1 + (((j, U) : Nat × List Int).1 : Int).toNat * (1 + 1) = j * 2 + 1 by dsimp only; omega]
      conv => whnf
      repeat (refine And.intro (by first | omega | (dsimp only; omega)) ?_; conv => whnf)
      rw [E0]
      generalize kR L j = A at *
      refine ifB_dec (fun h1 => ?_) (fun h1 => ?_)
      · replace h1 : A < base := h1
        conv => whnf
        obtain ⟨e1, e2⟩ := hno fun q => hfn (fun z => by omega) q.2
        rw [e1, e2]
        repeat' (first | exact trivial | exact rfl | (refine And.intro ?_ ?_) | ((conv => whnf); done) | ((conv => whnf); (first | rfl | (refine congrArg (fun b => T.v (Value.bool b)) ?_; first | rfl | exact (decide_eq_true (by omega)).symm | exact (decide_eq_false (by omega)).symm | exact decide_eq_decide.2 (by omega)) | (refine congrArg (fun b => T.v (Value.int _ b)) ?_; first | rfl | omega) | omega)) | (first | rfl | (refine congrArg (fun b => T.v (Value.bool b)) ?_; first | rfl | exact (decide_eq_true (by omega)).symm | exact (decide_eq_false (by omega)).symm | exact decide_eq_decide.2 (by omega)) | (refine congrArg (fun b => T.v (Value.int _ b)) ?_; first | rfl | omega) | omega))
      · replace h1 : ¬ A < base := h1
        have ew : IntKind.i64.wrap (A - base) = A - base := wrap64 (by omega) (by omega)
        conv => whnf
        repeat (refine And.intro (by first | omega | (dsimp only; omega)) ?_; conv => whnf)
        rw [eb, E0]
        refine ifB_dec (fun h2 => ?_) (fun h2 => ?_)
        · replace h2 : A ≥ base + n := h2
          conv => whnf
          obtain ⟨e1, e2⟩ := hno fun q => hfn (fun z => by omega) q.2
          rw [e1, e2]
          repeat' (first | exact trivial | exact rfl | (refine And.intro ?_ ?_) | ((conv => whnf); done) | ((conv => whnf); (first | rfl | (refine congrArg (fun b => T.v (Value.bool b)) ?_; first | rfl | exact (decide_eq_true (by omega)).symm | exact (decide_eq_false (by omega)).symm | exact decide_eq_decide.2 (by omega)) | (refine congrArg (fun b => T.v (Value.int _ b)) ?_; first | rfl | omega) | omega)) | (first | rfl | (refine congrArg (fun b => T.v (Value.bool b)) ?_; first | rfl | exact (decide_eq_true (by omega)).symm | exact (decide_eq_false (by omega)).symm | exact decide_eq_decide.2 (by omega)) | (refine congrArg (fun b => T.v (Value.int _ b)) ?_; first | rfl | omega) | omega))
        · replace h2 : ¬ A ≥ base + n := h2
          conv => whnf
          repeat (refine And.intro (by first | omega | (dsimp only; omega)) ?_; conv => whnf)
          rw [E0, ew, E1]
          repeat (refine And.intro (by omega) ?_; conv => whnf)
          rw [wsucc (j := j) (n := m) (by omega) w4]
          refine ⟨(j + 1, U.set (A - base).toNat (gR L j).2), [(68, 68)], ⟨rfl, rfl, ?_⟩, ⟨(by omega : j + 1 ≤ m), ?_, ?_, ?_⟩, by dsimp only; omega⟩
          · rw [addN_eq, show 0 + (0 + (A - base).toNat) * (0 + 1) + 0 = (A - base).toNat by omega]; rfl
          · dsimp only; rw [hst, hU]
          · dsimp only; rw [List.length_set]; exact hUl
          · exact hfs.2 ⟨hF, by omega⟩
    · replace h : ¬ (j : Int) < m := h
      obtain rfl : j = m := by omega
      conv => whnf
      rw [List.take_of_length_le (by omega)] at hU hF
      obtain ⟨e1, e2⟩ := hyes ⟨hB, hF⟩
      rw [e1, e2, ← hU, hUl]
      repeat' (first | exact trivial | exact rfl | (refine And.intro ?_ ?_) | ((conv => whnf); done) | ((conv => whnf); (first | rfl | (refine congrArg (fun b => T.v (Value.bool b)) ?_; first | rfl | exact (decide_eq_true (by omega)).symm | exact (decide_eq_false (by omega)).symm | exact decide_eq_decide.2 (by omega)) | (refine congrArg (fun b => T.v (Value.int _ b)) ?_; first | rfl | omega) | omega)) | (first | rfl | (refine congrArg (fun b => T.v (Value.bool b)) ?_; first | rfl | exact (decide_eq_true (by omega)).symm | exact (decide_eq_false (by omega)).symm | exact decide_eq_decide.2 (by omega)) | (refine congrArg (fun b => T.v (Value.int _ b)) ?_; first | rfl | omega) | omega))
  · have hB : ¬ Bd base := by unfold Bd; exact hb
    obtain ⟨e1, e2⟩ := hno fun q => hB q.1
    rw [e1, e2]
    refine ifB_dec (fun h => ?_) (fun h => ?_)
    · conv => whnf
      repeat' (first | exact trivial | exact rfl | (refine And.intro ?_ ?_) | ((conv => whnf); done) | ((conv => whnf); (first | rfl | (refine congrArg (fun b => T.v (Value.bool b)) ?_; first | rfl | exact (decide_eq_true (by omega)).symm | exact (decide_eq_false (by omega)).symm | exact decide_eq_decide.2 (by omega)) | (refine congrArg (fun b => T.v (Value.int _ b)) ?_; first | rfl | omega) | omega)) | (first | rfl | (refine congrArg (fun b => T.v (Value.bool b)) ?_; first | rfl | exact (decide_eq_true (by omega)).symm | exact (decide_eq_false (by omega)).symm | exact decide_eq_decide.2 (by omega)) | (refine congrArg (fun b => T.v (Value.int _ b)) ?_; first | rfl | omega) | omega))
    · conv => whnf
      refine ifB_dec (fun h1 => ?_) (fun h1 => absurd ⟨by omega, by omega⟩ hb)
      conv => whnf
      repeat' (first | exact trivial | exact rfl | (refine And.intro ?_ ?_) | ((conv => whnf); done) | ((conv => whnf); (first | rfl | (refine congrArg (fun b => T.v (Value.bool b)) ?_; first | rfl | exact (decide_eq_true (by omega)).symm | exact (decide_eq_false (by omega)).symm | exact decide_eq_decide.2 (by omega)) | (refine congrArg (fun b => T.v (Value.int _ b)) ?_; first | rfl | omega) | omega)) | (first | rfl | (refine congrArg (fun b => T.v (Value.bool b)) ?_; first | rfl | exact (decide_eq_true (by omega)).symm | exact (decide_eq_false (by omega)).symm | exact decide_eq_decide.2 (by omega)) | (refine congrArg (fun b => T.v (Value.int _ b)) ?_; first | rfl | omega) | omega))
noncomputable def eRPatch : Entry := ⟨19, 4, fun l => match l with | [.fl [.u64] n a, .v (.int .i64 base), .fl [.i64, .u64] m xs] => some (some (n ≤ 4096 ∧ WfW (recs m 2 xs)), .tup [.ow 0 1 (ptS base a (recs m 2 xs)).length, .v (.int .i64 (ptE base n (recs m 2 xs)))], [(0, .fl [.u64] (ptS base a (recs m 2 xs)))]) | _ => none⟩
theorem eRPatch_ok : eRPatch.ok Try.prog glR := ⟨Am.enters_of Try.func19 (by kernel_rfl) (by kernel_rfl), by
  intro args c t bs h hc
  simp only [eRPatch] at h
  split at h <;> cases h
  replace hc := hc _ rfl
  exact rpatch_pure _ _ _ _ _ hc.1 hc.2⟩
end Go.Proofs.Yteinekidpokbpaa.DfT
