/- plain: what a call makes of words. -/
import Derived.Test.YtlcpcgdecodjfaaDoorPlB
namespace Go.Proofs.YtlcpcgdecodjfaaDoor
open Go.RowKit Go.Proofs.YtlcpcgdecodjfaaDoor.Am
set_option linter.unusedVariables false
set_option linter.unusedSimpArgs false

noncomputable def iTaken : Inl := ⟨40, Tryd.f40, bodyOf Tryd.f40, [0, 2, 3, 4, 7, 10]⟩
theorem iTaken_ok : iTaken.ok Tryd.prog := Inl.mk_ok Tryd.func40 (by rfl) (by kernel_rfl) (by kernel_rfl)
noncomputable def iTaken1 : Inl := ⟨78, Tryd.f78, bodyOf Tryd.f78, [1, 4]⟩
theorem iTaken1_ok : iTaken1.ok Tryd.prog := Inl.mk_ok Tryd.func78 (by rfl) (by kernel_rfl) (by kernel_rfl)
noncomputable def iRegister : Inl := ⟨59, Tryd.f59, bodyOf Tryd.f59, [0, 1, 3, 4, 5, 6, 13, 19, 33]⟩
theorem iRegister_ok : iRegister.ok Tryd.prog := Inl.mk_ok Tryd.func59 (by rfl) (by kernel_rfl) (by kernel_rfl)
noncomputable def iBallot : Inl := ⟨60, Tryd.f60, bodyOf Tryd.f60, [0, 1, 2, 3, 5, 6, 7, 8, 9, 10, 25, 26, 36, 40, 47, 63, 72, 78, 86, 89, 96]⟩
theorem iBallot_ok : iBallot.ok Tryd.prog := Inl.mk_ok Tryd.func60 (by rfl) (by kernel_rfl) (by kernel_rfl)
noncomputable def iBallot1 : Inl := ⟨96, Tryd.f96, bodyOf Tryd.f96, [0, 2]⟩
theorem iBallot1_ok : iBallot1.ok Tryd.prog := Inl.mk_ok Tryd.func96 (by rfl) (by kernel_rfl) (by kernel_rfl)
noncomputable def inlPl : List Inl := [iParts, iTaken, iTaken1, iRegister, iBallot, iBallot1]
theorem inlPl_ok : InlOk Tryd.prog inlPl := ⟨iParts_ok, iTaken_ok, iTaken1_ok, iRegister_ok, iBallot_ok, iBallot1_ok, trivial⟩
noncomputable def ctxPlC (P : Program) (h : InlOk P inlPl) : Ctx := ctx P glR [eFits, eHome, eClone, eCanon, eMax, eSum, eRight] [] (noEq P) inlPl h.mem
theorem ctxPlC_good : (ctxPlC Tryd.prog inlPl_ok).good := ctx_good (by kernel_rfl) (AllOk.mem ⟨eFits_ok, eHome_ok, eClone_ok, eCanon_ok, eMax_ok, eSum_ok, eRight_ok, trivial⟩) glR_two
/-- What a call makes of a register: the word, an error, what it tells. -/
def regDo (x code v : Int) : List Int × Int × Int := if code = 1 then ([x], 0, x) else if code = 2 then ([iCanon v], 0, x) else if code = 3 then ([iTop x v], 0, iTop x v) else if code = 4 then ([iSum x v], 0, iSum x v) else ([x], 10, 0)
/-- What a call makes of a ballot of n. -/
def balDo (n : Nat) (w : List Int) (code key v : Int) : List Int × Int × Int :=
  if code = 12 then
    if key < n ∧ 1 ≤ v ∧ v ≤ 8 then
      if w.getD 0 0 = 1 then (w, 14, 0)
      else if w.getD (1 + key.toNat) 0 = 0 then ((w.set (1 + key.toNat) v).set (n + v.toNat) (IntKind.u64.wrap (w.getD (n + v.toNat) 0 + 1)), 0, 0)
      else (w, 13, 0)
    else (w, 10, 0)
  else if code = 13 then (w.set 0 1, 0, IntKind.u64.wrap (1 - w.getD 0 0))
  else if code = 14 then
    if 1 ≤ key ∧ key ≤ 8 then (w, 0, w.getD (n + key.toNat) 0) else (w, 10, 0)
  else if code = 15 then
    if key < n then (w, 0, w.getD (1 + key.toNat) 0) else (w, 10, 0)
  else if code = 16 then (w, 0, w.getD 0 0)
  else (w, 10, 0)
def applyS (k p n : Int) (w : List Int) (code key v : Int) : List Int × Int × Int × Int :=
  if fitsB k p n = true ∧ (k = 1 ∨ k = 5) then
    if (w.length : Int) = homeI k n then
      if k = 1 then
        if iCanon (w.getD 0 0) = w.getD 0 0 then ((regDo (w.getD 0 0) code v).1, (regDo (w.getD 0 0) code v).2.1, (regDo (w.getD 0 0) code v).2.2, 0) else ([], 0, 0, 2)
      else if rightB n.toNat w = true then ((balDo n.toNat w code key v).1, (balDo n.toNat w code key v).2.1, (balDo n.toNat w code key v).2.2, 0) else ([], 0, 0, 2)
    else ([], 0, 0, 2)
  else ([], 0, 0, 5)
theorem fitsB_room {k p n : Int} (h : fitsB k p n = true) : 1 ≤ k ∧ k ≤ 5 ∧ 1 ≤ p ∧ p ≤ 16 ∧ 1 ≤ n ∧ n ≤ 256 := of_decide_eq_true h
theorem getD_set_ne {xs : List Int} {i j : Nat} (v : Int) (h : i ≠ j) : (xs.set i v).getD j 0 = xs.getD j 0 := by simp [List.getD, List.getElem?_set, h]
abbrev applyArgs (k p n : Int) (m : Nat) (w : List Int) (code key v : Int) : List T := [.agg [.v (.int .i64 k), .v (.int .i64 p), .v (.int .i64 n)], .fl [.u64] m w, .agg [.v (.int .i64 code), .v (.int .u64 key), .v (.int .u64 v)]]
abbrev applyT (r : List Int × Int × Int × Int) : T := .tup [.ow 0 1 r.1.length, .agg [.v (.int .i64 r.2.1), .v (.int .u64 r.2.2.1)], .v (.int .i64 r.2.2.2)]
abbrev applyB (r : List Int × Int × Int × Int) : Hp := [(0, .fl [.u64] r.1)]
attribute [local irreducible] fitsB rightB
set_option maxRecDepth 100000 in
theorem applyN_pure (k p n : Int) (m : Nat) (w : List Int) (code key v : Int) (hf : fitsB k p n = true) (h1 : k ≠ 1) (h2 : k ≠ 5) : Pure Tryd.prog glR 24 (applyArgs k p n m w code key v) (applyT ([], 0, 0, 5)) (applyB ([], 0, 0, 5)) := by
  refine pure_of (C := ctxPlC Tryd.prog inlPl_ok) ctxPlC_good Tryd.func24 (c := bodyOf Tryd.f24) (by rfl) (Nat.le_of_ble_eq_true (by rfl)) 4 4 [0, 1, 2, 3, 5, 6, 7, 8, 9, 10, 11, 24, 30, 36, 44, 54] ?_
  conv => whnf
  repeat' (first | (refine ifB_t (by assumption) ?_; conv => whnf) | (refine ifB_f (by assumption) ?_; conv => whnf) | (refine ifB_dec (fun h => ?_) (fun h => ?_) <;> (first | (exfalso; omega) | (conv => whnf))) | (refine ifB_eq (fun h => ?_) (fun h => ?_) <;> (first | (exfalso; omega) | (conv => whnf))) | (refine ifB_ne (fun h => ?_) (fun h => ?_) <;> (first | (exfalso; omega) | (conv => whnf))) | (refine ifB_not ?_; conv => whnf) | (refine ifB_and ?_; conv => whnf) | (refine ifB_or ?_; conv => whnf) | (refine And.intro ?_ ?_; (first | omega | assumption | (exact allU_getD (by assumption) _) | (simp only [cutL]; omega) | (refine And.intro ?_ ?_ <;> first | assumption | exact allU_getD (by assumption) _) | (simp only [cutL, IntKind.wrap_u64, IntKind.wrap_i64] at *; omega) | decide); conv => whnf) | (refine ifB_mk (fun h => ?_) (fun h => ?_) <;> (conv => whnf)))
  all_goals repeat' (first | exact trivial | exact rfl | (refine And.intro ?_ ?_) | ((conv => whnf); done) | ((conv => whnf); (first | rfl | (refine congrArg (fun b => T.v (Value.bool b)) ?_; first | rfl | exact (decide_eq_true (by omega)).symm | exact (decide_eq_false (by omega)).symm | exact decide_eq_decide.2 (by omega)) | (refine congrArg (fun b => T.v (Value.int _ b)) ?_; first | rfl | omega) | omega)) | (first | rfl | (refine congrArg (fun b => T.v (Value.bool b)) ?_; first | rfl | exact (decide_eq_true (by omega)).symm | exact (decide_eq_false (by omega)).symm | exact decide_eq_decide.2 (by omega)) | (refine congrArg (fun b => T.v (Value.int _ b)) ?_; first | rfl | omega) | omega))
set_option maxRecDepth 100000 in
theorem applyF_pure (k p n : Int) (m : Nat) (w : List Int) (code key v : Int) (hf : fitsB k p n = false) : Pure Tryd.prog glR 24 (applyArgs k p n m w code key v) (applyT ([], 0, 0, 5)) (applyB ([], 0, 0, 5)) := by
  refine pure_of (C := ctxPlC Tryd.prog inlPl_ok) ctxPlC_good Tryd.func24 (c := bodyOf Tryd.f24) (by rfl) (Nat.le_of_ble_eq_true (by rfl)) 4 4 [0, 1, 2, 3, 5, 6, 7, 8, 9, 10, 11, 24, 30, 36, 44, 54] ?_
  conv => whnf
  repeat' (first | (refine ifB_t (by assumption) ?_; conv => whnf) | (refine ifB_f (by assumption) ?_; conv => whnf) | (refine ifB_dec (fun h => ?_) (fun h => ?_) <;> (first | (exfalso; omega) | (conv => whnf))) | (refine ifB_eq (fun h => ?_) (fun h => ?_) <;> (first | (exfalso; omega) | (conv => whnf))) | (refine ifB_ne (fun h => ?_) (fun h => ?_) <;> (first | (exfalso; omega) | (conv => whnf))) | (refine ifB_not ?_; conv => whnf) | (refine ifB_and ?_; conv => whnf) | (refine ifB_or ?_; conv => whnf) | (refine And.intro ?_ ?_; (first | omega | assumption | (exact allU_getD (by assumption) _) | (simp only [cutL]; omega) | (refine And.intro ?_ ?_ <;> first | assumption | exact allU_getD (by assumption) _) | (simp only [cutL, IntKind.wrap_u64, IntKind.wrap_i64] at *; omega) | decide); conv => whnf) | (refine ifB_mk (fun h => ?_) (fun h => ?_) <;> (conv => whnf)))
  repeat' (first | exact trivial | exact rfl | (refine And.intro ?_ ?_) | ((conv => whnf); done) | ((conv => whnf); (first | rfl | (refine congrArg (fun b => T.v (Value.bool b)) ?_; first | rfl | exact (decide_eq_true (by omega)).symm | exact (decide_eq_false (by omega)).symm | exact decide_eq_decide.2 (by omega)) | (refine congrArg (fun b => T.v (Value.int _ b)) ?_; first | rfl | omega) | omega)) | (first | rfl | (refine congrArg (fun b => T.v (Value.bool b)) ?_; first | rfl | exact (decide_eq_true (by omega)).symm | exact (decide_eq_false (by omega)).symm | exact decide_eq_decide.2 (by omega)) | (refine congrArg (fun b => T.v (Value.int _ b)) ?_; first | rfl | omega) | omega))
set_option maxRecDepth 100000 in
theorem applyL_pure (k p n : Int) (m : Nat) (w : List Int) (code key v : Int) (hf : fitsB k p n = true) (hk : k = 1 ∨ k = 5) (hm : (m : Int) ≠ homeI k n) : Pure Tryd.prog glR 24 (applyArgs k p n m w code key v) (applyT ([], 0, 0, 2)) (applyB ([], 0, 0, 2)) := by
  refine pure_of (C := ctxPlC Tryd.prog inlPl_ok) ctxPlC_good Tryd.func24 (c := bodyOf Tryd.f24) (by rfl) (Nat.le_of_ble_eq_true (by rfl)) 4 4 [0, 1, 2, 3, 5, 6, 7, 8, 9, 10, 11, 24, 30, 36, 44, 54] ?_
  conv => whnf
  repeat' (first | (refine ifB_t (by assumption) ?_; conv => whnf) | (refine ifB_f (by assumption) ?_; conv => whnf) | (refine ifB_dec (fun h => ?_) (fun h => ?_) <;> (first | (exfalso; omega) | (conv => whnf))) | (refine ifB_eq (fun h => ?_) (fun h => ?_) <;> (first | (exfalso; omega) | (conv => whnf))) | (refine ifB_ne (fun h => ?_) (fun h => ?_) <;> (first | (exfalso; omega) | (conv => whnf))) | (refine ifB_not ?_; conv => whnf) | (refine ifB_and ?_; conv => whnf) | (refine ifB_or ?_; conv => whnf) | (refine And.intro ?_ ?_; (first | omega | assumption | (exact allU_getD (by assumption) _) | (simp only [cutL]; omega) | (refine And.intro ?_ ?_ <;> first | assumption | exact allU_getD (by assumption) _) | (simp only [cutL, IntKind.wrap_u64, IntKind.wrap_i64] at *; omega) | decide); conv => whnf) | (refine ifB_mk (fun h => ?_) (fun h => ?_) <;> (conv => whnf)))
  all_goals first | (exact absurd (by assumption) hm) | repeat' (first | exact trivial | exact rfl | (refine And.intro ?_ ?_) | ((conv => whnf); done) | ((conv => whnf); (first | rfl | (refine congrArg (fun b => T.v (Value.bool b)) ?_; first | rfl | exact (decide_eq_true (by omega)).symm | exact (decide_eq_false (by omega)).symm | exact decide_eq_decide.2 (by omega)) | (refine congrArg (fun b => T.v (Value.int _ b)) ?_; first | rfl | omega) | omega)) | (first | rfl | (refine congrArg (fun b => T.v (Value.bool b)) ?_; first | rfl | exact (decide_eq_true (by omega)).symm | exact (decide_eq_false (by omega)).symm | exact decide_eq_decide.2 (by omega)) | (refine congrArg (fun b => T.v (Value.int _ b)) ?_; first | rfl | omega) | omega))
set_option maxRecDepth 100000 in
theorem applyR_pure (p n : Int) (x code key v : Int) (hf : fitsB 1 p n = true) (hx : U64 x) (hk : U64 key) (hv : U64 v) : Pure Tryd.prog glR 24 (applyArgs 1 p n 1 [x] code key v) (applyT (applyS 1 p n [x] code key v)) (applyB (applyS 1 p n [x] code key v)) := by
  have e : applyS 1 p n [x] code key v = if iCanon x = x then ((regDo x code v).1, (regDo x code v).2.1, (regDo x code v).2.2, 0) else ([], 0, 0, 2) := by simp [applyS, hf, homeI]
  rw [e]; clear e
  refine pure_of (C := ctxPlC Tryd.prog inlPl_ok) ctxPlC_good Tryd.func24 (c := bodyOf Tryd.f24) (by rfl) (Nat.le_of_ble_eq_true (by rfl)) 4 4 [0, 1, 2, 3, 5, 6, 7, 8, 9, 10, 11, 24, 30, 36, 44, 54] ?_
  conv => whnf
  have gx : [x].getD (0 + Int.toNat 0 * (0 + 1)) 0 = x := rfl
  have gy : [x].getD (0 + addN 0 (Int.toNat 0) * (0 + 1)) 0 = x := rfl
  repeat' (first | (refine ifB_t (by assumption) ?_; conv => whnf) | (refine ifB_f (by assumption) ?_; conv => whnf) | (refine ifB_dec (fun h => ?_) (fun h => ?_) <;> (first | (exfalso; omega) | (conv => whnf))) | (refine ifB_eq (fun h => ?_) (fun h => ?_) <;> (first | (exfalso; omega) | (conv => whnf))) | (refine ifB_ne (fun h => ?_) (fun h => ?_) <;> (first | (exfalso; omega) | (conv => whnf))) | (refine ifB_not ?_; conv => whnf) | (refine ifB_and ?_; conv => whnf) | (refine ifB_or ?_; conv => whnf) | (refine And.intro ?_ ?_; (first | omega | assumption | (exact allU_getD (by assumption) _) | (simp only [cutL]; omega) | (refine And.intro ?_ ?_ <;> first | assumption | exact allU_getD (by assumption) _) | (simp only [cutL, IntKind.wrap_u64, IntKind.wrap_i64] at *; omega) | decide); conv => whnf) | (refine ifB_mk (fun h => ?_) (fun h => ?_) <;> (conv => whnf)))
  all_goals (first | rw [if_neg (by assumption)] | rw [if_pos (by assumption)])
  all_goals first | (subst code; repeat' (first | exact trivial | exact rfl | (refine And.intro ?_ ?_) | ((conv => whnf); done) | ((conv => whnf); (first | rfl | (refine congrArg (fun b => T.v (Value.bool b)) ?_; first | rfl | exact (decide_eq_true (by omega)).symm | exact (decide_eq_false (by omega)).symm | exact decide_eq_decide.2 (by omega)) | (refine congrArg (fun b => T.v (Value.int _ b)) ?_; first | rfl | omega) | omega)) | (first | rfl | (refine congrArg (fun b => T.v (Value.bool b)) ?_; first | rfl | exact (decide_eq_true (by omega)).symm | exact (decide_eq_false (by omega)).symm | exact decide_eq_decide.2 (by omega)) | (refine congrArg (fun b => T.v (Value.int _ b)) ?_; first | rfl | omega) | omega))) | (rw [show regDo x code v = ([x], 10, 0) from by unfold regDo; rw [if_neg (by assumption), if_neg (by assumption), if_neg (by assumption), if_neg (by assumption)]]; repeat' (first | exact trivial | exact rfl | (refine And.intro ?_ ?_) | ((conv => whnf); done) | ((conv => whnf); (first | rfl | (refine congrArg (fun b => T.v (Value.bool b)) ?_; first | rfl | exact (decide_eq_true (by omega)).symm | exact (decide_eq_false (by omega)).symm | exact decide_eq_decide.2 (by omega)) | (refine congrArg (fun b => T.v (Value.int _ b)) ?_; first | rfl | omega) | omega)) | (first | rfl | (refine congrArg (fun b => T.v (Value.bool b)) ?_; first | rfl | exact (decide_eq_true (by omega)).symm | exact (decide_eq_false (by omega)).symm | exact decide_eq_decide.2 (by omega)) | (refine congrArg (fun b => T.v (Value.int _ b)) ?_; first | rfl | omega) | omega))) | repeat' (first | exact trivial | exact rfl | (refine And.intro ?_ ?_) | ((conv => whnf); done) | ((conv => whnf); (first | rfl | (refine congrArg (fun b => T.v (Value.bool b)) ?_; first | rfl | exact (decide_eq_true (by omega)).symm | exact (decide_eq_false (by omega)).symm | exact decide_eq_decide.2 (by omega)) | (refine congrArg (fun b => T.v (Value.int _ b)) ?_; first | rfl | omega) | omega)) | (first | rfl | (refine congrArg (fun b => T.v (Value.bool b)) ?_; first | rfl | exact (decide_eq_true (by omega)).symm | exact (decide_eq_false (by omega)).symm | exact decide_eq_decide.2 (by omega)) | (refine congrArg (fun b => T.v (Value.int _ b)) ?_; first | rfl | omega) | omega))
set_option maxRecDepth 100000 in
set_option maxHeartbeats 2000000 in
theorem applyV_pure (p : Int) (n m : Nat) (w : List Int) (code key v : Int) (hf : fitsB 5 p n = true) (hx : AllU w) (hk : U64 key) (hv : U64 v) (hm : m = n + 9) : Pure Tryd.prog glR 24 (applyArgs 5 p n m w code key v) (applyT (applyS 5 p n w code key v)) (applyB (applyS 5 p n w code key v)) := by
  refine pure_wf fun hw => ?_
  obtain ⟨-, ⟨w1, w2⟩, -⟩ := hw
  simp only [List.length_cons, List.length_nil, Nat.zero_add, Nat.mul_one] at w1
  have e : applyS 5 p n w code key v = if rightB n w = true then ((balDo n w code key v).1, (balDo n w code key v).2.1, (balDo n w code key v).2.2, 0) else ([], 0, 0, 2) := by simp [applyS, hf, homeI, w1, hm]; intro h; omega
  rw [e]; clear e
  have hn := (fitsB_room hf).2.2.2.2
  have hR : ∃ n0 : Nat, (n : Int) = (n0 : Int) ∧ AllU w ∧ m = n0 + 9 ∧ n0 ≤ 1000 := ⟨n, rfl, hx, hm, by omega⟩
  obtain ⟨hk1, hk2⟩ : 0 ≤ key ∧ key < 18446744073709551616 := ⟨hk.1, by have := hk.2; omega⟩
  have hh : (m : Int) = homeI 5 n := by show (m : Int) = 9 + n; omega
  have ec : cutL (cutL m (some 1) none) none (some (n : Int)) = n := by simp only [cutL]; omega
  have ed : cutL (cutL m (some 1) none) (some (n : Int)) none = 8 := by simp only [cutL]; omega
  have ew : IntKind.u64.wrap ((cutL (cutL m (some 1) none) none (some (n : Int)) : Nat) : Int) = n := by rw [ec, IntKind.wrap_u64]; omega
  refine pure_of (C := ctxPlC Tryd.prog inlPl_ok) ctxPlC_good Tryd.func24 (c := bodyOf Tryd.f24) (by rfl) (Nat.le_of_ble_eq_true (by rfl)) 4 4 [0, 1, 2, 3, 5, 6, 7, 8, 9, 10, 11, 24, 30, 36, 44, 54] ?_
  conv => whnf
  repeat' (first | (refine ifB_t (by assumption) ?_; conv => whnf) | (refine ifB_f (by assumption) ?_; conv => whnf) | (refine ifB_dec (fun h => ?_) (fun h => ?_) <;> (first | (exfalso; omega) | (conv => whnf))) | (refine ifB_eq (fun h => ?_) (fun h => ?_) <;> (first | (exfalso; omega) | (conv => whnf))) | (refine ifB_ne (fun h => ?_) (fun h => ?_) <;> (first | (exfalso; omega) | (conv => whnf))) | (refine ifB_not ?_; conv => whnf) | (refine ifB_and ?_; conv => whnf) | (refine ifB_or ?_; conv => whnf) | (refine And.intro ?_ ?_; (first | omega | assumption | (exact allU_getD (by assumption) _) | (simp only [cutL]; omega) | (refine And.intro ?_ ?_ <;> first | assumption | exact allU_getD (by assumption) _) | (simp only [cutL, IntKind.wrap_u64, IntKind.wrap_i64] at *; omega) | decide); conv => whnf) | (refine ifB_mk (fun h => ?_) (fun h => ?_) <;> (conv => whnf)))
  all_goals first | (exact absurd hh (by assumption)) | skip
  all_goals first | (rw [if_neg (fun e => Bool.false_ne_true ((by assumption : rightB _ _ = false).symm.trans e))]; (repeat' (first | exact trivial | exact rfl | (refine And.intro ?_ ?_) | ((conv => whnf); done) | ((conv => whnf); (first | rfl | (refine congrArg (fun b => T.v (Value.bool b)) ?_; first | rfl | exact (decide_eq_true (by omega)).symm | exact (decide_eq_false (by omega)).symm | exact decide_eq_decide.2 (by omega)) | (refine congrArg (fun b => T.v (Value.int _ b)) ?_; first | rfl | omega) | omega)) | (first | rfl | (refine congrArg (fun b => T.v (Value.bool b)) ?_; first | rfl | exact (decide_eq_true (by omega)).symm | exact (decide_eq_false (by omega)).symm | exact decide_eq_decide.2 (by omega)) | (refine congrArg (fun b => T.v (Value.int _ b)) ?_; first | rfl | omega) | omega))); done) | skip
  all_goals (rw [if_pos (by assumption)]; obtain ⟨r, hr⟩ : ∃ r, balDo n w code key v = r := ⟨_, rfl⟩; rw [hr]; unfold balDo at hr)
  all_goals (repeat (first | rw [if_pos (by first | assumption | omega | (simp only [addN_eq, loN, Nat.zero_add, Nat.mul_one, Nat.zero_mul, Nat.add_zero, Int.toNat_zero] at *; first | assumption | omega))] at hr | rw [if_neg (by first | assumption | omega | (simp only [addN_eq, loN, Nat.zero_add, Nat.mul_one, Nat.zero_mul, Nat.add_zero, Int.toNat_zero] at *; first | assumption | omega))] at hr))
  all_goals (subst hr)
  all_goals repeat' (first | exact trivial | exact rfl | (refine And.intro ?_ ?_) | ((conv => whnf); done) | ((conv => whnf); (first | rfl | (refine congrArg (fun b => T.v (Value.bool b)) ?_; first | rfl | exact (decide_eq_true (by omega)).symm | exact (decide_eq_false (by omega)).symm | exact decide_eq_decide.2 (by omega)) | (refine congrArg (fun b => T.v (Value.int _ b)) ?_; first | rfl | omega) | omega)) | (first | rfl | (refine congrArg (fun b => T.v (Value.bool b)) ?_; first | rfl | exact (decide_eq_true (by omega)).symm | exact (decide_eq_false (by omega)).symm | exact decide_eq_decide.2 (by omega)) | (refine congrArg (fun b => T.v (Value.int _ b)) ?_; first | rfl | omega) | omega))
  all_goals (conv => whnf)
  all_goals first | (simp [w1]; done) | (have wk : IntKind.u64.wrap (key - 1) = key - 1 := (by rw [IntKind.wrap_u64]; omega); refine congrArg (fun b => T.v (Value.int _ b)) ?_; rw [wk]; (try dsimp only); simp only [addN_eq, loN, Nat.zero_add, Nat.mul_one]; refine congrArg (fun i => List.getD w i 0) ?_; (try dsimp only); omega) | (refine congrArg (fun b => T.v (Value.int _ b)) ?_; (try dsimp only); simp only [addN_eq, loN, Nat.zero_add, Nat.mul_one]; refine congrArg (fun i => List.getD w i 0) ?_; (try dsimp only); omega) | skip
  have wv : IntKind.u64.wrap (v - 1) = v - 1 := by rw [IntKind.wrap_u64]; omega
  have ea : 0 + addN (addN (addN 0 (loN (some 1))) (loN none)) key.toNat * (0 + 1) = 1 + key.toNat := by simp [addN_eq, loN]
  have eb : 0 + addN (addN (addN 0 (loN (some 1))) (loN (some (n : Int)))) (v - 1).toNat * (0 + 1) = n + v.toNat := by simp only [addN_eq, loN]; (try dsimp only); omega
  rw [wv, ea, eb, Nat.add_zero, Nat.add_zero]
  try dsimp only
  rw [getD_set_ne _ (by omega)]
theorem apply_pure (k p n : Int) (m : Nat) (w : List Int) (code key v : Int) (hx : AllU w) (hk : U64 key) (hv : U64 v) : Pure Tryd.prog glR 24 (applyArgs k p n m w code key v) (applyT (applyS k p n w code key v)) (applyB (applyS k p n w code key v)) := by
  refine pure_wf fun hw => ?_
  obtain ⟨-, ⟨w1, w2⟩, -⟩ := hw
  simp only [List.length_cons, List.length_nil, Nat.zero_add, Nat.mul_one] at w1
  cases hf : fitsB k p n
  · have e : applyS k p n w code key v = ([], 0, 0, 5) := by simp [applyS, hf]
    rw [e]; exact applyF_pure _ _ _ _ _ _ _ _ hf
  by_cases h15 : k = 1 ∨ k = 5
  · by_cases hm : (m : Int) = homeI k n
    · rcases h15 with rfl | rfl
      · have hl : w.length = 1 := by rw [w1]; have : (m : Int) = 1 := hm; omega
        obtain ⟨x, rfl⟩ := List.length_eq_one_iff.1 hl
        have : m = 1 := by rw [← w1]; rfl
        subst this
        exact applyR_pure _ _ _ _ _ _ hf (hx x (List.mem_cons_self ..)) hk hv
      · have hn := (fitsB_room hf).2.2.2.2
        have hm : (m : Int) = 9 + n := hm
        obtain ⟨n0, rfl⟩ := Int.eq_ofNat_of_zero_le (a := n) (by omega)
        exact applyV_pure _ _ _ _ _ _ _ hf hx hk hv (by omega)
    · have e : applyS k p n w code key v = ([], 0, 0, 2) := by unfold applyS; rw [if_pos ⟨hf, h15⟩, if_neg (by rw [w1]; exact hm)]
      rw [e]; exact applyL_pure _ _ _ _ _ _ _ _ hf h15 hm
  · have e : applyS k p n w code key v = ([], 0, 0, 5) := by unfold applyS; rw [if_neg (fun h => h15 h.2)]
    rw [e]; exact applyN_pure _ _ _ _ _ _ _ _ hf (fun h => h15 (.inl h)) (fun h => h15 (.inr h))
def eApply : Entry := ⟨24, 3, fun l => match l with | [.agg [.v (.int .i64 k), .v (.int .i64 p), .v (.int .i64 n)], .fl [.u64] m w, .agg [.v (.int .i64 code), .v (.int .u64 key), .v (.int .u64 v)]] => some (some (AllU w ∧ U64 key ∧ U64 v), applyT (applyS k p n w code key v), applyB (applyS k p n w code key v)) | _ => none⟩
theorem eApply_ok : eApply.ok Tryd.prog glR := ⟨enters_of Tryd.func24 (by kernel_rfl) (by kernel_rfl), by
  intro args c t bs h hc
  simp only [eApply] at h
  split at h <;> cases h
  replace hc := hc _ rfl
  exact apply_pure _ _ _ _ _ _ _ _ hc.1 hc.2.1 hc.2.2⟩
end Go.Proofs.YtlcpcgdecodjfaaDoor
