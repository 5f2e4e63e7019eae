/- diff: awake. -/
import Derived.Test.YteinekidpokbpaaDfI
namespace Go.Proofs.Yteinekidpokbpaa.DfT
open Go.RowKit Go.Proofs.Yteinekidpokbpaa.Am Go.Proofs.Yteinekidpokbpaa Go.Proofs.Yteinekidpokbpaa.PrT
set_option linter.unusedVariables false
set_option linter.unusedSimpArgs false


/-! the same, that no walk may look into -/
noncomputable def ofLo : List Int → List Int → Int → List R := Classical.choose (p := fun f => f = ofL) ⟨ofL, rfl⟩
theorem ofLo_eq : ofLo = ofL := Classical.choose_spec (p := fun f => f = ofL) ⟨ofL, rfl⟩
noncomputable def ofEo : List Int → List Int → Int → Int := Classical.choose (p := fun f => f = ofE) ⟨ofE, rfl⟩
theorem ofEo_eq : ofEo = ofE := Classical.choose_spec (p := fun f => f = ofE) ⟨ofE, rfl⟩
noncomputable def ptSo : Int → List Int → List R → List Int := Classical.choose (p := fun f => f = ptS) ⟨ptS, rfl⟩
theorem ptSo_eq : ptSo = ptS := Classical.choose_spec (p := fun f => f = ptS) ⟨ptS, rfl⟩
noncomputable def ptEo : Int → Nat → List R → Int := Classical.choose (p := fun f => f = ptE) ⟨ptE, rfl⟩
theorem ptEo_eq : ptEo = ptE := Classical.choose_spec (p := fun f => f = ptE) ⟨ptE, rfl⟩
noncomputable def thno : List R → List R → List R := Classical.choose (p := fun f => f = thn) ⟨thn, rfl⟩
theorem thno_eq : thno = thn := Classical.choose_spec (p := fun f => f = thn) ⟨thn, rfl⟩
noncomputable def rco : Nat → List Int → List R := Classical.choose (p := fun f => f = fun n xs => recs n 2 xs) ⟨_, rfl⟩
theorem rco_eq : rco = fun n xs => recs n 2 xs := Classical.choose_spec (p := fun f => f = fun n xs => recs n 2 xs) ⟨_, rfl⟩
noncomputable def zBo : List Int → Bool := Classical.choose (p := fun f => f = zB) ⟨zB, rfl⟩
theorem zBo_eq : zBo = zB := Classical.choose_spec (p := fun f => f = zB) ⟨zB, rfl⟩
noncomputable def eDZeroO : Entry := ⟨16, 6, fun l => match l with | [.fl [.u64] n xs] => some (none, .v (.bool (zBo xs)), []) | _ => none⟩
theorem eDZeroO_ok : eDZeroO.ok Try.prog glR := ⟨Am.enters_of Try.func16 (by kernel_rfl) (by kernel_rfl), by
  intro args c t bs h hc
  simp only [eDZeroO] at h
  split at h <;> cases h
  exact (by rw [zBo_eq]; exact dzero_pure _ _)⟩
noncomputable def eOfO : Entry := ⟨11, 7, fun l => match l with | [.fl [.u64] n a, .fl [.u64] m b, .v (.int .i64 base)] => some (some (n ≤ 4096), .tup [.ow 0 2 (ofLo a b base).length, .v (.int .i64 (ofEo a b base))], [(0, .fl [.i64, .u64] (flat 2 (ofLo a b base)))]) | _ => none⟩
theorem eOfO_ok : eOfO.ok Try.prog glR := ⟨Am.enters_of Try.func11 (by kernel_rfl) (by kernel_rfl), by
  intro args c t bs h hc
  simp only [eOfO] at h
  split at h <;> cases h
  replace hc := hc _ rfl
  exact (by rw [ofLo_eq, ofEo_eq]; exact of_pure _ _ _ _ _ hc)⟩
noncomputable def ePatchO : Entry := ⟨18, 4, fun l => match l with | [.fl [.u64] n a, .v (.int .i64 base), .fl [.i64, .u64] m xs] => some (some (n ≤ 4096 ∧ WfW (rco m xs)), .tup [.ow 0 1 (ptSo base a (rco m xs)).length, .v (.int .i64 (ptEo base n (rco m xs)))], [(0, .fl [.u64] (ptSo base a (rco m xs)))]) | _ => none⟩
theorem ePatchO_ok : ePatchO.ok Try.prog glR := ⟨Am.enters_of Try.func18 (by kernel_rfl) (by kernel_rfl), by
  intro args c t bs h hc
  simp only [ePatchO] at h
  split at h <;> cases h
  replace hc := hc _ rfl
  exact (by rw [rco_eq] at hc; rw [rco_eq, ptSo_eq, ptEo_eq]; exact patch_pure _ _ _ _ _ hc.1 hc.2)⟩
noncomputable def eThenO : Entry := ⟨20, 7, fun l => match l with
  | [.fl [.i64, .u64] n xs, .fl [.i64, .u64] m ys] => some (some ((n ≤ 4096 ∧ m ≤ 4096) ∧ WfW (rco n xs) ∧ WfW (rco m ys)), .ow 0 2 (thno (rco n xs) (rco m ys)).length, [(0, .fl [.i64, .u64] (flat 2 (thno (rco n xs) (rco m ys))))])
  | _ => none⟩
theorem eThenO_ok : eThenO.ok Try.prog glR := ⟨Am.enters_of Try.func20 (by kernel_rfl) (by kernel_rfl), by
  intro args c t bs h hc
  simp only [eThenO] at h
  split at h <;> cases h
  replace hc := hc _ rfl
  rw [rco_eq] at hc
  rw [rco_eq, thno_eq]
  exact then_pure _ _ _ _ hc.1.1 hc.1.2 hc.2.1 hc.2.2⟩
noncomputable def ctxAw (P : Program) : Ctx := ctx P glR [eOfO, ePatchO, eThenO, eWr, eSame, eDSame, eDZeroO] [] (noEq P) [] (fun _ h => by cases h)
theorem ctxAw_good : (ctxAw Try.prog).good := ctx_good (by kernel_rfl) (AllOk.mem ⟨eOfO_ok, ePatchO_ok, eThenO_ok, eWr_ok, eSame_ok, eDSame_ok, eDZeroO_ok, trivial⟩) glR_two
theorem aw1 : ofLo [5, 6, 7] [5, 8, 9] 10 = [(11, 8), (12, 9)] := by rw [ofLo_eq]; decide
theorem aw2 : ofEo [5, 6, 7] [5, 8, 9] 10 = 0 := by rw [ofEo_eq]; decide
theorem aw3 : ptSo 10 [5, 6, 7] [(11, 8), (12, 9)] = [5, 8, 9] := by rw [ptSo_eq]; decide
theorem aw4 : ptEo 10 3 [(11, 8), (12, 9)] = 0 := by rw [ptEo_eq]; decide
theorem aw5 : ptSo 10 [5, 6, 7] [(13, 0)] = [] := by rw [ptSo_eq]; decide
theorem aw6 : ptEo 10 3 [(13, 0)] = 1 := by rw [ptEo_eq]; decide
theorem aw7 : ofLo [5, 6, 7] [5, 8] 10 = [] := by rw [ofLo_eq]; decide
theorem aw8 : ofEo [5, 6, 7] [5, 8] 10 = 1 := by rw [ofEo_eq]; decide
theorem aw9 : thno [(11, 8), (12, 9)] [(11, 4)] = [(11, 4), (12, 9)] := by rw [thno_eq]; decide
theorem aw10 : zBo [0, 0] = true := by rw [zBo_eq]; decide
theorem aw11 : zBo [5, 6, 7] = false := by rw [zBo_eq]; decide
theorem rf (T : List R) : rco T.length (flat 2 T) = T := by rw [rco_eq]; exact recs_flat (.inr rfl) rfl (fun q => by cases q)
theorem wf1 : WfW [(11, 8), (12, 9)] := fun w hw => by
  simp only [List.mem_cons, List.not_mem_nil, or_false] at hw
  rcases hw with rfl | rfl <;> exact ⟨by decide, by decide⟩
theorem wf2 : WfW [(13, 0)] := fun w hw => by
  simp only [List.mem_cons, List.not_mem_nil, or_false] at hw
  rcases hw with rfl; exact ⟨by decide, by decide⟩
theorem wf3 : WfW [(11, 4)] := fun w hw => by
  simp only [List.mem_cons, List.not_mem_nil, or_false] at hw
  rcases hw with rfl; exact ⟨by decide, by decide⟩
theorem rc2 : rco 1 [13, 0] = [(13, 0)] := by rw [rco_eq]; decide
theorem rc3 : rco 1 [11, 4] = [(11, 4)] := by rw [rco_eq]; decide
attribute [local irreducible] recs dfs ptL Bd thn ofL ofE ptS ptE zB
set_option maxHeartbeats 1000000 in
set_option maxRecDepth 100000 in
theorem awake_pure : Pure Try.prog glR 7 [] (.v (.bool true)) := by
  refine pure_of (C := ctxAw Try.prog) ctxAw_good Try.func7 (c := bodyOf Try.f7) (by rfl) (Nat.le_of_ble_eq_true (by rfl)) 4 0 [0, 1, 2, 3, 4, 5, 6, 8, 10, 11] ?_
  conv => whnf
  repeat (refine And.intro (by first | omega | decide) ?_; conv => whnf)
  rw [aw1, aw2, rf]
  refine And.intro ⟨by decide, wf1⟩ ?_
  conv => whnf
  rw [aw3, aw4]
  refine And.intro ⟨by decide, by rw [rc2]; exact wf2⟩ ?_
  conv => whnf
  rw [rc2, aw5, aw6]
  refine And.intro (by decide) ?_
  conv => whnf
  refine And.intro (by decide) ?_
  conv => whnf
  rw [rf, rc3]
  refine And.intro ⟨by decide, wf1, wf3⟩ ?_
  conv => whnf
  rw [aw9]
  have e3 : List.take (mulN (cutL 3 none (some 2)) (0 + 1)) (List.drop (mulN (addN 0 (loN none)) (0 + 1)) [5, 8, 9]) = ([5, 8] : List Int) := by decide
  rw [e3, aw8]
  conv => whnf
  rw [aw10]
  conv => whnf
  rw [aw11]
  repeat' (first | exact trivial | exact rfl | (refine And.intro ?_ ?_) | ((conv => whnf); done) | ((conv => whnf); (first | rfl | (refine congrArg (fun b => T.v (Value.bool b)) ?_; first | rfl | exact (decide_eq_true (by omega)).symm | exact (decide_eq_false (by omega)).symm | exact decide_eq_decide.2 (by omega)) | (refine congrArg (fun b => T.v (Value.int _ b)) ?_; first | rfl | omega) | omega)) | (first | rfl | (refine congrArg (fun b => T.v (Value.bool b)) ?_; first | rfl | exact (decide_eq_true (by omega)).symm | exact (decide_eq_false (by omega)).symm | exact decide_eq_decide.2 (by omega)) | (refine congrArg (fun b => T.v (Value.int _ b)) ?_; first | rfl | omega) | omega))
noncomputable def eAwk : Entry := ⟨7, 8, fun l => match l with | [] => some (none, .v (.bool true), []) | _ => none⟩
theorem eAwk_ok : eAwk.ok Try.prog glR := ⟨Am.enters_of Try.func7 (by kernel_rfl) (by kernel_rfl), by
  intro args c t bs h hc
  simp only [eAwk] at h
  split at h <;> cases h
  exact awake_pure⟩
end Go.Proofs.Yteinekidpokbpaa.DfT
