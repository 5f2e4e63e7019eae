/- plain: words that may be, calls. -/
import Derived.Test.YtlcpcgdecodjfaaDoorPlA
namespace Go.Proofs.YtlcpcgdecodjfaaDoor
open Go.RowKit Go.Proofs.YtlcpcgdecodjfaaDoor.Am
set_option linter.unusedVariables false
set_option linter.unusedSimpArgs false

noncomputable def iParts : Inl := ⟨50, Tryd.f50, bodyOf Tryd.f50, [0, 1, 2, 4, 5]⟩
theorem iParts_ok : iParts.ok Tryd.prog := Inl.mk_ok Tryd.func50 (by rfl) (by kernel_rfl) (by kernel_rfl)
def votesW (n : Nat) (w : List Int) : List Int := (w.drop 1).take n
def toldW (n : Nat) (w : List Int) : List Int := w.drop (1 + n)
def rightB (n : Nat) (w : List Int) : Bool := allLe (votesW n w) && (decide (w.getD 0 0 ≤ 1) && decide ((tally9 (votesW n w)).drop 1 = toldW n w))
noncomputable def ctxPlR (P : Program) (h : InlOk P [iParts]) : Ctx := ctx P glR [eCounted, eEqual] [] (noEq P) [iParts] h.mem
theorem inlPlR : InlOk Tryd.prog [iParts] := ⟨iParts_ok, trivial⟩
theorem ctxPlR_good : (ctxPlR Tryd.prog inlPlR).good := ctx_good (by kernel_rfl) (AllOk.mem ⟨eCounted_ok, eEqual_ok, trivial⟩) glR_two
set_option maxRecDepth 100000 in
theorem right_pure (k p : Int) (n : Nat) (xs : List Int) (hx : AllU xs) (m : Nat) (hm : m = n + 9) (hn : n ≤ 1000) : Pure Tryd.prog glR 51 [.agg [.v (.int .i64 k), .v (.int .i64 p), .v (.int .i64 n)], .fl [.u64] m xs] (.v (.bool (rightB n xs))) := by
  refine pure_wf fun hw => ?_
  obtain ⟨-, ⟨w1, w2⟩, -⟩ := hw
  simp only [List.length_cons, List.length_nil, Nat.zero_add, Nat.mul_one] at w1
  refine pure_of (C := ctxPlR Tryd.prog inlPlR) ctxPlR_good Tryd.func51 (c := bodyOf Tryd.f51) (by rfl) (Nat.le_of_ble_eq_true (by rfl)) 4 2 [0, 1, 2, 4, 5, 6, 7, 8] ?_
  conv => whnf
  repeat' (first | (refine ifB_t (by assumption) ?_; conv => whnf) | (refine ifB_f (by assumption) ?_; conv => whnf) | (refine ifB_dec (fun h => ?_) (fun h => ?_) <;> (first | (exfalso; omega) | (conv => whnf))) | (refine ifB_eq (fun h => ?_) (fun h => ?_) <;> (first | (exfalso; omega) | (conv => whnf))) | (refine ifB_ne (fun h => ?_) (fun h => ?_) <;> (first | (exfalso; omega) | (conv => whnf))) | (refine ifB_not ?_; conv => whnf) | (refine ifB_and ?_; conv => whnf) | (refine ifB_or ?_; conv => whnf) | (refine And.intro ?_ ?_; (first | omega | assumption | (exact allU_getD (by assumption) _) | (simp only [cutL]; omega) | (refine And.intro ?_ ?_ <;> first | assumption | exact allU_getD (by assumption) _) | (simp only [cutL, IntKind.wrap_u64, IntKind.wrap_i64] at *; omega) | decide); conv => whnf))
  have e1 : cutN (0 + 1) none (some (n : Int)) (cutN (0 + 1) (some 1) none xs) = votesW n xs := rfl
  have e2 : cutN (0 + 1) (some (n : Int)) none (cutN (0 + 1) (some 1) none xs) = (xs.drop 1).drop n := rfl
  have hv : AllU (votesW n xs) := fun x hx' => hx x (List.mem_of_mem_drop (List.mem_of_mem_take hx'))
  rw [e1]
  refine And.intro hv ?_
  conv => whnf
  repeat' (first | (refine ifB_t (by assumption) ?_; conv => whnf) | (refine ifB_f (by assumption) ?_; conv => whnf) | (refine ifB_dec (fun h => ?_) (fun h => ?_) <;> (first | (exfalso; omega) | (conv => whnf))) | (refine ifB_eq (fun h => ?_) (fun h => ?_) <;> (first | (exfalso; omega) | (conv => whnf))) | (refine ifB_ne (fun h => ?_) (fun h => ?_) <;> (first | (exfalso; omega) | (conv => whnf))) | (refine ifB_not ?_; conv => whnf) | (refine ifB_and ?_; conv => whnf) | (refine ifB_or ?_; conv => whnf) | (refine And.intro ?_ ?_; (first | omega | assumption | (exact allU_getD (by assumption) _) | (simp only [cutL]; omega) | (refine And.intro ?_ ?_ <;> first | assumption | exact allU_getD (by assumption) _) | (simp only [cutL, IntKind.wrap_u64, IntKind.wrap_i64] at *; omega) | decide); conv => whnf) | (refine ifB_mk (fun h => ?_) (fun h => ?_) <;> (conv => whnf)))
  · rename_i h1
    refine congrArg (fun b => T.v (Value.bool b)) ?_
    show decide ([tl (votesW n xs) 1, tl (votesW n xs) 2, tl (votesW n xs) 3, tl (votesW n xs) 4, tl (votesW n xs) 5, tl (votesW n xs) 6, tl (votesW n xs) 7, tl (votesW n xs) 8] = (xs.drop 1).drop n) = _
    have h' : xs.getD 0 0 ≤ 1 := h
    unfold rightB toldW
    rw [h1, decide_eq_true h', Bool.true_and, Bool.true_and, List.drop_drop]
    simp [tl, h1, tally9]
  · rename_i h1
    have h' : ¬ xs.getD 0 0 ≤ 1 := h
    refine congrArg (fun b => T.v (Value.bool b)) ?_
    unfold rightB
    rw [decide_eq_false h', Bool.false_and, Bool.and_false]
  · refine congrArg (fun b => T.v (Value.bool b)) ?_
    unfold rightB
    rw [h, Bool.false_and]
def eRight : Entry := ⟨51, 3, fun l => match l with | [.agg [.v (.int .i64 k), .v (.int .i64 p), .v (.int .i64 c)], .fl [.u64] m xs] => some (some (∃ n : Nat, c = (n : Int) ∧ AllU xs ∧ m = n + 9 ∧ n ≤ 1000), .v (.bool (rightB c.toNat xs)), []) | _ => none⟩
theorem eRight_ok : eRight.ok Tryd.prog glR := ⟨enters_of Tryd.func51 (by kernel_rfl) (by kernel_rfl), by
  intro args c t bs h hc
  simp only [eRight] at h
  split at h <;> cases h
  replace hc := hc _ rfl
  exact (by obtain ⟨n, rfl, h1, h2, h3⟩ := hc; exact right_pure _ _ n _ h1 _ h2 h3)⟩
end Go.Proofs.YtlcpcgdecodjfaaDoor
