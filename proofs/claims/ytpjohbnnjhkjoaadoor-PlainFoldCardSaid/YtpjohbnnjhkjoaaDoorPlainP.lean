/- Plain laws of package plain: what a register's fold by Max is. -/
import Derived.Test.YtpjohbnnjhkjoaaDoorFltP
import Derived.Test.YtpjohbnnjhkjoaaDoorPlainW1
namespace Go.Proofs.YtpjohbnnjhkjoaaDoor
open Go.RowKit
set_option linter.unusedVariables false
set_option linter.unusedSimpArgs false

theorem foldReg3 (ys : List Int) : foldReg 3 ys = ys.foldl iTop 0 := by
  unfold foldReg
  congr 1
  all_goals (try (funext a b; unfold turn; rw [if_neg (by omega), if_pos rfl]))
theorem top_fold_ge : ∀ (ys : List Int) (x : Int), iRank x ≤ iRank (ys.foldl iTop x) ∧ ∀ v ∈ ys, iRank v ≤ iRank (ys.foldl iTop x) := by
  intro ys
  induction ys with
  | nil => intro x; simp
  | cons y ys ih =>
    intro x
    have h := ih (iTop x y)
    have hr := @p_top_rank x y
    rw [List.foldl_cons]
    refine ⟨by have := h.1; omega, fun v hv => ?_⟩
    rcases List.mem_cons.1 hv with rfl | hv
    · have := h.1; omega
    · exact h.2 v hv
theorem top_fold_one : ∀ (ys : List Int) (x : Int), iCanon x = x → ∃ v, (v = x ∨ v ∈ ys) ∧ ys.foldl iTop x = iCanon v := by
  intro ys
  induction ys with
  | nil => intro x hx; exact ⟨x, .inl rfl, hx.symm⟩
  | cons y ys ih =>
    intro x hx
    rw [List.foldl_cons]
    rcases @p_top_one x y with h | h
    · obtain ⟨v, hv, e⟩ := ih (iTop x y) (by rw [h, p_canon2])
      rcases hv with rfl | hv
      · exact ⟨x, .inl rfl, by rw [e, h, p_canon2]⟩
      · exact ⟨v, .inr (List.mem_cons_of_mem _ hv), e⟩
    · obtain ⟨v, hv, e⟩ := ih (iTop x y) (by rw [h, p_canon2])
      rcases hv with rfl | hv
      · exact ⟨y, .inr (List.mem_cons_self ..), by rw [e, h, p_canon2]⟩
      · exact ⟨v, .inr (List.mem_cons_of_mem _ hv), e⟩
theorem canon0 : iCanon 0 = 0 := by decide +kernel
theorem max_has (ys : List Int) : foldReg 3 ys = 0 ∨ ∃ v ∈ ys, foldReg 3 ys = iCanon v := by
  rw [foldReg3]
  obtain ⟨v, hv, e⟩ := top_fold_one ys 0 canon0
  rcases hv with rfl | hv
  · left; rw [e, canon0]
  · exact .inr ⟨v, hv, e⟩
theorem max_less (ys : List Int) (v : Int) (h : v = 0 ∨ v ∈ ys) : bLess (foldReg 3 ys) v = false := by
  rw [p_less_no, foldReg3]
  have := top_fold_ge ys 0
  rcases h with rfl | h
  · have := this.1; omega
  · have := this.2 v h; omega
theorem max_same (ys zs : List Int) (hy : AllU ys) (hz : AllU zs) (h : ∀ v, v ∈ ys ↔ v ∈ zs) : foldReg 3 ys = foldReg 3 zs := by
  have c : ∀ l, iCanon (foldReg 3 l) = foldReg 3 l := by
    intro l
    rcases max_has l with e | ⟨v, _, e⟩
    · rw [e, canon0]
    · rw [e, p_canon2]
  have le : ∀ l m : List Int, (∀ v, v ∈ l → v ∈ m) → iRank (foldReg 3 l) ≤ iRank (foldReg 3 m) := by
    intro l m hlm
    have gm := top_fold_ge m 0
    rw [← foldReg3] at gm
    rcases max_has l with e | ⟨v, hv, e⟩
    · rw [e]; exact gm.1
    · rw [e, p_rank_canon]; exact gm.2 v (hlm v hv)
  have e : iRank (foldReg 3 ys) = iRank (foldReg 3 zs) := Int.le_antisymm (le ys zs fun v hv => (h v).1 hv) (le zs ys fun v hv => (h v).2 hv)
  have := (p_rank_inj (u64_foldReg 3 ys hy) (u64_foldReg 3 zs hz)).1 e
  rwa [c, c] at this
theorem mem_rot (ys : List Int) (k n : Nat) (hn : ys.length = n) (v : Int) : v ∈ ys ↔ v ∈ [] ++ (ys.drop k).take (n - k) ++ (ys.drop 0).take k := by
  have h1 : (ys.drop k).take (n - k) = ys.drop k := List.take_of_length_le (by rw [List.length_drop]; omega)
  rw [h1, List.drop_zero, List.nil_append, List.mem_append, or_comm, ← List.mem_append, List.take_append_drop]
def hasB (a : Int) (ys : List Int) (k : Nat) : Bool := (a == 0) || (ys.take k).any fun v => a == iCanon v
theorem hasB_step {a : Int} {ys : List Int} {k : Nat} (hk : k < ys.length) : hasB a ys (k + 1) = (hasB a ys k || (a == iCanon (ys.getD k 0))) := by
  unfold hasB; rw [take_succ_getD hk]; simp [Bool.or_assoc]
theorem hasB_all (ys : List Int) (n : Nat) (hn : ys.length = n) : hasB (foldReg 3 ys) ys n = true := by
  unfold hasB
  rw [List.take_of_length_le (by omega)]
  rcases max_has ys with e | ⟨v, hv, e⟩
  · rw [e]; rfl
  · rw [Bool.or_eq_true]; right; rw [List.any_eq_true]; exact ⟨v, hv, by rw [e]; simp⟩
end Go.Proofs.YtpjohbnnjhkjoaaDoor
