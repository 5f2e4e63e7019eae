/- Small laws that walks use. -/
import Derived.Test.YteinekidpokbpaaAmQ
namespace Go.Proofs.Yteinekidpokbpaa.Am
set_option linter.unusedVariables false
open Go.RowKit
theorem ifB_dec {p : Prop} [Decidable p] {A B : Prop} (ha : p → A) (hb : ¬ p → B) : ifB (decide p) A B := by
  by_cases h : p
  · rw [decide_eq_true h]; exact ha h
  · rw [decide_eq_false h]; exact hb h
theorem ifB_eq {x y : Int} {A B : Prop} (ha : x = y → A) (hb : x ≠ y → B) : ifB (x == y) A B := by
  by_cases h : x = y
  · rw [beq_iff_eq.2 h]; exact ha h
  · rw [beq_eq_false_iff_ne.2 h]; exact hb h
theorem ifB_ne {x y : Int} {A B : Prop} (ha : x ≠ y → A) (hb : x = y → B) : ifB (x != y) A B := by
  by_cases h : x = y
  · rw [bne_eq_false_iff_eq.2 h]; exact hb h
  · rw [bne_iff_ne.2 h]; exact ha h
theorem ifB_t {x : Bool} {A B : Prop} (hx : x = true) (h : A) : ifB x A B := by subst hx; exact h
theorem ifB_f {x : Bool} {A B : Prop} (hx : x = false) (h : B) : ifB x A B := by subst hx; exact h
theorem ifB_not {x : Bool} {A B : Prop} (h : ifB x B A) : ifB (!x) A B := by cases x <;> exact h
theorem ifB_and {x y : Bool} {A B : Prop} (h : ifB x (ifB y A B) B) : ifB (x && y) A B := by cases x <;> exact h
theorem ifB_or {x y : Bool} {A B : Prop} (h : ifB x A (ifB y A B)) : ifB (x || y) A B := by cases x <;> exact h
theorem ifB_beqB {x y : Bool} {A B : Prop} (ha : x = y → A) (hb : x ≠ y → B) : ifB (x == y) A B := by
  by_cases h : x = y
  · rw [beq_iff_eq.2 h]; exact ha h
  · rw [beq_eq_false_iff_ne.2 h]; exact hb h
/-! ### tables -/
def AllOk (P : Program) (gl : Nat → T) : List Entry → Prop
  | [] => True
  | e :: r => e.ok P gl ∧ AllOk P gl r
theorem AllOk.mem {P : Program} {gl : Nat → T} : ∀ {l : List Entry}, AllOk P gl l → ∀ e ∈ l, e.ok P gl := by
  intro l
  induction l with
  | nil => intro _ e he; cases he
  | cons a l ih =>
    intro h e he
    rcases List.mem_cons.1 he with rfl | he
    · exact h.1
    · exact ih h.2 e he
def InlOk (P : Program) : List Inl → Prop
  | [] => True
  | e :: r => e.ok P ∧ InlOk P r
theorem InlOk.mem {P : Program} : ∀ {l : List Inl}, InlOk P l → ∀ e ∈ l, e.ok P := by
  intro l
  induction l with
  | nil => intro _ e he; cases he
  | cons a l ih =>
    intro h e he
    rcases List.mem_cons.1 he with rfl | he
    · exact h.1
    · exact ih h.2 e he
def HeldOk (P : Program) : List Nat → Prop
  | [] => True
  | t :: r => P.stoodInHeld t = false ∧ HeldOk P r
theorem HeldOk.mem {P : Program} : ∀ {l : List Nat}, HeldOk P l → ∀ t, hasN l t = true → P.stoodInHeld t = false := by
  intro l
  induction l with
  | nil => intro _ t h; cases h
  | cons a l ih =>
    intro h t ht
    simp only [hasN] at ht
    split at ht
    · rename_i e; rw [← Nat.eq_of_beq_eq_true e]; exact h.1
    · exact ih h.2 t ht
/-- What is walked where it is called: by the program's own text. -/
theorem Inl.mk_ok {P : Program} {f : FuncId} {fn : Func} {c : Code} {lv : List Nat} (hf : P.funcs[f]? = some fn) (hb : fn.body = some c) (h1 : (fn.name == "runtime.NumGoroutine") = false) (h2 : fn.body.isNone = false) : Inl.ok P ⟨f, fn, c, lv⟩ :=
  ⟨hf, hb, enters_of hf h1 h2⟩
theorem HR.start_below {w w' : World} (h : Below w.heap.size w w') : HR w w' (Env.start w) noM (Hp.get []) :=
  ⟨Fr.of_below h, ⟨Nat.le_refl _, Nat.le_refl _, h.size⟩, fun k b h => (by cases h), fun k k' l l' n h => by (rw [lens_nil] at h; cases h), fun k l n h => by (rw [lens_nil] at h; cases h)⟩
/-- A function of values that are wholly known, by its contract. -/
theorem pure_v1 {P : Program} {gl : Nat → T} {f : FuncId} {ts : List T} {vs : List Value} {x : Value} (hv : valTs ts = some vs) (hx : plain x = true) (h : ∀ w, GlP gl w → Calls P f vs.toArray w fun e w' => e = .returned x ∧ Below w.heap.size w w') : Pure P gl f ts (.v x) := by
  intro w us hg ha
  have key : ∀ {ts : List T} {us vs : List Value}, TVs w (fun _ => True) noM noL ts us → valTs ts = some vs → us = vs := by
    intro ts
    induction ts with
    | nil => intro us vs h e; cases h; cases e; rfl
    | cons t ts ih =>
      intro us vs h e
      simp only [valTs] at e
      split at e
      · rename_i e1 e2; cases e; cases h with | cons a b => rw [a.val e1, ih b e2]
      · cases e
  have := key ha hv
  subst this
  refine (h w hg).mono ?_
  rintro e w' ⟨rfl, hb⟩
  exact ⟨_, _, rfl, HR.start_below hb, .v hx⟩
theorem pure_v2 {P : Program} {gl : Nat → T} {f : FuncId} {ts : List T} {vs : List Value} {x y : Value} (hv : valTs ts = some vs) (hx : plain x = true) (hy : plain y = true) (h : ∀ w, GlP gl w → Calls P f vs.toArray w fun e w' => e = .returned (.tuple #[x, y]) ∧ Below w.heap.size w w') : Pure P gl f ts (.tup [.v x, .v y]) := by
  intro w us hg ha
  have key : ∀ {ts : List T} {us vs : List Value}, TVs w (fun _ => True) noM noL ts us → valTs ts = some vs → us = vs := by
    intro ts
    induction ts with
    | nil => intro us vs h e; cases h; cases e; rfl
    | cons t ts ih =>
      intro us vs h e
      simp only [valTs] at e
      split at e
      · rename_i e1 e2; cases e; cases h with | cons a b => rw [a.val e1, ih b e2]
      · cases e
  have := key ha hv
  subst this
  refine (h w hg).mono ?_
  rintro e w' ⟨rfl, hb⟩
  exact ⟨_, _, rfl, HR.start_below hb, .tup (.cons (.v hx) (.cons (.v hy) .nil))⟩
end Go.Proofs.Yteinekidpokbpaa.Am
