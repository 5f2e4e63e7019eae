/- The variables that are laid, as the machine knows them; small laws. -/
import Derived.Test.YteinekidpokbpaaWord
import Derived.Test.YteinekidpokbpaaAmT
namespace Go.Proofs.Yteinekidpokbpaa
open Go.RowKit Go.Proofs.Yteinekidpokbpaa.Am
set_option linter.unusedVariables false
set_option linter.unusedSimpArgs false

def bodyOf (f : Func) : Code := match f.body with | some c => c | none => .skip
def objX : List Int := [0, 0, 1, 0, 1, 2, 1, 4, 2, 4, 9, 1]
def mixX : List Int := [30, 13787848793156543929, 27, 10723151780598845931, 31, 1]
/-- What the rows of the plain laws lay; and with it what is laid for mixing. -/
def glR (g : Nat) : T := match g with
  | _ => .dead
def glM (g : Nat) : T := match g with
  | _ => .dead
theorem glR_two : ∀ g, glR g = .dead ∨ ∃ ks xs b st i e, glR g = .fp ks xs b st i e := by
  intro g; unfold glR
  first | exact .inl rfl | (split <;> first | exact .inr ⟨_, _, _, _, _, _, rfl⟩ | exact .inl rfl)
theorem glM_two : ∀ g, glM g = .dead ∨ ∃ ks xs b st i e, glM g = .fp ks xs b st i e := by
  intro g; unfold glM
  first | exact .inl rfl | (split <;> first | exact .inr ⟨_, _, _, _, _, _, rfl⟩ | exact .inl rfl)
theorem glR_glM (g : Nat) : glR g = .dead ∨ glR g = glM g := by
  unfold glR
  first | exact .inl rfl | (split <;> first | exact .inr rfl | exact .inl rfl)
theorem pure_lift {P : Program} {f : FuncId} {args : List T} {t : T} {bs : Hp} (h : Pure P glR f args t bs) : Pure P glM f args t bs := fun w vs hg ha =>
  h w vs (fun g => by rcases glR_glM g with e | e <;> rw [e]; exact .dead; exact hg g) ha
theorem entry_lift {P : Program} {e : Entry} (h : e.ok P glR) : e.ok P glM := ⟨h.enters, fun args c t bs hs hc => pure_lift (h.calls args c t bs hs hc)⟩
theorem wrap64 {a : Int} (h1 : -9223372036854775808 ≤ a) (h2 : a ≤ 9223372036854775807) : IntKind.i64.wrap a = a := by
  rw [IntKind.wrap_i64]; omega
theorem wrapU {a : Int} (h1 : 0 ≤ a) (h2 : a < 18446744073709551616) : IntKind.u64.wrap a = a := by
  rw [IntKind.wrap_u64]; omega
theorem wsucc {j n : Nat} (h : j < n) (hn : n ≤ 9223372036854775807) : IntKind.i64.wrap ((j : Int) + 1) = ((j + 1 : Nat) : Int) := by rw [wrap64 (by omega) (by omega)]; rfl
theorem take_snoc {xs : List Int} {j : Nat} (h : j < xs.length) : xs.take (j + 1) = xs.take j ++ [xs.getD j 0] := by
  rw [List.take_add_one, List.getD_eq_getElem?_getD]
  rw [List.getElem?_eq_getElem h]; rfl
theorem take_same {xs ys : List Int} {j : Nat} (h1 : j < xs.length) (h2 : j < ys.length) (h : xs.take j = ys.take j) (e : xs.getD j 0 = ys.getD j 0) : xs.take (j + 1) = ys.take (j + 1) := by
  rw [take_snoc h1, take_snoc h2, h, e]
theorem noEq (P : Program) : ∀ t, hasN [] t = true → P.stoodInHeld t = false := fun t h => by cases h
/-- A closed setting: no table, no functions walked where they are called. -/
def ctx0 (P : Program) : Ctx := ctx P glR [] [] (noEq P) [] (fun _ h => by cases h)
theorem ctx0_good : (ctx0 Try.prog).good := ctx_good (by kernel_rfl) (fun _ h => by cases h) glR_two
/-- The same, with what is laid for mixing. -/
def ctx0M (P : Program) : Ctx := ctx P glM [] [] (noEq P) [] (fun _ h => by cases h)
theorem ctx0M_good : (ctx0M Try.prog).good := ctx_good (by kernel_rfl) (fun _ h => by cases h) glM_two
theorem allU_getD {xs : List Int} (h : AllU xs) (i : Nat) : U64 (xs.getD i 0) := by
  by_cases hi : i < xs.length
  · exact h.at hi
  · have : xs.getD i 0 = 0 := by simp [List.getD, List.getElem?_eq_none (Nat.le_of_not_lt hi)]
    rw [this]; exact ⟨by omega, by omega⟩
theorem allU_set {xs : List Int} (h : AllU xs) (i : Nat) {v : Int} (hv : U64 v) : AllU (xs.set i v) := by
  intro x hx
  rcases List.mem_or_eq_of_mem_set hx with h1 | rfl
  · exact h x h1
  · exact hv
end Go.Proofs.Yteinekidpokbpaa
