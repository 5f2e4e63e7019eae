/- Texts put together: SlW. -/
import Derived.Test.YtnplgklnkcjmnaaGreatDoorDictUpdateM3
import Derived.RegionTactic
import Derived.WalkSpells
import Derived.BigQuiet
import Derived.Deep.QuietTactic
namespace Go.Proofs.YtnplgklnkcjmnaaGreatDoor
open Go.RowKit
set_option linter.unusedVariables false
set_option linter.unusedSimpArgs false

/-- Block g, of this call's own (from block base on), holds these integers first, and may be written. -/
def OwnI (k : IntKind) (w : World) (base g len : Nat) (xs : List Int) : Prop :=
  base ≤ g ∧ g < w.heap.size ∧ xs.length = len ∧ (∀ i, w.frozen? ⟨g, i, none⟩ = false) ∧ ∀ i, i < len → w.cell? ⟨g, i, none⟩ = some (.int k (xs.getD i 0))
theorem OwnI.sl {k : IntKind} {w : World} {base g len : Nat} {xs : List Int} (h : OwnI k w base g len xs) : SlI k w (some ⟨g, 0, none⟩) len xs :=
  ⟨h.2.2.1, .inr ⟨g, 0, rfl, h.2.1, fun i hi => by rw [Nat.zero_add]; exact h.2.2.2.2 i hi⟩⟩
theorem OwnI.below {k : IntKind} {w w' : World} {base g len B : Nat} {xs : List Int} (h : OwnI k w base g len xs) (hb : Below B w w') (hB : w.heap.size ≤ B) : OwnI k w' base g len xs :=
  ⟨h.1, Nat.lt_of_lt_of_le h.2.1 hb.size, h.2.2.1, fun i => (hb.frozen (p := ⟨g, i, none⟩) (Nat.lt_of_lt_of_le h.2.1 hB)).trans (h.2.2.2.1 i), fun i hi => (hb.cell (p := ⟨g, i, none⟩) (Nat.lt_of_lt_of_le h.2.1 hB)).trans (h.2.2.2.2 i hi)⟩
@[go_sem] theorem u64s_nil (b off : Nat) (len cap : Nat) (w : World) : (binOp .eql 27 (.slice (some ⟨b, off, none⟩) len cap) (.slice none 0 0)).run Tryz.prog w = .ok (.bool false) w := by kernel_rfl
@[go_sem] theorem u64s_nilnil (w : World) : (binOp .eql 27 (.slice none 0 0) (.slice none 0 0)).run Tryz.prog w = .ok (.bool true) w := by kernel_rfl

/-! ### Equal -/
end Go.Proofs.YtnplgklnkcjmnaaGreatDoor
