/- Texts put together: SliceR. -/
import Derived.Test.YtnplgklnkcjmnaaDoorDictLastM4
import Derived.OpenShut
import Derived.WalkKit
import Derived.ProofKit
import Derived.SizedLaws
namespace Go.Proofs.YtnplgklnkcjmnaaDoor
open Go.ChangeShapes Go.WideShapes Go.ChangeAt Go.RowKit
set_option linter.unusedVariables false
set_option linter.unusedSimpArgs false
theorem laidOut : laidOutB Tryd.prog = true := by kernel_rfl
def IsRow (k : IntKind) (w : World) (a : Option Addr) (len cap : Nat) (zs : List Int) : Prop :=
  (a = none ∧ len = 0 ∧ cap = 0 ∧ zs = []) ∨
  ∃ x, a = some x ∧ len ≤ cap ∧ cap ≤ maxLen ∧ zs.length = cap ∧ (∀ i, i < zs.length → w.cell? (x.add i) = some (.int k (zs.getD i 0))) ∧ ∀ n ∈ zs, (Lit.int k n).wf = true
/-- What the walks ask of a slice that came in. -/
def SlIn (k : IntKind) (w : World) (a : Option Addr) (len cap : Nat) (xs : List Int) : Prop :=
  SlI k w a len xs ∧ len ≤ cap ∧ (cap : Int) ≤ 9223372036854775807 ∧ (cap = 0 ∨ ∃ b off, a = some ⟨b, off, none⟩)
theorem IsRow.slIn {k : IntKind} {w : World} {a : Option Addr} {len cap : Nat} {zs : List Int} (h : IsRow k w a len cap zs) : SlIn k w a len cap (zs.take len) ∧ ∀ n ∈ zs.take len, (Lit.int k n).wf = true := by
  rcases h with ⟨rfl, rfl, rfl, rfl⟩ | ⟨x, rfl, h1, h2, h3, h4, h5⟩
  · exact ⟨⟨⟨rfl, .inl rfl⟩, Nat.le_refl _, by omega, .inl rfl⟩, by simp⟩
  · have hm : (cap : Int) ≤ 9223372036854775807 := by unfold maxLen at h2; omega
    have hl : (zs.take len).length = len := by rw [List.length_take]; omega
    refine ⟨?_, fun n hn => h5 n (List.mem_of_mem_take hn)⟩
    rcases Nat.eq_zero_or_pos cap with hz | hz
    · exact ⟨⟨hl, .inl (by omega)⟩, h1, hm, .inl hz⟩
    · have c0 := h4 0 (by omega)
      obtain ⟨b, off, sp⟩ := x
      have hsp : sp = none := by simpa [Addr.add] using World.cell?_spot c0
      subst hsp
      refine ⟨⟨hl, .inr ⟨b, off, rfl, ?_, fun i hi => ?_⟩⟩, h1, hm, .inr ⟨b, off, rfl⟩⟩
      · rcases Nat.lt_or_ge b w.heap.size with hb | hb
        · exact hb
        · have : (⟨b, off, none⟩ : Addr).add 0 = ⟨b, off, none⟩ := by simp [Addr.add]
          rw [this] at c0
          unfold World.cell? at c0
          rw [Array.getElem?_eq_none hb] at c0
          cases c0
      · have := h4 i (by omega)
        have e : (⟨b, off, none⟩ : Addr).add i = ⟨b, off + i, none⟩ := by
          unfold Addr.add
          by_cases hi0 : i = 0
          · subst hi0; simp
          · rw [if_neg hi0]
        rw [e] at this
        rw [this, List.getD_eq_getElem?_getD, List.getD_eq_getElem?_getD, List.getElem?_take_of_lt hi]
end Go.Proofs.YtnplgklnkcjmnaaDoor
