/- Texts put together: Word. -/
import Derived.Test.YtnplgklnkcjmnaaGreatDoorDictUpdateM2
import Derived.Test.YtnplgklnkcjmnaaGreatDoorProg
import Derived.WalkKit
import Derived.WalkLawsBesides
import Derived.Deep.Draws
import Derived.Laws.EntriesVeiled
import Derived.KernelRfl
namespace Go.Proofs.YtnplgklnkcjmnaaGreatDoor
set_option linter.unusedVariables false
set_option linter.unusedSimpArgs false
open Go.RowKit

/-- A word of 64 bits. -/
def U64 (a : Int) : Prop := 0 ≤ a ∧ a < 18446744073709551616
/-- A number of Go's int. -/
def I64 (a : Int) : Prop := -9223372036854775808 ≤ a ∧ a ≤ 9223372036854775807

theorem i64_of_wf {a : Int} (h : (Lit.int .i64 a).wf = true) : I64 a := by
  have h : (decide (IntKind.i64.min ≤ a) && decide (a ≤ IntKind.i64.max)) = true := h
  rw [Bool.and_eq_true, decide_eq_true_iff, decide_eq_true_iff] at h
  have e1 : IntKind.i64.min = -9223372036854775808 := rfl
  have e2 : IntKind.i64.max = 9223372036854775807 := rfl
  rw [e1, e2] at h
  unfold I64; omega
theorem ret_int {k : IntKind} {a b : Int} (h : a = b) : Ending.returned (.int k a) = .returned (.int k b) := by rw [h]
theorem bne_false {a b : Int} (h : (a != b) = false) : a = b := by simpa using h
theorem u64_bits (op : BinOp) (x y : Int) : U64 (bits op .u64 x y) := by
  unfold U64 bits
  rw [IntKind.wrap_u64]
  omega
/-- Block B holds these words. -/
def WordRow (w : World) (B : Nat) (xs : List Int) : Prop := B < w.heap.size ∧ ∀ k, k < xs.length → w.cell? ⟨B, k, none⟩ = some (.int .u64 (xs.getD k 0))
theorem WordRow.below {w w' : World} {B C : Nat} {xs : List Int} (h : WordRow w B xs) (hb : Below C w w') (hC : B < C) : WordRow w' B xs :=
  ⟨Nat.lt_of_lt_of_le h.1 hb.size, fun k hk => (hb.cell (p := ⟨B, k, none⟩) hC).trans (h.2 k hk)⟩
theorem WordRow.made (w : World) (vs : Array Value) (t : TypeId) (xs : List Int) (h : vs.toList = xs.map (Value.int .u64)) : WordRow (w.alloc (.cells vs t)) w.heap.size xs := by
  refine ⟨by simp, fun k hk => ?_⟩
  have hl : vs.size = xs.length := by rw [← Array.length_toList, h, List.length_map]
  have hv : vs[k]? = some (.int .u64 (xs.getD k 0)) := by
    rw [← Array.getElem?_toList, h, List.getElem?_map, List.getD_eq_getElem?_getD, List.getElem?_eq_getElem hk]; rfl
  simp only [World.cell?, World.alloc, Array.getElem?_push_size, Option.isSome_none, Bool.false_eq_true, if_false]
  exact hv
theorem Below.one (w : World) (o : Obj) : Below w.heap.size w (w.alloc o) := (Below.refl _ _).alloc (Nat.le_refl _) _
/-- A slice whose elements read as these integers of kind k. -/
def SlI (k : IntKind) (w : World) (a : Option Addr) (len : Nat) (xs : List Int) : Prop :=
  xs.length = len ∧ (len = 0 ∨ ∃ b off, a = some ⟨b, off, none⟩ ∧ b < w.heap.size ∧ ∀ i, i < len → w.cell? ⟨b, off + i, none⟩ = some (.int k (xs.getD i 0)))
theorem SlI.below {k : IntKind} {w w' : World} {a : Option Addr} {len B : Nat} {xs : List Int} (h : SlI k w a len xs) (hb : Below B w w') (hB : w.heap.size ≤ B) : SlI k w' a len xs := by
  refine ⟨h.1, h.2.imp id ?_⟩
  rintro ⟨b, off, e, hlt, hc⟩
  exact ⟨b, off, e, Nat.lt_of_lt_of_le hlt hb.size, fun i hi => (hb.cell (p := ⟨b, off + i, none⟩) (Nat.lt_of_lt_of_le hlt hB)).trans (hc i hi)⟩
def AllU (xs : List Int) : Prop := ∀ x ∈ xs, U64 x
def AllI (xs : List Int) : Prop := ∀ x ∈ xs, I64 x
theorem AllU.at {xs : List Int} (h : AllU xs) {i : Nat} (hi : i < xs.length) : U64 (xs.getD i 0) := by
  rw [List.getD_eq_getElem?_getD, List.getElem?_eq_getElem hi]; exact h _ (List.getElem_mem hi)
theorem AllI.at {xs : List Int} (h : AllI xs) {i : Nat} (hi : i < xs.length) : I64 (xs.getD i 0) := by
  rw [List.getD_eq_getElem?_getD, List.getElem?_eq_getElem hi]; exact h _ (List.getElem_mem hi)
theorem take_succ_getD {xs : List Int} {i : Nat} (hi : i < xs.length) : xs.take (i + 1) = xs.take i ++ [xs.getD i 0] := by
  rw [List.take_succ_eq_append_getElem hi, List.getD_eq_getElem?_getD, List.getElem?_eq_getElem hi]; rfl
end Go.Proofs.YtnplgklnkcjmnaaGreatDoor
