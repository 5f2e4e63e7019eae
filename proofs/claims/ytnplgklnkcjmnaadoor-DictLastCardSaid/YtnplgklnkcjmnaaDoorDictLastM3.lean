/- Texts put together: Word. -/
import Derived.Test.YtnplgklnkcjmnaaDoorDictLastM2
import Derived.Test.YtnplgklnkcjmnaaDoorProg
import Derived.WalkKit
import Derived.WalkLawsBesides
import Derived.Deep.Draws
import Derived.Laws.EntriesVeiled
import Derived.KernelRfl
namespace Go.Proofs.YtnplgklnkcjmnaaDoor
set_option linter.unusedVariables false
set_option linter.unusedSimpArgs false
open Go.RowKit

/-- A word of 64 bits. -/
def U64 (a : Int) : Prop := 0 ≤ a ∧ a < 18446744073709551616
/-- A number of Go's int. -/
def I64 (a : Int) : Prop := -9223372036854775808 ≤ a ∧ a ≤ 9223372036854775807

theorem u64_of_wf {a : Int} (h : (Lit.int .u64 a).wf = true) : U64 a := by
  have h : (decide (IntKind.u64.min ≤ a) && decide (a ≤ IntKind.u64.max)) = true := h
  rw [Bool.and_eq_true, decide_eq_true_iff, decide_eq_true_iff] at h
  have e1 : IntKind.u64.min = 0 := rfl
  have e2 : IntKind.u64.max = 18446744073709551615 := rfl
  rw [e1, e2] at h
  unfold U64; omega
theorem i64_of_wf {a : Int} (h : (Lit.int .i64 a).wf = true) : I64 a := by
  have h : (decide (IntKind.i64.min ≤ a) && decide (a ≤ IntKind.i64.max)) = true := h
  rw [Bool.and_eq_true, decide_eq_true_iff, decide_eq_true_iff] at h
  have e1 : IntKind.i64.min = -9223372036854775808 := rfl
  have e2 : IntKind.i64.max = 9223372036854775807 := rfl
  rw [e1, e2] at h
  unfold I64; omega
theorem u64_of {a : Int} (h : decide (0 ≤ a ∧ a < 18446744073709551616) = true) : U64 a := by unfold U64; exact of_decide_eq_true h

theorem ret_int {k : IntKind} {a b : Int} (h : a = b) : Ending.returned (.int k a) = .returned (.int k b) := by rw [h]
theorem ret_bool {a b : Bool} (h : a = b) : Ending.returned (.bool a) = .returned (.bool b) := by rw [h]
theorem ret_int_bool {k : IntKind} {a b : Int} {c d : Bool} (h : a = b) (h2 : c = d) : Ending.returned (.tuple #[.int k a, .bool c]) = .returned (.tuple #[.int k b, .bool d]) := by rw [h, h2]
theorem ret_int2 {k k2 : IntKind} {a b c d : Int} (h : a = b) (h2 : c = d) : Ending.returned (.tuple #[.int k a, .int k2 c]) = .returned (.tuple #[.int k b, .int k2 d]) := by rw [h, h2]

theorem bnot {a b : Int} (h : ¬ a = b) : (a == b) = false := beq_eq_false_iff_ne.2 h
theorem byes {a b : Int} (h : a = b) : (a == b) = true := beq_iff_eq.2 h
theorem nnot {a b : Int} (h : ¬ a = b) : (a != b) = true := bne_iff_ne.2 h
theorem nyes {a b : Int} (h : a = b) : (a != b) = false := by rw [h]; simp
theorem bne_false {a b : Int} (h : (a != b) = false) : a = b := by simpa using h
theorem bne_beq {a b : Int} (h : (a != b) = true) : (a == b) = false := by simpa using h
theorem bne_beq' {a b : Int} (h : (a != b) = false) : (a == b) = true := by simpa using h

theorem quiet_below {w w' : World} (h : ∃ n, w' = w.drewN n) : Below w.heap.size w w' := by
  obtain ⟨n, rfl⟩ := h
  exact ⟨rfl, rfl, rfl, Nat.le_refl _, fun _ _ => rfl⟩
theorem u64_bits (op : BinOp) (x y : Int) : U64 (bits op .u64 x y) := by
  unfold U64 bits
  rw [IntKind.wrap_u64]
  omega
/-- Block B holds these words. -/
def WordRow (w : World) (B : Nat) (xs : List Int) : Prop := B < w.heap.size ∧ ∀ k, k < xs.length → w.cell? ⟨B, k, none⟩ = some (.int .u64 (xs.getD k 0))
theorem WordRow.below {w w' : World} {B C : Nat} {xs : List Int} (h : WordRow w B xs) (hb : Below C w w') (hC : B < C) : WordRow w' B xs :=
  ⟨Nat.lt_of_lt_of_le h.1 hb.size, fun k hk => (hb.cell (p := ⟨B, k, none⟩) hC).trans (h.2 k hk)⟩
theorem WordRow.made (w : World) (vs : Array Value) (t : TypeId) (xs : List Int) (h : vs.toList = xs.map (Value.int .u64)) : WordRow (w.alloc (.cells vs t)) w.heap.size xs := by
  refine ⟨by simp, fun k hk => ?_⟩
  have hl : vs.size = xs.length := by rw [← Array.length_toList, h, List.length_map]
  have hv : vs[k]? = some (.int .u64 (xs.getD k 0)) := by
    rw [← Array.getElem?_toList, h, List.getElem?_map, List.getD_eq_getElem?_getD, List.getElem?_eq_getElem hk]; rfl
  simp only [World.cell?, World.alloc, Array.getElem?_push_size, Option.isSome_none, Bool.false_eq_true, if_false]
  exact hv
/-- What is below stays: two rules for a walk. -/
theorem bcell {W w1 : World} (hb : Below W.heap.size W w1) : (∀ b o, b < W.heap.size → w1.cell? ⟨b, o, none⟩ = W.cell? ⟨b, o, none⟩) ∧ (∀ b o, b < W.heap.size → w1.frozen? ⟨b, o, none⟩ = W.frozen? ⟨b, o, none⟩) :=
  ⟨fun b o h => hb.cell (p := ⟨b, o, none⟩) h, fun b o h => hb.frozen (p := ⟨b, o, none⟩) h⟩
theorem cell_new (w : World) (vs : Array Value) (t : TypeId) (k : Nat) (v : Value) (h : vs[k]? = some v) : (w.alloc (.cells vs t)).cell? ⟨w.heap.size, k, none⟩ = some v := by
  simp only [World.cell?, World.alloc, Array.getElem?_push_size, Option.isSome_none, Bool.false_eq_true, if_false]
  exact h
theorem cell_new2 (w : World) (vs : Array Value) (t : TypeId) (o : Obj) (k : Nat) (v : Value) (h : vs[k]? = some v) : ((w.alloc (.cells vs t)).alloc o).cell? ⟨w.heap.size, k, none⟩ = some v :=
  (World.cell?_alloc_past _ _ _ (by simp)).trans (cell_new w vs t k v h)
theorem frozen_new (w : World) (vs : Array Value) (t : TypeId) (k : Nat) : (w.alloc (.cells vs t)).frozen? ⟨w.heap.size, k, none⟩ = false := by
  simp only [World.frozen?, World.alloc, Array.getElem?_push_size]
  simp
theorem cell_newS (w : World) (o : Obj) (vs : Array Value) (t : TypeId) (k : Nat) (v : Value) (h : vs[k]? = some v) : ((w.alloc o).alloc (.cells vs t)).cell? ⟨w.heap.size + 1, k, none⟩ = some v := by
  have := cell_new (w.alloc o) vs t k v h
  rw [show (w.alloc o).heap.size = w.heap.size + 1 by simp] at this
  exact this
theorem frozen_newS (w : World) (o : Obj) (vs : Array Value) (t : TypeId) (k : Nat) : ((w.alloc o).alloc (.cells vs t)).frozen? ⟨w.heap.size + 1, k, none⟩ = false := by
  have := frozen_new (w.alloc o) vs t k
  rw [show (w.alloc o).heap.size = w.heap.size + 1 by simp] at this
  exact this
theorem cell_set_same {w : World} {a : Addr} {u v : Value} (h : w.cell? a = some u) : (w.setCell a v).cell? a = some v := World.cell?_setCell_same _ _ _ h
theorem cell_set_other {w : World} {a b : Addr} {v : Value} (h : a ≠ b) : (w.setCell a v).cell? b = w.cell? b := World.cell?_setCell_other _ _ _ _ h
theorem Below.one (w : World) (o : Obj) : Below w.heap.size w (w.alloc o) := (Below.refl _ _).alloc (Nat.le_refl _) _
/-- A slice whose elements read as these integers of kind k. -/
def SlI (k : IntKind) (w : World) (a : Option Addr) (len : Nat) (xs : List Int) : Prop :=
  xs.length = len ∧ (len = 0 ∨ ∃ b off, a = some ⟨b, off, none⟩ ∧ b < w.heap.size ∧ ∀ i, i < len → w.cell? ⟨b, off + i, none⟩ = some (.int k (xs.getD i 0)))
theorem SlI.below {k : IntKind} {w w' : World} {a : Option Addr} {len B : Nat} {xs : List Int} (h : SlI k w a len xs) (hb : Below B w w') (hB : w.heap.size ≤ B) : SlI k w' a len xs := by
  refine ⟨h.1, h.2.imp id ?_⟩
  rintro ⟨b, off, e, hlt, hc⟩
  exact ⟨b, off, e, Nat.lt_of_lt_of_le hlt hb.size, fun i hi => (hb.cell (p := ⟨b, off + i, none⟩) (Nat.lt_of_lt_of_le hlt hB)).trans (hc i hi)⟩
def AllU (xs : List Int) : Prop := ∀ x ∈ xs, U64 x
def AllI (xs : List Int) : Prop := ∀ x ∈ xs, I64 x
theorem AllU.at {xs : List Int} (h : AllU xs) {i : Nat} (hi : i < xs.length) : U64 (xs.getD i 0) := by
  rw [List.getD_eq_getElem?_getD, List.getElem?_eq_getElem hi]; exact h _ (List.getElem_mem hi)
theorem AllI.at {xs : List Int} (h : AllI xs) {i : Nat} (hi : i < xs.length) : I64 (xs.getD i 0) := by
  rw [List.getD_eq_getElem?_getD, List.getElem?_eq_getElem hi]; exact h _ (List.getElem_mem hi)
theorem take_succ_getD {xs : List Int} {i : Nat} (hi : i < xs.length) : xs.take (i + 1) = xs.take i ++ [xs.getD i 0] := by
  rw [List.take_succ_eq_append_getElem hi, List.getD_eq_getElem?_getD, List.getElem?_eq_getElem hi]; rfl
end Go.Proofs.YtnplgklnkcjmnaaDoor
