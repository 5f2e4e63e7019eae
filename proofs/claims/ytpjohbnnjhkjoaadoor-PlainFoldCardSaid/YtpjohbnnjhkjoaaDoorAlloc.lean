/- Several new blocks, one behind the other. -/
import Derived.Test.YtpjohbnnjhkjoaaDoorWord
namespace Go.Proofs.YtpjohbnnjhkjoaaDoor
open Go.RowKit
set_option linter.unusedVariables false
set_option linter.unusedSimpArgs false
/-- Several new blocks. -/
def allocs (w : World) : List Obj → World
  | [] => w
  | o :: os => allocs (w.alloc o) os
theorem allocs_heap (os : List Obj) : ∀ (w : World) (i : Nat), (allocs w os).heap[w.heap.size + i]? = os[i]? := by
  induction os with
  | nil => intro w i; simp [allocs]
  | cons o os ih =>
    intro w i
    cases i with
    | zero =>
      have hb : Below (w.alloc o).heap.size (w.alloc o) (allocs (w.alloc o) os) := by
        clear ih
        generalize w.alloc o = v
        induction os generalizing v with
        | nil => exact Below.refl _ _
        | cons q os ih2 => exact (Below.one v q).trans ((ih2 _).mono (by simp))
      show (allocs (w.alloc o) os).heap[w.heap.size + 0]? = some o
      rw [hb.block _ (by simp)]
      exact heap_alloc_new w o
    | succ i =>
      have := ih (w.alloc o) i
      rw [show (w.alloc o).heap.size + i = w.heap.size + (i + 1) by simp; omega] at this
      exact this
theorem allocs_size (os : List Obj) : ∀ (w : World), (allocs w os).heap.size = w.heap.size + os.length := by
  induction os with
  | nil => intro w; rfl
  | cons o os ih => intro w; show (allocs (w.alloc o) os).heap.size = _; rw [ih]; simp; omega
theorem allocs_below (os : List Obj) : ∀ (w : World), Below w.heap.size w (allocs w os) := by
  induction os with
  | nil => intro w; exact Below.refl _ _
  | cons o os ih => intro w; exact (Below.one w o).trans ((ih _).mono (by simp))
theorem allocs_cell {os : List Obj} {w : World} {i k : Nat} {vs : Array Value} {t : TypeId} {v : Value} (h : os[i]? = some (.cells vs t)) (hv : vs[k]? = some v) : (allocs w os).cell? ⟨w.heap.size + i, k, none⟩ = some v := by
  simp only [World.cell?, allocs_heap, h, Option.isSome_none, Bool.false_eq_true, if_false]
  exact hv
theorem allocs_frozen {os : List Obj} {w : World} {i k : Nat} {vs : Array Value} {t : TypeId} (h : os[i]? = some (.cells vs t)) : (allocs w os).frozen? ⟨w.heap.size + i, k, none⟩ = false := by
  simp only [World.frozen?, allocs_heap, h]
  simp
end Go.Proofs.YtpjohbnnjhkjoaaDoor
