/- What the laid variable region.objects gives the walks, and the door's own heap meets it. -/
import Derived.Test.YtlcpcgdecodjfaaDoorRows
import Derived.Test.YtlcpcgdecodjfaaDoorRegionW
import Derived.ProofKit
import Derived.LaidMore
import Derived.OpenShut
import Derived.Stop.Joined
namespace Go.Proofs.YtlcpcgdecodjfaaDoor
open Go.ChangeShapes Go.WideShapes Go.ChangeAt Go.WideMaps Go.WideElems Go.RowKit
set_option linter.unusedVariables false
set_option linter.unusedSimpArgs false

theorem gObjs : Tryd.prog.globalNamed "whitewash/region.objects" = some 0 := by kernel_rfl
theorem tObjs : (Tryd.prog.globals[0]?).map (·.type) = some 131 := by kernel_rfl
abbrev laidR : List (String × DataW Unit) := [("whitewash/region.objects", Rows.laid_whitewash_region_objects)]
theorem door_met (os : Os) (args : Array Value) : laidMetH Tryd.prog laidR ((World.doorLaid Tryd.prog 400 os).forCall (fun _ _ => 0) ⟨#[], args, []⟩).memory :=
  laidMetH_of_parts3 (fuel := 8) (laidMet_of_run' 8 (by kernel_rfl) (by kernel_rfl)) (by kernel_rfl) (by kernel_rfl)
theorem el_cells {H : Type} {enc : TypeId × Value → H} {W : World} {sp : Nat → Bool} {held : Bool} {m : Nat} {cs : List Value} {y : DataW H × List MemPlace} {a b : Int} (h : DataW.trod enc Tryd.prog W 0 sp held m 130 cs = some y) (hy : y.1 = .agg [.lit (.int .i64 a), .lit (.int .i64 b)]) : cs[0]? = some (.int .i64 a) ∧ cs[1]? = some (.int .i64 b) := by
  obtain ⟨xs, n, rfl, rfl, hlen, hn, hel⟩ := DataW.trod_struct Tryd.underlying130 h
  have c3 : Tryd.prog.cellsOf 3 = 1 := by kernel_rfl
  have h0 := hel 0 _ rfl
  have h1 := hel 1 _ rfl
  match xs, hn, hy, h0, h1 with
  | [x0, x1], _, hy, h0, h1 =>
    simp only [List.map_cons, List.map_nil, DataW.agg.injEq, List.cons.injEq, and_true] at hy
    obtain ⟨k, e1, e2, _⟩ := DataW.trod_int Tryd.underlying3 (show DataW.trod enc Tryd.prog W 0 sp held n 3 _ = some x0 from h0)
    obtain ⟨k2, e3, e4, _⟩ := DataW.trod_int Tryd.underlying3 (show DataW.trod enc Tryd.prog W 0 sp held n 3 _ = some x1 from h1)
    have hk : k = a := by rw [e2] at hy; simpa using hy.1
    have hk2 : k2 = b := by rw [e4] at hy; simpa using hy.2
    subst hk hk2
    try simp only [c3] at e1 e3
    constructor
    · have := congrArg (fun l : List Value => l[0]?) e1
      simp [List.getElem?_take, List.getElem?_drop] at this
      exact this.2
    · have := congrArg (fun l : List Value => l[0]?) e3
      simp [List.getElem?_take, List.getElem?_drop] at this
      exact this.2
theorem objs_of_laid {W : World} (h : laidMetH Tryd.prog laidR W) : Objs W := by
  rw [MakeChecks.laidMetH_plain _ _ _ (by kernel_rfl)] at h
  obtain ⟨ps, ⟨g0, t0, cs0, f0, p0, q0, hg0, ht0, hv0, hd0, _, _⟩, _⟩ := h
  obtain rfl := Option.some.inj (gObjs.symm.trans hg0)
  obtain rfl := Option.some.inj (tObjs.symm.trans ht0)
  obtain ⟨xs, m1, rfl, hx1, hlen, hn6, hel⟩ := DataW.trod_array Tryd.underlying131 hd0
  have c3 : Tryd.prog.cellsOf 3 = 1 := by kernel_rfl
  have cE : Tryd.prog.cellsOf 130 = 2 := by kernel_rfl
  have cA : Tryd.prog.cellsOf 131 = 12 := by kernel_rfl
  have key : ∀ (i : Nat) (a b : Int), i < 6 → (xs.map (·.1))[i]? = some (.agg [.lit (.int .i64 a), .lit (.int .i64 b)]) → W.cell? ⟨0, i * 2, none⟩ = some (.int .i64 a) ∧ W.cell? ⟨0, i * 2 + 1, none⟩ = some (.int .i64 b) := by
    intro i a b hi hxi
    have hE := hel i hi
    rw [cE] at hE
    rw [List.getElem?_map] at hxi
    cases hy : xs[i]? with
    | none => simp [hy] at hxi
    | some y =>
      rw [hy] at hE hxi
      obtain ⟨g0, g1⟩ := el_cells hE (by simpa using hxi)
      rw [List.getElem?_take_of_lt (by omega), List.getElem?_drop] at g0 g1
      rw [World.var?_cell hg0 hv0, World.var?_cell hg0 hv0]
      rw [Array.getElem?_toList] at g0 g1
      exact ⟨g0, g1⟩
  simp only [Prod.mk.injEq, Rows.laid_whitewash_region_objects, DataW.agg.injEq] at hx1
  have hxs := hx1.1.symm
  refine ⟨?_, fun k hk => ?_⟩
  · have := (key 0 0 0 (by omega) (by rw [hxs]; rfl)).1
    unfold World.cell? at this
    rcases Nat.eq_zero_or_pos W.heap.size with hz | hz
    · rw [Array.getElem?_eq_none (by omega)] at this; cases this
    · exact hz
  · have : k = 0 ∨ k = 1 ∨ k = 2 ∨ k = 3 ∨ k = 4 ∨ k = 5 := by omega
    rcases this with rfl | rfl | rfl | rfl | rfl | rfl <;> exact key _ _ _ (by omega) (by rw [hxs]; rfl)
end Go.Proofs.YtlcpcgdecodjfaaDoor
