/- Texts put together: LaidT. -/
import Derived.Test.YtdbmbbfgcaimgaaDoorProbeOneM6
import Derived.Test.YtdbmbbfgcaimgaaDoorRows
import Derived.ProofKit
import Derived.LaidMore
import Derived.OpenShut
import Derived.Stop.Joined
namespace Go.Proofs.YtdbmbbfgcaimgaaDoor
open Go.ChangeShapes Go.WideShapes Go.ChangeAt Go.WideMaps Go.WideElems Go.RowKit Go.Proofs.YtdbmbbfgcaimgaaDoor.Am
set_option linter.unusedVariables false
set_option linter.unusedSimpArgs false

theorem gThere : Tryd.prog.globalNamed "whitewash/mix.there" = some 0 := by kernel_rfl
theorem tThere : (Tryd.prog.globals[0]?).map (·.type) = some 96 := by kernel_rfl
abbrev laidT : List (String × DataW Unit) := [("whitewash/mix.there", Rows.laid_whitewash_mix_there)]
theorem door_metT (os : Os) (args : Array Value) : laidMetH Tryd.prog laidT ((World.doorLaid Tryd.prog 400 os).forCall (fun _ _ => 0) ⟨#[], args, []⟩).memory :=
  laidMetH_of_parts3 (fuel := 8) (laidMet_of_run' 8 (by kernel_rfl) (by kernel_rfl)) (by kernel_rfl) (by kernel_rfl)
theorem el_cellsM {H : Type} {enc : TypeId × Value → H} {W : World} {sp : Nat → Bool} {held : Bool} {m : Nat} {cs : List Value} {y : DataW H × List MemPlace} {a b : Int} (h : DataW.trod enc Tryd.prog W 0 sp held m 95 cs = some y) (hy : y.1 = .agg [.lit (.int .u64 a), .lit (.int .u64 b)]) : cs[0]? = some (.int .u64 a) ∧ cs[1]? = some (.int .u64 b) := by
  obtain ⟨xs, n, rfl, rfl, hlen, hn, hel⟩ := DataW.trod_struct Tryd.underlying95 h
  have c3 : Tryd.prog.cellsOf 24 = 1 := by kernel_rfl
  have c4 : Tryd.prog.cellsOf 59 = 1 := by kernel_rfl
  have h0 := hel 0 _ rfl
  have h1 := hel 1 _ rfl
  match xs, hn, hy, h0, h1 with
  | [x0, x1], _, hy, h0, h1 =>
    simp only [List.map_cons, List.map_nil, DataW.agg.injEq, List.cons.injEq, and_true] at hy
    obtain ⟨k, e1, e2, _⟩ := DataW.trod_int Tryd.underlying59 (show DataW.trod enc Tryd.prog W 0 sp held n 59 _ = some x0 from h0)
    obtain ⟨k2, e3, e4, _⟩ := DataW.trod_int Tryd.underlying24 (show DataW.trod enc Tryd.prog W 0 sp held n 24 _ = some x1 from h1)
    have hk : k = a := by rw [e2] at hy; simpa using hy.1
    have hk2 : k2 = b := by rw [e4] at hy; simpa using hy.2
    subst hk hk2
    try simp only [c3, c4] at e1 e3
    constructor
    · have := congrArg (fun l : List Value => l[0]?) e1
      simp [List.getElem?_take, List.getElem?_drop] at this
      exact this.2
    · have := congrArg (fun l : List Value => l[0]?) e3
      simp [List.getElem?_take, List.getElem?_drop] at this
      exact this.2
theorem arr_M {W : World} {g0 t0 f0 : Nat} {cs0 : Array Value} {p0 : List MemPlace} (hg0 : Tryd.prog.globalNamed "whitewash/mix.there" = some g0) (ht0 : Option.map (fun x => x.type) Tryd.prog.globals[g0]? = some t0) (hv0 : World.var? Tryd.prog W "whitewash/mix.there" = some cs0)
    (hd0 : DataW.trod (fun x => ()) Tryd.prog W 0 (fun x => true) false f0 t0 cs0.toList = some (Rows.laid_whitewash_mix_there, p0)) : ∀ (i : Nat) (a b : Int), i < 3 → (match (Rows.laid_whitewash_mix_there : DataW Unit) with | .agg l => l[i]? | _ => none) = some (.agg [.lit (.int .u64 a), .lit (.int .u64 b)]) → W.cell? ⟨0, i * 2, none⟩ = some (.int .u64 a) ∧ W.cell? ⟨0, i * 2 + 1, none⟩ = some (.int .u64 b) := by
  obtain rfl := Option.some.inj ((show Tryd.prog.globalNamed "whitewash/mix.there" = some 0 by kernel_rfl).symm.trans hg0)
  obtain rfl := Option.some.inj ((show (Tryd.prog.globals[0]?).map (·.type) = some 96 by kernel_rfl).symm.trans ht0)
  obtain ⟨xs, m1, rfl, hx1, hlen, hn6, hel⟩ := DataW.trod_array Tryd.underlying96 hd0
  have cE : Tryd.prog.cellsOf 95 = 2 := by kernel_rfl
  simp only [Prod.mk.injEq] at hx1
  have hx := hx1.1
  intro i a b hi hxi
  rw [hx] at hxi
  replace hxi : (xs.map (·.1))[i]? = some (.agg [.lit (.int .u64 a), .lit (.int .u64 b)]) := hxi
  have hE := hel i hi
  rw [cE] at hE
  rw [List.getElem?_map] at hxi
  cases hy : xs[i]? with
  | none => simp [hy] at hxi
  | some y =>
    rw [hy] at hE hxi
    obtain ⟨g0, g1⟩ := el_cellsM hE (by simpa using hxi)
    rw [List.getElem?_take_of_lt (by omega), List.getElem?_drop] at g0 g1
    rw [World.var?_cell hg0 hv0, World.var?_cell hg0 hv0]
    rw [Array.getElem?_toList] at g0 g1
    exact ⟨g0, g1⟩
theorem blk_pos {W : World} {b o : Nat} {v : Value} (h : W.cell? ⟨b, o, none⟩ = some v) : b < W.heap.size := by
  unfold World.cell? at h
  rcases Nat.lt_or_ge b W.heap.size with hz | hz
  · exact hz
  · rw [Array.getElem?_eq_none (by exact hz)] at h; cases h
theorem gl_laid {W : World} (h : laidMetH Tryd.prog laidT W) : GlP glM W := by
  rw [MakeChecks.laidMetH_plain _ _ _ (by kernel_rfl)] at h
  obtain ⟨ps, ⟨g0, t0, cs0, f0, p0, q0, hg0, ht0, hv0, hd0, -⟩, -⟩ := h
  have kM := arr_M hg0 ht0 hv0 hd0
  intro g
  unfold glM
  split
  · refine .fp (b := 0) (off := 0) trivial (blk_pos (kM 0 _ _ (by omega) rfl).1) (by simp) (by decide) (fun i x hx => ?_)
    have hi : i < 6 := (List.getElem?_eq_some_iff.1 hx).1
    obtain ⟨k, hk⟩ : ∃ k, i = k * 2 ∨ i = k * 2 + 1 := ⟨i / 2, by omega⟩
    have : k = 0 ∨ k = 1 ∨ k = 2 := by omega
    rw [Nat.zero_add]
    rcases this with rfl | rfl | rfl <;> rcases hk with rfl | rfl <;> cases hx <;> first | exact (kM _ _ _ (by omega) rfl).1 | exact (kM _ _ _ (by omega) rfl).2
  · exact .dead
end Go.Proofs.YtdbmbbfgcaimgaaDoor
