/- Texts put together: LaidM, RowT, DcRU. -/
import Derived.Test.YtnplgklnkcjmnaaGreatDoorDictUpdateM11
import Derived.Test.YtnplgklnkcjmnaaGreatDoorRows
import Derived.ProofKit
import Derived.LaidMore
import Derived.OpenShut
import Derived.Stop.Joined
namespace Go.Proofs.YtnplgklnkcjmnaaGreatDoor
open Go.ChangeShapes Go.WideShapes Go.ChangeAt Go.WideMaps Go.WideElems Go.RowKit Go.Proofs.YtnplgklnkcjmnaaGreatDoor.Am
set_option linter.unusedVariables false
set_option linter.unusedSimpArgs false

abbrev laidM : List (String × DataW Unit) := [("whitewash/mix.there", Rows.laid_whitewash_mix_there), ("whitewash/region.objects", Rows.laid_whitewash_region_objects)]
theorem door_metM (os : Os) (args : Array Value) : laidMetH Tryz.prog laidM ((World.doorLaid Tryz.prog 400 os).forCall (fun _ _ => 0) ⟨#[], args, []⟩).memory :=
  laidMetH_of_parts3 (fuel := 8) (laidMet_of_run' 8 (by kernel_rfl) (by kernel_rfl)) (by kernel_rfl) (by kernel_rfl)
theorem el_cellsO {H : Type} {enc : TypeId × Value → H} {W : World} {sp : Nat → Bool} {held : Bool} {m : Nat} {cs : List Value} {y : DataW H × List MemPlace} {a b : Int} (h : DataW.trod enc Tryz.prog W 0 sp held m 135 cs = some y) (hy : y.1 = .agg [.lit (.int .i64 a), .lit (.int .i64 b)]) : cs[0]? = some (.int .i64 a) ∧ cs[1]? = some (.int .i64 b) := by
  obtain ⟨xs, n, rfl, rfl, hlen, hn, hel⟩ := DataW.trod_struct Tryz.underlying135 h
  have c3 : Tryz.prog.cellsOf 3 = 1 := by kernel_rfl
  have h0 := hel 0 _ rfl
  have h1 := hel 1 _ rfl
  match xs, hn, hy, h0, h1 with
  | [x0, x1], _, hy, h0, h1 =>
    simp only [List.map_cons, List.map_nil, DataW.agg.injEq, List.cons.injEq, and_true] at hy
    obtain ⟨k, e1, e2, _⟩ := DataW.trod_int Tryz.underlying3 (show DataW.trod enc Tryz.prog W 0 sp held n 3 _ = some x0 from h0)
    obtain ⟨k2, e3, e4, _⟩ := DataW.trod_int Tryz.underlying3 (show DataW.trod enc Tryz.prog W 0 sp held n 3 _ = some x1 from h1)
    have hk : k = a := by rw [e2] at hy; simpa using hy.1
    have hk2 : k2 = b := by rw [e4] at hy; simpa using hy.2
    subst hk hk2
    try simp only [c3] at e1 e3
    constructor
    · have := congrArg (fun l : List Value => l[0]?) e1
      simp [List.getElem?_take, List.getElem?_drop] at this
      exact this.2
    · have := congrArg (fun l : List Value => l[0]?) e3
      simp [List.getElem?_take, List.getElem?_drop] at this
      exact this.2
theorem el_cellsM {H : Type} {enc : TypeId × Value → H} {W : World} {sp : Nat → Bool} {held : Bool} {m : Nat} {cs : List Value} {y : DataW H × List MemPlace} {a b : Int} (h : DataW.trod enc Tryz.prog W 0 sp held m 209 cs = some y) (hy : y.1 = .agg [.lit (.int .u64 a), .lit (.int .u64 b)]) : cs[0]? = some (.int .u64 a) ∧ cs[1]? = some (.int .u64 b) := by
  obtain ⟨xs, n, rfl, rfl, hlen, hn, hel⟩ := DataW.trod_struct Tryz.underlying209 h
  have c3 : Tryz.prog.cellsOf 28 = 1 := by kernel_rfl
  have c4 : Tryz.prog.cellsOf 146 = 1 := by kernel_rfl
  have h0 := hel 0 _ rfl
  have h1 := hel 1 _ rfl
  match xs, hn, hy, h0, h1 with
  | [x0, x1], _, hy, h0, h1 =>
    simp only [List.map_cons, List.map_nil, DataW.agg.injEq, List.cons.injEq, and_true] at hy
    obtain ⟨k, e1, e2, _⟩ := DataW.trod_int Tryz.underlying146 (show DataW.trod enc Tryz.prog W 0 sp held n 146 _ = some x0 from h0)
    obtain ⟨k2, e3, e4, _⟩ := DataW.trod_int Tryz.underlying28 (show DataW.trod enc Tryz.prog W 0 sp held n 28 _ = some x1 from h1)
    have hk : k = a := by rw [e2] at hy; simpa using hy.1
    have hk2 : k2 = b := by rw [e4] at hy; simpa using hy.2
    subst hk hk2
    try simp only [c3, c4] at e1 e3
    constructor
    · have := congrArg (fun l : List Value => l[0]?) e1
      simp [List.getElem?_take, List.getElem?_drop] at this
      exact this.2
    · have := congrArg (fun l : List Value => l[0]?) e3
      simp [List.getElem?_take, List.getElem?_drop] at this
      exact this.2
theorem arr_O {W : World} {g0 t0 f0 : Nat} {cs0 : Array Value} {p0 : List MemPlace} (hg0 : Tryz.prog.globalNamed "whitewash/region.objects" = some g0) (ht0 : Option.map (fun x => x.type) Tryz.prog.globals[g0]? = some t0) (hv0 : World.var? Tryz.prog W "whitewash/region.objects" = some cs0)
    (hd0 : DataW.trod (fun x => ()) Tryz.prog W 0 (fun x => true) false f0 t0 cs0.toList = some (Rows.laid_whitewash_region_objects, p0)) : ∀ (i : Nat) (a b : Int), i < 6 → (match (Rows.laid_whitewash_region_objects : DataW Unit) with | .agg l => l[i]? | _ => none) = some (.agg [.lit (.int .i64 a), .lit (.int .i64 b)]) → W.cell? ⟨0, i * 2, none⟩ = some (.int .i64 a) ∧ W.cell? ⟨0, i * 2 + 1, none⟩ = some (.int .i64 b) := by
  obtain rfl := Option.some.inj ((show Tryz.prog.globalNamed "whitewash/region.objects" = some 0 by kernel_rfl).symm.trans hg0)
  obtain rfl := Option.some.inj ((show (Tryz.prog.globals[0]?).map (·.type) = some 136 by kernel_rfl).symm.trans ht0)
  obtain ⟨xs, m1, rfl, hx1, hlen, hn6, hel⟩ := DataW.trod_array Tryz.underlying136 hd0
  have cE : Tryz.prog.cellsOf 135 = 2 := by kernel_rfl
  simp only [Prod.mk.injEq] at hx1
  have hx := hx1.1
  intro i a b hi hxi
  rw [hx] at hxi
  replace hxi : (xs.map (·.1))[i]? = some (.agg [.lit (.int .i64 a), .lit (.int .i64 b)]) := hxi
  have hE := hel i hi
  rw [cE] at hE
  rw [List.getElem?_map] at hxi
  cases hy : xs[i]? with
  | none => simp [hy] at hxi
  | some y =>
    rw [hy] at hE hxi
    obtain ⟨g0, g1⟩ := el_cellsO hE (by simpa using hxi)
    rw [List.getElem?_take_of_lt (by omega), List.getElem?_drop] at g0 g1
    rw [World.var?_cell hg0 hv0, World.var?_cell hg0 hv0]
    rw [Array.getElem?_toList] at g0 g1
    exact ⟨g0, g1⟩
theorem arr_M {W : World} {g0 t0 f0 : Nat} {cs0 : Array Value} {p0 : List MemPlace} (hg0 : Tryz.prog.globalNamed "whitewash/mix.there" = some g0) (ht0 : Option.map (fun x => x.type) Tryz.prog.globals[g0]? = some t0) (hv0 : World.var? Tryz.prog W "whitewash/mix.there" = some cs0)
    (hd0 : DataW.trod (fun x => ()) Tryz.prog W 0 (fun x => true) false f0 t0 cs0.toList = some (Rows.laid_whitewash_mix_there, p0)) : ∀ (i : Nat) (a b : Int), i < 3 → (match (Rows.laid_whitewash_mix_there : DataW Unit) with | .agg l => l[i]? | _ => none) = some (.agg [.lit (.int .u64 a), .lit (.int .u64 b)]) → W.cell? ⟨1, i * 2, none⟩ = some (.int .u64 a) ∧ W.cell? ⟨1, i * 2 + 1, none⟩ = some (.int .u64 b) := by
  obtain rfl := Option.some.inj ((show Tryz.prog.globalNamed "whitewash/mix.there" = some 1 by kernel_rfl).symm.trans hg0)
  obtain rfl := Option.some.inj ((show (Tryz.prog.globals[1]?).map (·.type) = some 210 by kernel_rfl).symm.trans ht0)
  obtain ⟨xs, m1, rfl, hx1, hlen, hn6, hel⟩ := DataW.trod_array Tryz.underlying210 hd0
  have cE : Tryz.prog.cellsOf 209 = 2 := by kernel_rfl
  simp only [Prod.mk.injEq] at hx1
  have hx := hx1.1
  intro i a b hi hxi
  rw [hx] at hxi
  replace hxi : (xs.map (·.1))[i]? = some (.agg [.lit (.int .u64 a), .lit (.int .u64 b)]) := hxi
  have hE := hel i hi
  rw [cE] at hE
  rw [List.getElem?_map] at hxi
  cases hy : xs[i]? with
  | none => simp [hy] at hxi
  | some y =>
    rw [hy] at hE hxi
    obtain ⟨g0, g1⟩ := el_cellsM hE (by simpa using hxi)
    rw [List.getElem?_take_of_lt (by omega), List.getElem?_drop] at g0 g1
    rw [World.var?_cell hg0 hv0, World.var?_cell hg0 hv0]
    rw [Array.getElem?_toList] at g0 g1
    exact ⟨g0, g1⟩
theorem blk_pos {W : World} {b o : Nat} {v : Value} (h : W.cell? ⟨b, o, none⟩ = some v) : b < W.heap.size := by
  unfold World.cell? at h
  rcases Nat.lt_or_ge b W.heap.size with hz | hz
  · exact hz
  · rw [Array.getElem?_eq_none (by exact hz)] at h; cases h
theorem gl_laid {W : World} (h : laidMetH Tryz.prog laidM W) : GlP glM W := by
  rw [MakeChecks.laidMetH_plain _ _ _ (by kernel_rfl)] at h
  obtain ⟨ps, ⟨g0, t0, cs0, f0, p0, q0, hg0, ht0, hv0, hd0, ⟨g1, t1, cs1, f1, p1, q1, hg1, ht1, hv1, hd1, -⟩, -⟩, -⟩ := h
  have kM := arr_M hg0 ht0 hv0 hd0
  have kO := arr_O hg1 ht1 hv1 hd1
  intro g
  unfold glM
  split
  · refine .fp (b := 0) (off := 0) trivial (blk_pos (kO 0 0 0 (by omega) rfl).1) (by simp) (by decide) (fun i x hx => ?_)
    have hi : i < 12 := (List.getElem?_eq_some_iff.1 hx).1
    obtain ⟨k, hk⟩ : ∃ k, i = k * 2 ∨ i = k * 2 + 1 := ⟨i / 2, by omega⟩
    have : k = 0 ∨ k = 1 ∨ k = 2 ∨ k = 3 ∨ k = 4 ∨ k = 5 := by omega
    rw [Nat.zero_add]
    rcases this with rfl | rfl | rfl | rfl | rfl | rfl <;> rcases hk with rfl | rfl <;> cases hx <;> first | exact (kO _ _ _ (by omega) rfl).1 | exact (kO _ _ _ (by omega) rfl).2
  · refine .fp (b := 1) (off := 0) trivial (blk_pos (kM 0 _ _ (by omega) rfl).1) (by simp) (by decide) (fun i x hx => ?_)
    have hi : i < 6 := (List.getElem?_eq_some_iff.1 hx).1
    obtain ⟨k, hk⟩ : ∃ k, i = k * 2 ∨ i = k * 2 + 1 := ⟨i / 2, by omega⟩
    have : k = 0 ∨ k = 1 ∨ k = 2 := by omega
    rw [Nat.zero_add]
    rcases this with rfl | rfl | rfl <;> rcases hk with rfl | rfl <;> cases hx <;> first | exact (kM _ _ _ (by omega) rfl).1 | exact (kM _ _ _ (by omega) rfl).2
  · exact .dead
end Go.Proofs.YtnplgklnkcjmnaaGreatDoor
namespace Go.Proofs.YtnplgklnkcjmnaaGreatDoor
open Go.RowKit Go.Proofs.YtnplgklnkcjmnaaGreatDoor.Am
set_option linter.unusedVariables false
set_option linter.unusedSimpArgs false

/-- From a walk on the machine to what a row wants. -/
theorem row_ofM {f : FuncId} {args : List T} (h : Pure Tryz.prog glM f args (.v (.bool true))) (w : World) (hg : GlP glM w) {vs : List Value} (hv : TVs w (fun _ => True) noM noL args vs) :
    Calls Tryz.prog f vs.toArray w fun e w' => e = .returned (.bool true) ∧ Below w.heap.size w w' := by
  refine (h w vs hg hv).mono ?_
  rintro e w' ⟨v, m, rfl, hb, hv⟩
  obtain rfl := hv.val rfl
  exact ⟨rfl, hb.fr.below (fun _ h => h)⟩
end Go.Proofs.YtnplgklnkcjmnaaGreatDoor
namespace Go.Proofs.YtnplgklnkcjmnaaGreatDoor.DcT
open Go.RowKit Go.Proofs.YtnplgklnkcjmnaaGreatDoor.Am Go.Proofs.YtnplgklnkcjmnaaGreatDoor
set_option linter.unusedVariables false
set_option linter.unusedSimpArgs false
theorem fI2 {w : World} {a : Option Addr} {len cap : Nat} {xs : List Int} (h : SlFl [.i64, .i64] w a len cap xs) : AllI xs := by
  intro y hy
  obtain ⟨i, hi, rfl⟩ := List.getElem_of_mem hy
  have := h.2.2 i _ (List.getElem?_eq_getElem hi)
  have hk : kc [.i64, .i64] i = .i64 := by
    unfold kc
    have : i % 2 = 0 ∨ i % 2 = 1 := by omega
    rcases this with h | h <;> simp [h]
  rw [hk] at this
  exact i64_of_wf this
theorem fI3 {w : World} {a : Option Addr} {len cap : Nat} {xs : List Int} (h : SlFl [.i64, .i64, .i64] w a len cap xs) : AllI xs := by
  intro y hy
  obtain ⟨i, hi, rfl⟩ := List.getElem_of_mem hy
  have := h.2.2 i _ (List.getElem?_eq_getElem hi)
  have hk : kc [.i64, .i64, .i64] i = .i64 := by
    unfold kc
    have : i % 3 = 0 ∨ i % 3 = 1 ∨ i % 3 = 2 := by omega
    rcases this with h | h | h <;> simp [h]
  rw [hk] at this
  exact i64_of_wf this
end Go.Proofs.YtnplgklnkcjmnaaGreatDoor.DcT
namespace Go.Proofs.YtnplgklnkcjmnaaGreatDoor
open Go.RowKit Go.Proofs.YtnplgklnkcjmnaaGreatDoor.Am Go.Proofs.YtnplgklnkcjmnaaGreatDoor.DcT
theorem dictUpdate_walk (w : World) (hg : GlP glM w) (room : Int) (hr : I64 room) (a1 : Option Addr) (len1 cap1 : Nat) (st : List Int) (s1 : SlFl [.i64, .i64, .i64] w a1 len1 cap1 st) (a2 : Option Addr) (len2 cap2 : Nat) (raw : List Int) (s2 : SlFl [.i64, .i64] w a2 len2 cap2 raw) :
    Calls Tryz.prog 4 #[.int .i64 room, .slice a1 len1 cap1, .slice a2 len2 cap2] w fun e w' => e = .returned (.bool true) ∧ Below w.heap.size w w' :=
  row_ofM (updateL_pure room len1 len2 st raw hr (fI3 s1) (fI2 s2)) w hg (.cons (.v rfl) (.cons s1.1 (.cons s2.1 .nil)))
end Go.Proofs.YtnplgklnkcjmnaaGreatDoor
