/- The walks of plain.parts and plain.counted. -/
import Derived.Test.YtpjohbnnjhkjoaaDoorSlW
import Derived.Test.YtpjohbnnjhkjoaaDoorRegionW
namespace Go.Proofs.YtpjohbnnjhkjoaaDoor
open Go.RowKit
set_option linter.unusedVariables false
set_option linter.unusedSimpArgs false
theorem ret_slices {b b2 o o2 l l2 c c2 b' b2' o' o2' l' l2' c' c2' : Nat} (h1 : b = b') (h2 : o = o') (h3 : l = l') (h4 : c = c') (h5 : b2 = b2') (h6 : o2 = o2') (h7 : l2 = l2') (h8 : c2 = c2') :
    Ending.returned (.tuple #[.slice (some ⟨b, o, none⟩) l c, .slice (some ⟨b2, o2, none⟩) l2 c2]) = .returned (.tuple #[.slice (some ⟨b', o', none⟩) l' c', .slice (some ⟨b2', o2', none⟩) l2' c2']) := by
  subst h1 h2 h3 h4 h5 h6 h7 h8; rfl

set_option maxRecDepth 10000 in
theorem parts_any (k p : Int) (N b off cap : Nat) (hn : 1 ≤ (N : Int)) (h1 : (N : Int) ≤ 256) (hcap : (N : Int) + 9 ≤ cap) (hc2 : (cap : Int) ≤ 9223372036854775807) (w : World) :
    Calls Tryd.prog 38 #[conf k p N, .slice (some ⟨b, off, none⟩) (N + 9) cap] w fun e w' => e = .returned (.tuple #[.slice (some ⟨b, off + 1, none⟩) N (cap - 1), .slice (some ⟨b, off + 1 + N, none⟩) 8 (cap - 1 - N)]) ∧
      ∃ q, w' = (w.alloc (.cells #[.int .i64 k, .int .i64 p, .int .i64 N] 23)).drewN q := by
  have n1 : ¬ cap = 1 := by omega
  have n2 : ¬ cap - 1 = N := by omega
  have n3 : ¬ (1 : Nat) = cap := by omega
  have n4 : ¬ N = cap - 1 := by omega
  go_enter Tryd.func38, Tryd.ntmps38
  go_wp2_with fail
  go_quiet (fail)
  go_wp2_with fail
  go_ret2
  exact ⟨ret_slices rfl rfl rfl rfl rfl rfl (by omega) rfl, _, rfl⟩

/-! ### counted -/
/-- How often j stands among these. -/
def tally (xs : List Int) (j : Nat) : Int := ((xs.filter fun x => decide (x = (j : Int))).length : Nat)
theorem tally_nil (j : Nat) : tally [] j = 0 := rfl
theorem tally_snoc (xs : List Int) (v : Int) (j : Nat) : tally (xs ++ [v]) j = tally xs j + if v = (j : Int) then 1 else 0 := by
  unfold tally
  rw [List.filter_append, List.length_append]
  by_cases h : v = (j : Int) <;> simp [h]
theorem tally_bounds (xs : List Int) (j : Nat) : 0 ≤ tally xs j ∧ tally xs j ≤ xs.length := by
  unfold tally
  have := List.length_filter_le (fun x => decide (x = (j : Int))) xs
  omega
def small (xs : List Int) : Bool := xs.all fun x => decide (x ≤ 8)
def talliesV (xs : List Int) : Value := .agg #[.int .u64 0, .int .u64 (tally xs 1), .int .u64 (tally xs 2), .int .u64 (tally xs 3), .int .u64 (tally xs 4), .int .u64 (tally xs 5), .int .u64 (tally xs 6), .int .u64 (tally xs 7), .int .u64 (tally xs 8)]
def zerosV : Value := .agg #[.int .u64 0, .int .u64 0, .int .u64 0, .int .u64 0, .int .u64 0, .int .u64 0, .int .u64 0, .int .u64 0, .int .u64 0]
/-- The tallies' cells, as they stand. -/
def Nine (w : World) (T : Nat) (xs : List Int) : Prop := T < w.heap.size ∧ ∀ j, j < 9 → w.cell? ⟨T, j, none⟩ = some (.int .u64 (tally xs j)) ∧ w.frozen? ⟨T, j, none⟩ = false
theorem Nine.step {w : World} {T : Nat} {xs : List Int} {v : Nat} (h : Nine w T xs) (hv : v < 9) (x : Int) (hx : x = tally xs v + 1) : Nine (w.setCell ⟨T, v, none⟩ (.int .u64 x)) T (xs ++ [(v : Int)]) := by
  refine ⟨by simpa [World.setCell] using h.1, fun j hj => ⟨?_, by rw [World.frozen?_setCell]; exact (h.2 j hj).2⟩⟩
  rw [tally_snoc]
  by_cases e : v = j
  · subst e
    rw [if_pos rfl, ← hx]
    exact cell_set_same (h.2 v hv).1
  · rw [if_neg (by omega), Int.add_zero]
    have := (h.2 j hj).1
    exact (cell_set_other (by intro q; injection q; omega)).trans this

theorem small_take {xs : List Int} {k : Nat} (hk : k < xs.length) (h : small (xs.take k) = true) (hv : xs.getD k 0 ≤ 8) : small (xs.take (k + 1)) = true := by
  rw [take_succ_getD hk]; unfold small at *; rw [List.all_append, h]; simpa using hv
theorem small_not {xs : List Int} {k : Nat} (hk : k < xs.length) (hv : 8 < xs.getD k 0) : small xs = false := by
  unfold small
  rw [List.all_eq_false]
  refine ⟨xs.getD k 0, ?_, by rw [decide_eq_true_iff]; omega⟩
  rw [List.getD_eq_getElem?_getD, List.getElem?_eq_getElem hk]
  exact List.getElem_mem hk

/-- What 'counted' tells. -/
def CountedPost (w : World) (xs : List Int) (e : Ending) (w' : World) : Prop :=
  ((small xs = true ∧ e = .returned (.tuple #[talliesV xs, .bool true])) ∨ (small xs = false ∧ e = .returned (.tuple #[zerosV, .bool false]))) ∧ Below w.heap.size w w'

set_option maxRecDepth 10000 in
set_option maxHeartbeats 1000000 in
theorem counted_any (a : Option Addr) (n cap : Nat) (xs : List Int) (w : World) (hs : SlI .u64 w a n xs) (hx : AllU xs) (hn : (n : Int) ≤ 17592186043904) :
    Calls Tryd.prog 40 #[.slice a n cap] w (CountedPost w xs) := by
  go_enter Tryd.func40, Tryd.ntmps40
  go_wp2_with fail
  have h9 : Nine (w.alloc (.cells #[.int .u64 0, .int .u64 0, .int .u64 0, .int .u64 0, .int .u64 0, .int .u64 0, .int .u64 0, .int .u64 0, .int .u64 0] 83)) w.heap.size [] := by
    refine ⟨by simp, fun j hj => ?_⟩
    have : j = 0 ∨ j = 1 ∨ j = 2 ∨ j = 3 ∨ j = 4 ∨ j = 5 ∨ j = 6 ∨ j = 7 ∨ j = 8 := by omega
    rcases this with rfl | rfl | rfl | rfl | rfl | rfl | rfl | rfl | rfl <;> exact ⟨cell_new _ _ _ _ _ rfl, frozen_new _ _ _ _⟩
  have H9 : Hid _ := h9
  have HB : Hid _ := Below.one w (.cells #[.int .u64 0, .int .u64 0, .int .u64 0, .int .u64 0, .int .u64 0, .int .u64 0, .int .u64 0, .int .u64 0, .int .u64 0] 83)
  clear h9
  have HS : Hid (SlI .u64 w a n xs) := hs
  have HX : Hid (AllU xs) := hx
  have hlen : Hid (xs.length = n) := hs.1
  clear hs hx
  obtain ⟨T, hT⟩ : ∃ T, T = w.heap.size := ⟨_, rfl⟩
  rw [← hT] at H9 ⊢
  have HT : Hid (T = w.heap.size) := hT
  clear hT
  go_loopw [8] (fun i wr => ∃ k : Nat, i = .int .i64 k ∧ k ≤ n ∧ Hid (small (xs.take k) = true) ∧ Hid (Nine wr T (xs.take k)) ∧ Hid (Below w.heap.size w wr)) (fun i _ => (n - intOf i).toNat)
  case atStart => exact ⟨0, rfl, Nat.zero_le _, rfl, H9.out, HB.out⟩
  case round =>
    obtain ⟨k, rfl, hk, HM, HN, HR⟩ := hrel
    by_cases hlt : (k : Int) < n
    · obtain ⟨b, off, rfl, hb, hc⟩ := HS.out.2.resolve_left (by omega)
      have hck := (HR.out.cell (p := ⟨b, off + k, none⟩) hb).trans (hc k (by omega))
      have hkl : k < xs.length := by rw [hlen.out]; omega
      have HXk : Hid (U64 (xs.getD k 0)) := HX.out.at hkl
      have HBig : Hid (8 < xs.getD k 0 → small xs = false) := small_not hkl
      have HSm : Hid (xs.getD k 0 ≤ 8 → small (xs.take (k + 1)) = true) := small_take hkl HM.out
      have HTk : Hid (xs.take (k + 1) = xs.take k ++ [xs.getD k 0]) := take_succ_getD hkl
      clear hc hkl
      have htsz : T < wr.heap.size := HN.out.1
      generalize xs.getD k 0 = v at *
      by_cases hv : 8 < v
      · have HF : Hid (small xs = false) := HBig.out hv
        have c0 := (HN.out.2 0 (by omega)).1
        have c1 := (HN.out.2 1 (by omega)).1
        have c2 := (HN.out.2 2 (by omega)).1
        have c3 := (HN.out.2 3 (by omega)).1
        have c4 := (HN.out.2 4 (by omega)).1
        have c5 := (HN.out.2 5 (by omega)).1
        have c6 := (HN.out.2 6 (by omega)).1
        have c7 := (HN.out.2 7 (by omega)).1
        have c8 := (HN.out.2 8 (by omega)).1
        have f0 := (HN.out.2 0 (by omega)).2
        have f1 := (HN.out.2 1 (by omega)).2
        have f2 := (HN.out.2 2 (by omega)).2
        have f3 := (HN.out.2 3 (by omega)).2
        have f4 := (HN.out.2 4 (by omega)).2
        have f5 := (HN.out.2 5 (by omega)).2
        have f6 := (HN.out.2 6 (by omega)).2
        have f7 := (HN.out.2 7 (by omega)).2
        have f8 := (HN.out.2 8 (by omega)).2
        go_wp2_with fail
        refine bodyPost_ret (v := .tuple #[.agg #[.int .u64 0, .int .u64 0, .int .u64 0, .int .u64 0, .int .u64 0, .int .u64 0, .int .u64 0, .int .u64 0, .int .u64 0], .bool false]) (by simp [results, Tryd.results40, go_sem, c0, f0, c1, f1, c2, f2, c3, f3, c4, f4, c5, f5, c6, f6, c7, f7, c8, f8, htsz]) rfl ⟨Or.inr ⟨HF.out, rfl⟩, ?_⟩
        have hT : w.heap.size ≤ T := by rw [HT.out]; exact Nat.le_refl _
        repeat (refine Below.setCell ?_ (by exact hT) _)
        exact HR.out
      · obtain ⟨V, rfl⟩ := Int.eq_ofNat_of_zero_le HXk.out.1
        have hV : (V : Int) < 9 := by omega
        have hcell := HN.out.2 V (by omega)
        obtain ⟨hc1, hc2⟩ := hcell
        have tb := tally_bounds (xs.take k) V
        have hstep : Hid (Nine (wr.setCell ⟨T, V, none⟩ (.int .u64 (tally (xs.take k) V + 1))) T (xs.take k ++ [(V : Int)])) := HN.out.step (by omega) _ rfl
        have tl : ((xs.take k).length : Int) ≤ 17592186043904 := by
          have := List.length_take_le k xs
          omega
        obtain ⟨tb1, tb2⟩ := tb
        generalize tally (xs.take k) V = c at *
        generalize (xs.take k).length = lt at *
        have hv' : (V : Int) ≤ 8 := by omega
        clear HBig hv
        go_wp2_with fail
        go_roundw
        case rel => exact ⟨k + 1, by go_num, by omega, HSm.out hv', by (show Nine _ _ _; rw [HTk.out]; exact hstep.out), HR.out.setCell (by rw [HT.out]; exact Nat.le_refl _) _⟩
        case measure => simp [intOf]; omega
    · have HA : Hid (xs.take k = xs) := List.take_of_length_le (by rw [hlen.out]; omega)
      have htsz : T < wr.heap.size := HN.out.1
      have c0 := (HN.out.2 0 (by omega)).1
      have f0 := (HN.out.2 0 (by omega)).2
      have c1 := (HN.out.2 1 (by omega)).1
      have f1 := (HN.out.2 1 (by omega)).2
      have c2 := (HN.out.2 2 (by omega)).1
      have f2 := (HN.out.2 2 (by omega)).2
      have c3 := (HN.out.2 3 (by omega)).1
      have f3 := (HN.out.2 3 (by omega)).2
      have c4 := (HN.out.2 4 (by omega)).1
      have f4 := (HN.out.2 4 (by omega)).2
      have c5 := (HN.out.2 5 (by omega)).1
      have f5 := (HN.out.2 5 (by omega)).2
      have c6 := (HN.out.2 6 (by omega)).1
      have f6 := (HN.out.2 6 (by omega)).2
      have c7 := (HN.out.2 7 (by omega)).1
      have f7 := (HN.out.2 7 (by omega)).2
      have c8 := (HN.out.2 8 (by omega)).1
      have f8 := (HN.out.2 8 (by omega)).2
      rw [HA.out] at c1 c2 c3 c4 c5 c6 c7 c8
      have HM' : Hid (small xs = true) := by have := HM.out; rw [HA.out] at this; exact this
      generalize hz0 : tally (xs.take k) 0 = z0 at c0
      clear hz0
      go_wp2_with fail
      refine bodyPost_ret (v := .tuple #[.agg #[.int .u64 0, .int .u64 (tally xs 1), .int .u64 (tally xs 2), .int .u64 (tally xs 3), .int .u64 (tally xs 4), .int .u64 (tally xs 5), .int .u64 (tally xs 6), .int .u64 (tally xs 7), .int .u64 (tally xs 8)], .bool true]) (by simp [results, Tryd.results40, go_sem, c0, f0, c1, f1, c2, f2, c3, f3, c4, f4, c5, f5, c6, f6, c7, f7, c8, f8, htsz]) rfl ⟨Or.inl ⟨HM'.out, rfl⟩, ?_⟩
      have hT : w.heap.size ≤ T := by rw [HT.out]; exact Nat.le_refl _
      repeat (refine Below.setCell ?_ (by exact hT) _)
      exact HR.out
end Go.Proofs.YtpjohbnnjhkjoaaDoor
