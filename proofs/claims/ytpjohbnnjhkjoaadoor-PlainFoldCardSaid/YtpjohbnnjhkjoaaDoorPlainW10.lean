/- The walk of plain.Winner. -/
import Derived.Test.YtpjohbnnjhkjoaaDoorPlainW6
namespace Go.Proofs.YtpjohbnnjhkjoaaDoor
open Go.RowKit
set_option linter.unusedVariables false
set_option linter.unusedSimpArgs false

/-- The first of the greatest, of those below k. -/
def bestN (t : Nat → Int) : Nat → Nat
  | 0 => 0
  | k + 1 => if t (bestN t k) < t k then k else bestN t k
theorem bestN_lt (t : Nat → Int) : ∀ k, k ≤ 9 → bestN t k < 9
  | 0, _ => by simp [bestN]
  | k + 1, h => by
    have := bestN_lt t k (by omega)
    simp only [bestN]
    split <;> omega
/-- The tallies, as 'counted' tells them. -/
def tal (vs : List Int) (j : Nat) : Int := if j = 0 then 0 else tally vs j
def talliesOf (vs : List Int) : Array Value := #[.int .u64 0, .int .u64 (tally vs 1), .int .u64 (tally vs 2), .int .u64 (tally vs 3), .int .u64 (tally vs 4), .int .u64 (tally vs 5), .int .u64 (tally vs 6), .int .u64 (tally vs 7), .int .u64 (tally vs 8)]
theorem index_tal (vs : List Int) : Hid (∀ k : Nat, k < 9 → ∀ w, (Instr.index 83 (.agg #[.int .u64 0, .int .u64 (tally vs 1), .int .u64 (tally vs 2), .int .u64 (tally vs 3), .int .u64 (tally vs 4), .int .u64 (tally vs 5), .int .u64 (tally vs 6), .int .u64 (tally vs 7), .int .u64 (tally vs 8)]) (.int .i64 (k : Int))).run Tryd.prog w = .ok (.int .u64 (tal vs k)) w) := by
  intro k hk w
  have : k = 0 ∨ k = 1 ∨ k = 2 ∨ k = 3 ∨ k = 4 ∨ k = 5 ∨ k = 6 ∨ k = 7 ∨ k = 8 := by omega
  rcases this with rfl | rfl | rfl | rfl | rfl | rfl | rfl | rfl | rfl <;> (show _ = _; kernel_rfl)
def WinPost (w : World) (n : Nat) (xs : List Int) (e : Ending) (w' : World) : Prop := e = .returned (.tuple #[.int .i64 (bestN (tal (votesOf n xs)) 9), .int .i64 0]) ∧ Below w.heap.size w w'
theorem ret_best {x y : Int} (h : x = y) : Ending.returned (.tuple #[.int .i64 x, .int .i64 0]) = .returned (.tuple #[.int .i64 y, .int .i64 0]) := by rw [h]

set_option maxRecDepth 10000 in
set_option maxHeartbeats 2000000 in
theorem winner_ok (p : Int) (N b off cap : Nat) (xs : List Int) (w : World) (hf : fits 5 p N = true) (ho : Objs w) (hb : b < w.heap.size) (hl : xs.length = N + 9) (hx : AllU xs)
    (hc : ∀ i, i < N + 9 → w.cell? ⟨b, off + i, none⟩ = some (.int .u64 (xs.getD i 0))) (hcap : (N : Int) + 9 ≤ cap) (hc2 : (cap : Int) ≤ 9223372036854775807) (hri : rightB N xs = true) :
    Calls Tryd.prog 20 #[conf 5 p N, .slice (some ⟨b, off, none⟩) (N + 9) cap] w (WinPost w N xs) := by
  obtain ⟨_, _, _, _, n1, n2⟩ := of_decide_eq_true hf
  have HCELL : Hid _ := hc
  have HXU : Hid (AllU xs) := hx
  have HXL : Hid (xs.length = N + 9) := hl
  have HO : Hid (Objs w) := ho
  have hh : Hid _ := home_ballot p N hf
  have HRI : Hid (rightB N xs = true) := hri
  clear ho hc hx hl hri
  go_enter Tryd.func20, Tryd.ntmps20
  go_wp2_with (go_at_call 36; refine (fits_any _ _ _ _).mono ?_; rintro e w' ⟨rfl, rfl⟩)
  obtain ⟨W, hW⟩ : ∃ W, W = allocs w [(.cells #[.int .i64 5, .int .i64 p, .int .i64 N] 23), (.cells #[.int .i64 5, .int .i64 p, .int .i64 N] 23)] := ⟨_, rfl⟩
  have hBW : Below w.heap.size w W := by rw [hW]; exact allocs_below _ _
  have hsz : W.heap.size = w.heap.size + 2 := by rw [hW, allocs_size]; rfl
  have k0 : W.cell? ⟨w.heap.size, 0, none⟩ = some (.int .i64 5) := by rw [hW]; exact allocs_cell (i := 0) rfl rfl
  have k1 : W.cell? ⟨w.heap.size, 1, none⟩ = some (.int .i64 p) := by rw [hW]; exact allocs_cell (i := 0) rfl rfl
  have k2 : W.cell? ⟨w.heap.size, 2, none⟩ = some (.int .i64 N) := by rw [hW]; exact allocs_cell (i := 0) rfl rfl
  change Calls _ _ _ (allocs w [(.cells #[.int .i64 5, .int .i64 p, .int .i64 N] 23), (.cells #[.int .i64 5, .int .i64 p, .int .i64 N] 23)]) _
  rw [← hW]
  refine (home_any 5 p N W (HO.out.below hBW HO.out.1)).mono ?_
  rintro e w1 ⟨rfl, hb1⟩
  rw [hh.out]
  clear hW
  have hz := hb1.size
  have HB1 : Hid (Below w.heap.size w w1) := hBW.trans (hb1.mono (by omega))
  have hlt0 : w.heap.size < W.heap.size := by omega
  have k0' : w1.cell? ⟨w.heap.size, 0, none⟩ = some (.int .i64 5) := (hb1.cell (p := ⟨_, 0, none⟩) hlt0).trans k0
  have k1' : w1.cell? ⟨w.heap.size, 1, none⟩ = some (.int .i64 p) := (hb1.cell (p := ⟨_, 1, none⟩) hlt0).trans k1
  have k2' : w1.cell? ⟨w.heap.size, 2, none⟩ = some (.int .i64 N) := (hb1.cell (p := ⟨_, 2, none⟩) hlt0).trans k2
  have hlt1 : w.heap.size < w1.heap.size := by omega
  have hlb : b < w1.heap.size := by omega
  clear hb1 k0 k1 k2 hlt0 hz hsz hBW
  go_wp2_with fail
  have hright := right_any 5 p N b off cap xs w1 (by omega) n2 hlb HXL.out HXU.out (fun i hi => (HB1.out.cell (p := ⟨b, off + i, none⟩) hb).trans (HCELL.out i hi)) hcap hc2
  unfold RightPost at hright
  rw [HRI.out] at hright
  refine hright.mono ?_
  clear hright
  rintro e w2 ⟨rfl, hb2⟩
  have k0 : w2.cell? ⟨w.heap.size, 0, none⟩ = some (.int .i64 5) := (hb2.cell (p := ⟨_, 0, none⟩) hlt1).trans k0'
  have k1 : w2.cell? ⟨w.heap.size, 1, none⟩ = some (.int .i64 p) := (hb2.cell (p := ⟨_, 1, none⟩) hlt1).trans k1'
  have k2 : w2.cell? ⟨w.heap.size, 2, none⟩ = some (.int .i64 N) := (hb2.cell (p := ⟨_, 2, none⟩) hlt1).trans k2'
  have HB2 : Hid (Below w.heap.size w w2) := HB1.out.trans (hb2.mono HB1.out.size)
  have hz2 := hb2.size
  clear hb2 k0' k1' k2'
  go_wp2_with fail
  refine (parts_any 5 p N b off cap n1 n2 hcap hc2 _).mono ?_
  rintro e w3' ⟨rfl, q, rfl⟩
  obtain ⟨w3, hw3⟩ : ∃ w3, w3 = (w2.alloc (.cells #[.int .i64 5, .int .i64 p, .int .i64 N] 23)).drewN q := ⟨_, rfl⟩
  have hb3 : Below w2.heap.size w2 w3 := by rw [hw3]; exact Below.drewN' (Below.one _ _) q
  rw [← hw3]
  clear hw3
  have HB3 : Hid (Below w.heap.size w w3) := HB2.out.trans (hb3.mono HB2.out.size)
  have HV : Hid (SlI .u64 w (some ⟨b, off + 1, none⟩) N (votesOf N xs)) := SlI.part hb HXL.out HCELL.out 1 N (by omega)
  have HVU : Hid (AllU (votesOf N xs)) := allU_part HXU.out 1 N
  have HSM : Hid (small (votesOf N xs) = true) := by
    have := HRI.out; unfold rightB at this; exact (Bool.and_eq_true_iff.1 this).1
  have HP : Hid (∀ e w', WinPost w N xs e w' ↔ (e = .returned (.tuple #[.int .i64 (bestN (tal (votesOf N xs)) 9), .int .i64 0]) ∧ Below w.heap.size w w')) := fun e w' => Iff.rfl
  clear hb3 k0 k1 k2
  go_wp2_with fail
  refine (counted_any _ N _ (votesOf N xs) w3 (HV.out.below HB3.out (Nat.le_refl _)) HVU.out (by omega)).mono ?_
  rintro e w4 ⟨hres, hb4⟩
  have HB4 : Hid (Below w.heap.size w w4) := HB3.out.trans (hb4.mono HB3.out.size)
  rcases hres with ⟨hsm, rfl⟩ | ⟨hsm, rfl⟩
  case inr => have h1 := HSM.out; rw [h1] at hsm; cases hsm
  clear hb4 hsm HV HVU HSM HB1 HB2 HB3 hz2 hlt1 hlb HCELL HXU HXL HO hh HRI
  unfold talliesV
  generalize hvs : votesOf N xs = vs at *
  have C0 : Hid (∀ i, i < 9 → (w4.alloc (.cells #[.int .u64 0, .int .u64 (tally vs 1), .int .u64 (tally vs 2), .int .u64 (tally vs 3), .int .u64 (tally vs 4), .int .u64 (tally vs 5), .int .u64 (tally vs 6), .int .u64 (tally vs 7), .int .u64 (tally vs 8)] 83)).cell? ⟨w4.heap.size, i, none⟩ = some (.int .u64 (tal vs i))) := by
    intro i hi
    have : i = 0 ∨ i = 1 ∨ i = 2 ∨ i = 3 ∨ i = 4 ∨ i = 5 ∨ i = 6 ∨ i = 7 ∨ i = 8 := by omega
    rcases this with rfl | rfl | rfl | rfl | rfl | rfl | rfl | rfl | rfl <;> exact cell_new _ _ _ _ _ rfl
  have HB5 : Hid (Below w.heap.size w (w4.alloc (.cells #[.int .u64 0, .int .u64 (tally vs 1), .int .u64 (tally vs 2), .int .u64 (tally vs 3), .int .u64 (tally vs 4), .int .u64 (tally vs 5), .int .u64 (tally vs 6), .int .u64 (tally vs 7), .int .u64 (tally vs 8)] 83))) := HB4.out.alloc HB4.out.size _
  go_wp2_with fail
  generalize w4.alloc _ = W5 at *
  generalize w4.heap.size = T at *
  have HIX := index_tal vs
  generalize (#[.int .u64 0, .int .u64 (tally vs 1), .int .u64 (tally vs 2), .int .u64 (tally vs 3), .int .u64 (tally vs 4), .int .u64 (tally vs 5), .int .u64 (tally vs 6), .int .u64 (tally vs 7), .int .u64 (tally vs 8)] : Array Value) = arr at *
  go_loopw [45, 4] (fun i v wr => ∃ k : Nat, i = .int .i64 k ∧ (k : Int) ≤ 9 ∧ Hid (v = .int .i64 (bestN (tal vs) k)) ∧ Hid (∀ i, i < 9 → wr.cell? ⟨T, i, none⟩ = some (.int .u64 (tal vs i))) ∧ Hid (Below w.heap.size w wr)) (fun i _ _ => (9 - intOf i).toNat)
  case atStart => exact ⟨0, rfl, by omega, rfl, C0.out, HB5.out⟩
  case round =>
    obtain ⟨k, rfl, hk, HV, HC, HR⟩ := hrel
    obtain ⟨B, hB⟩ : ∃ B, B = bestN (tal vs) k := ⟨_, rfl⟩
    have hB9 : B < 9 := by rw [hB]; exact bestN_lt _ _ (by omega)
    have HN : Hid (bestN (tal vs) (k + 1) = if tal vs B < tal vs k then k else B) := by show _ = _; rw [hB]; rfl
    have hv := HV.out
    rw [← hB] at hv
    subst hv
    have hcb := HC.out B hB9
    by_cases hlt : (k : Int) < 9
    · have hak := HIX.out k (by omega)
      clear HIX
      clear hB HV
      generalize tal vs B = tb at *
      generalize tal vs k = tk at *
      by_cases hgt : tb < tk
      · rw [if_pos hgt] at HN
        have HN' : Hid (bestN (tal vs) (k + 1) = k) := HN
        go_wp2_with fail
        go_roundw
        case rel => exact ⟨k + 1, by go_num, by omega, by (show _ = _; rw [HN'.out]), HC.out, HR.out⟩
        case measure => simp [intOf]; omega
      · rw [if_neg hgt] at HN
        have HN' : Hid (bestN (tal vs) (k + 1) = B) := HN
        go_wp2_with fail
        go_roundw
        case rel => exact ⟨k + 1, by go_num, by omega, by (show _ = _; rw [HN'.out]), HC.out, HR.out⟩
        case measure => simp [intOf]; omega
    · go_wp2_with fail
      go_ret2
      have : k = 9 := by omega
      subst this
      exact ⟨ret_best (by rw [hvs]), HR.out⟩
end Go.Proofs.YtpjohbnnjhkjoaaDoor
