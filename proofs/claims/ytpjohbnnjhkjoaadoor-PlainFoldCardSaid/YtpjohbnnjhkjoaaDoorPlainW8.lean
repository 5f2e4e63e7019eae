/- The walk of plain.Apply at a ballot. -/
import Derived.Test.YtpjohbnnjhkjoaaDoorPlainW7
namespace Go.Proofs.YtpjohbnnjhkjoaaDoor
open Go.RowKit
set_option linter.unusedVariables false
set_option linter.unusedSimpArgs false
def ApplyBalPost (w : World) (n : Nat) (r : Int × Int × (Nat → Int)) (e : Ending) (w' : World) : Prop :=
  ∃ g cap, e = .returned (.tuple #[.slice (some ⟨g, 0, none⟩) (n + 9) cap, .agg #[.int .i64 r.1, .int .u64 r.2.1], .int .i64 0]) ∧ n + 9 ≤ cap ∧ (cap : Int) ≤ 9223372036854775807 ∧ RowF w' w.heap.size g (n + 9) r.2.2 ∧ Below w.heap.size w w'

set_option maxRecDepth 10000 in
set_option maxHeartbeats 2000000 in
theorem apply_bal (p c key v : Int) (N b off cap : Nat) (xs : List Int) (r : Int × Int × (Nat → Int)) (w : World) (hf : fits 5 p N = true) (ho : Objs w) (hb : b < w.heap.size) (hl : xs.length = N + 9) (hx : AllU xs)
    (hc : ∀ i, i < N + 9 → w.cell? ⟨b, off + i, none⟩ = some (.int .u64 (xs.getD i 0))) (hcap : (N : Int) + 9 ≤ cap) (hc2 : (cap : Int) ≤ 9223372036854775807) (hri : rightB N xs = true)
    (hcall : ∀ (W : World) (B g cp : Nat), RowF W B g (N + 9) (fun i => xs.getD i 0) → B ≤ W.heap.size → (N : Int) + 9 ≤ cp → (cp : Int) ≤ 9223372036854775807 → Calls Tryd.prog 48 #[conf 5 p N, .slice (some ⟨g, 0, none⟩) (N + 9) cp, opV c key v] W (BalPost W B g N r)) :
    Calls Tryd.prog 23 #[conf 5 p N, .slice (some ⟨b, off, none⟩) (N + 9) cap, opV c key v] w (ApplyBalPost w N r) := by
  obtain ⟨_, _, _, _, n1, n2⟩ := of_decide_eq_true hf
  have HCALL : Hid _ := hcall
  have HCELL : Hid _ := hc
  have HXU : Hid (AllU xs) := hx
  have HXL : Hid (xs.length = N + 9) := hl
  have HO : Hid (Objs w) := ho
  have hh : Hid _ := home_ballot p N hf
  have HRI : Hid (rightB N xs = true) := hri
  clear ho hcall hc hx hl hri
  go_enter Tryd.func23, Tryd.ntmps23
  go_wp2_with (go_at_call 36; refine (fits_any _ _ _ _).mono ?_; rintro e w' ⟨rfl, rfl⟩)
  obtain ⟨W, hW⟩ : ∃ W, W = allocs w [(.cells #[.int .i64 5, .int .i64 p, .int .i64 N] 23), (.cells #[.int .i64 c, .int .u64 key, .int .u64 v] 30), (.cells #[.int .i64 0, .int .u64 0] 55), (.cells #[.int .i64 5, .int .i64 p, .int .i64 N] 23)] := ⟨_, rfl⟩
  have hBW : Below w.heap.size w W := by rw [hW]; exact allocs_below _ _
  have hsz : W.heap.size = w.heap.size + 4 := by rw [hW, allocs_size]; rfl
  have k0 : W.cell? ⟨w.heap.size, 0, none⟩ = some (.int .i64 5) := by rw [hW]; exact allocs_cell (i := 0) rfl rfl
  have k1 : W.cell? ⟨w.heap.size, 1, none⟩ = some (.int .i64 p) := by rw [hW]; exact allocs_cell (i := 0) rfl rfl
  have k2 : W.cell? ⟨w.heap.size, 2, none⟩ = some (.int .i64 N) := by rw [hW]; exact allocs_cell (i := 0) rfl rfl
  have o0 : W.cell? ⟨w.heap.size + 1, 0, none⟩ = some (.int .i64 c) := by rw [hW]; exact allocs_cell (i := 1) rfl rfl
  have o1 : W.cell? ⟨w.heap.size + 1, 1, none⟩ = some (.int .u64 key) := by rw [hW]; exact allocs_cell (i := 1) rfl rfl
  have o2 : W.cell? ⟨w.heap.size + 1, 2, none⟩ = some (.int .u64 v) := by rw [hW]; exact allocs_cell (i := 1) rfl rfl
  have r0 : W.cell? ⟨w.heap.size + 1 + 1, 0, none⟩ = some (.int .i64 0) := by rw [hW]; exact allocs_cell (i := 2) rfl rfl
  have r1 : W.cell? ⟨w.heap.size + 1 + 1, 1, none⟩ = some (.int .u64 0) := by rw [hW]; exact allocs_cell (i := 2) rfl rfl
  have q0 : W.frozen? ⟨w.heap.size + 1 + 1, 0, none⟩ = false := by rw [hW]; exact allocs_frozen (i := 2) rfl
  have q1 : W.frozen? ⟨w.heap.size + 1 + 1, 1, none⟩ = false := by rw [hW]; exact allocs_frozen (i := 2) rfl
  change Calls _ _ _ (allocs w [(.cells #[.int .i64 5, .int .i64 p, .int .i64 N] 23), (.cells #[.int .i64 c, .int .u64 key, .int .u64 v] 30), (.cells #[.int .i64 0, .int .u64 0] 55), (.cells #[.int .i64 5, .int .i64 p, .int .i64 N] 23)]) _
  rw [← hW]
  refine (home_any 5 p N W (HO.out.below hBW HO.out.1)).mono ?_
  rintro e w1 ⟨rfl, hb1⟩
  rw [hh.out]
  clear hW
  have hz := hb1.size
  have HB1 : Hid (Below w.heap.size w w1) := hBW.trans (hb1.mono (by omega))
  have hlt0 : w.heap.size < W.heap.size := by omega
  have hlt1 : w.heap.size + 1 < W.heap.size := by omega
  have hlt2 : w.heap.size + 1 + 1 < W.heap.size := by omega
  have k0' : w1.cell? ⟨w.heap.size, 0, none⟩ = some (.int .i64 5) := (hb1.cell (p := ⟨_, 0, none⟩) hlt0).trans k0
  have k1' : w1.cell? ⟨w.heap.size, 1, none⟩ = some (.int .i64 p) := (hb1.cell (p := ⟨_, 1, none⟩) hlt0).trans k1
  have k2' : w1.cell? ⟨w.heap.size, 2, none⟩ = some (.int .i64 N) := (hb1.cell (p := ⟨_, 2, none⟩) hlt0).trans k2
  have o0' : w1.cell? ⟨w.heap.size + 1, 0, none⟩ = some (.int .i64 c) := (hb1.cell (p := ⟨_, 0, none⟩) hlt1).trans o0
  have o1' : w1.cell? ⟨w.heap.size + 1, 1, none⟩ = some (.int .u64 key) := (hb1.cell (p := ⟨_, 1, none⟩) hlt1).trans o1
  have o2' : w1.cell? ⟨w.heap.size + 1, 2, none⟩ = some (.int .u64 v) := (hb1.cell (p := ⟨_, 2, none⟩) hlt1).trans o2
  have r0' : w1.cell? ⟨w.heap.size + 1 + 1, 0, none⟩ = some (.int .i64 0) := (hb1.cell (p := ⟨_, 0, none⟩) hlt2).trans r0
  have r1' : w1.cell? ⟨w.heap.size + 1 + 1, 1, none⟩ = some (.int .u64 0) := (hb1.cell (p := ⟨_, 1, none⟩) hlt2).trans r1
  have q0' : w1.frozen? ⟨w.heap.size + 1 + 1, 0, none⟩ = false := (hb1.frozen (p := ⟨_, 0, none⟩) hlt2).trans q0
  have q1' : w1.frozen? ⟨w.heap.size + 1 + 1, 1, none⟩ = false := (hb1.frozen (p := ⟨_, 1, none⟩) hlt2).trans q1
  have hb' : b < w1.heap.size := by omega
  have hz1 : w.heap.size + 3 < w1.heap.size := by omega
  clear hb1 k0 k1 k2 o0 o1 o2 r0 r1 q0 q1 hlt0 hlt1 hlt2 hz hsz hBW
  go_wp2_with fail
  rw [← HXL.out]
  refine (clone_any b off xs.length cap xs w1 hb' rfl (by intro i hi; rw [HXL.out] at hi; exact (HB1.out.cell (p := ⟨b, off + i, none⟩) hb).trans (HCELL.out i hi)) (by rw [HXL.out]; omega)).mono ?_
  rintro e w2 ⟨g, cp, rfl, hcp, hcp2, hown, hb2⟩
  rw [HXL.out] at hcp hown ⊢
  have hlt0 : w.heap.size < w1.heap.size := by omega
  have hlt1 : w.heap.size + 1 < w1.heap.size := by omega
  have hlt2 : w.heap.size + 1 + 1 < w1.heap.size := by omega
  have k0 : w2.cell? ⟨w.heap.size, 0, none⟩ = some (.int .i64 5) := (hb2.cell (p := ⟨_, 0, none⟩) hlt0).trans k0'
  have o0 : w2.cell? ⟨w.heap.size + 1, 0, none⟩ = some (.int .i64 c) := (hb2.cell (p := ⟨_, 0, none⟩) hlt1).trans o0'
  have o1 : w2.cell? ⟨w.heap.size + 1, 1, none⟩ = some (.int .u64 key) := (hb2.cell (p := ⟨_, 1, none⟩) hlt1).trans o1'
  have o2 : w2.cell? ⟨w.heap.size + 1, 2, none⟩ = some (.int .u64 v) := (hb2.cell (p := ⟨_, 2, none⟩) hlt1).trans o2'
  have r0 : w2.cell? ⟨w.heap.size + 1 + 1, 0, none⟩ = some (.int .i64 0) := (hb2.cell (p := ⟨_, 0, none⟩) hlt2).trans r0'
  have r1 : w2.cell? ⟨w.heap.size + 1 + 1, 1, none⟩ = some (.int .u64 0) := (hb2.cell (p := ⟨_, 1, none⟩) hlt2).trans r1'
  have q0 : w2.frozen? ⟨w.heap.size + 1 + 1, 0, none⟩ = false := (hb2.frozen (p := ⟨_, 0, none⟩) hlt2).trans q0'
  have q1 : w2.frozen? ⟨w.heap.size + 1 + 1, 1, none⟩ = false := (hb2.frozen (p := ⟨_, 1, none⟩) hlt2).trans q1'
  have HB2 : Hid (Below w.heap.size w w2) := HB1.out.trans (hb2.mono HB1.out.size)
  have k1 : w2.cell? ⟨w.heap.size, 1, none⟩ = some (.int .i64 p) := (hb2.cell (p := ⟨_, 1, none⟩) hlt0).trans k1'
  have k2 : w2.cell? ⟨w.heap.size, 2, none⟩ = some (.int .i64 N) := (hb2.cell (p := ⟨_, 2, none⟩) hlt0).trans k2'
  have HG : Hid (w.heap.size + 3 < g ∧ g < w2.heap.size ∧ N + 9 ≤ cp ∧ (cp : Int) ≤ 9223372036854775807 ∧ RowF w2 (w.heap.size + 3) g (N + 9) (fun i => xs.getD i 0)) := by
    refine ⟨Nat.lt_of_lt_of_le hz1 hown.1, hown.2.1, hcp, hcp2, Nat.le_of_lt (Nat.lt_of_lt_of_le hz1 hown.1), hown.2.1, fun i hi => ⟨hown.2.2.2.2 i hi, hown.2.2.2.1 i⟩⟩
  have hz2 := hb2.size
  clear hb2 hown k0' k1' k2' o0' o1' o2' r0' r1' q0' q1' hcp hlt0 hlt1 hlt2
  go_wp2_with fail
  have hlb : b < w2.heap.size := by omega
  have hright := right_any 5 p N b off cap xs w2 (by omega) n2 hlb HXL.out HXU.out (fun i hi => (HB2.out.cell (p := ⟨b, off + i, none⟩) hb).trans (HCELL.out i hi)) hcap hc2
  unfold RightPost at hright
  rw [HRI.out] at hright
  refine hright.mono ?_
  clear hright
  rintro e w4 ⟨rfl, hb4⟩
  have hlt1 : w.heap.size + 1 < w2.heap.size := by omega
  have hlt2 : w.heap.size + 1 + 1 < w2.heap.size := by omega
  have hlt0 : w.heap.size < w2.heap.size := by omega
  have k0' : w4.cell? ⟨w.heap.size, 0, none⟩ = some (.int .i64 5) := (hb4.cell (p := ⟨_, 0, none⟩) hlt0).trans k0
  have k1' : w4.cell? ⟨w.heap.size, 1, none⟩ = some (.int .i64 p) := (hb4.cell (p := ⟨_, 1, none⟩) hlt0).trans k1
  have k2' : w4.cell? ⟨w.heap.size, 2, none⟩ = some (.int .i64 N) := (hb4.cell (p := ⟨_, 2, none⟩) hlt0).trans k2
  have o0' : w4.cell? ⟨w.heap.size + 1, 0, none⟩ = some (.int .i64 c) := (hb4.cell (p := ⟨_, 0, none⟩) hlt1).trans o0
  have o1' : w4.cell? ⟨w.heap.size + 1, 1, none⟩ = some (.int .u64 key) := (hb4.cell (p := ⟨_, 1, none⟩) hlt1).trans o1
  have o2' : w4.cell? ⟨w.heap.size + 1, 2, none⟩ = some (.int .u64 v) := (hb4.cell (p := ⟨_, 2, none⟩) hlt1).trans o2
  have r0' : w4.cell? ⟨w.heap.size + 1 + 1, 0, none⟩ = some (.int .i64 0) := (hb4.cell (p := ⟨_, 0, none⟩) hlt2).trans r0
  have r1' : w4.cell? ⟨w.heap.size + 1 + 1, 1, none⟩ = some (.int .u64 0) := (hb4.cell (p := ⟨_, 1, none⟩) hlt2).trans r1
  have q0' : w4.frozen? ⟨w.heap.size + 1 + 1, 0, none⟩ = false := (hb4.frozen (p := ⟨_, 0, none⟩) hlt2).trans q0
  have q1' : w4.frozen? ⟨w.heap.size + 1 + 1, 1, none⟩ = false := (hb4.frozen (p := ⟨_, 1, none⟩) hlt2).trans q1
  have HB4 : Hid (Below w.heap.size w w4) := HB2.out.trans (hb4.mono HB2.out.size)
  have HG4 : Hid (RowF w4 (w.heap.size + 3) g (N + 9) (fun i => xs.getD i 0)) := HG.out.2.2.2.2.below hb4 HG.out.2.1
  have hz4 : w2.heap.size ≤ w4.heap.size := hb4.size
  clear hb4 k0 k1 k2 o0 o1 o2 r0 r1 q0 q1 hlt0 hlt1 hlt2
  have hszB : w.heap.size + 3 ≤ w4.heap.size := by omega
  go_wp2_with fail
  refine (HCALL.out w4 (w.heap.size + 3) g cp HG4.out hszB (by have := HG.out.2.2.1; omega) hcp2).mono ?_
  rintro e w3 ⟨rfl, hrow3, hb3⟩
  have hlt2 : w.heap.size + 1 + 1 < w.heap.size + 3 := by omega
  have r0 : w3.cell? ⟨w.heap.size + 1 + 1, 0, none⟩ = some (.int .i64 0) := (hb3.cell (p := ⟨_, 0, none⟩) hlt2).trans r0'
  have r1 : w3.cell? ⟨w.heap.size + 1 + 1, 1, none⟩ = some (.int .u64 0) := (hb3.cell (p := ⟨_, 1, none⟩) hlt2).trans r1'
  have q0 : w3.frozen? ⟨w.heap.size + 1 + 1, 0, none⟩ = false := (hb3.frozen (p := ⟨_, 0, none⟩) hlt2).trans q0'
  have q1 : w3.frozen? ⟨w.heap.size + 1 + 1, 1, none⟩ = false := (hb3.frozen (p := ⟨_, 1, none⟩) hlt2).trans q1'
  have HB3 : Hid (Below w.heap.size w w3) := HB4.out.trans (hb3.mono (by omega))
  have H3 : Hid (RowF w3 (w.heap.size + 3) g (N + 9) r.2.2) := hrow3
  have hz3 : w4.heap.size ≤ w3.heap.size := hb3.size
  clear hb3 hrow3 r0' r1' q0' q1' o0' o1' o2' k0' k1' k2' hlt2
  obtain ⟨er, rv, nx⟩ := r
  have hz5 : w.heap.size + 1 + 1 < w3.heap.size := by omega
  go_wp2_with fail
  go_region
  go_wp2_with fail
  refine bodyPost_ret (v := .tuple #[.slice (some ⟨g, 0, none⟩) (N + 9) cp, .agg #[.int .i64 er, .int .u64 rv], .int .i64 0]) (by simp [results, Tryd.results23, go_sem, r0, r1, q0, q1, hz5]) rfl ⟨g, cp, rfl, HG.out.2.2.1, hcp2, ?_, ?_⟩
  · have h0 : RowF w3 w.heap.size g (N + 9) nx := ⟨by have := HG.out.1; omega, H3.out.2⟩
    have hgne : w.heap.size + 1 + 1 ≠ g := by have := HG.out.1; omega
    exact RowF.drew (RowF.alloc (RowF.other (RowF.other h0 _ hgne) _ hgne) _)
  · have s1 : w.heap.size ≤ w.heap.size + 1 + 1 := by omega
    exact (((HB3.out.setCell (by exact s1) _).setCell (by exact s1) _).alloc (by simp [World.setCell]; omega) _).drew
end Go.Proofs.YtpjohbnnjhkjoaaDoor
