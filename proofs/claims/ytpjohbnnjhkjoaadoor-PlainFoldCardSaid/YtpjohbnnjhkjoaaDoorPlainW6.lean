/- The walk of plain.Apply at a register. -/
import Derived.Test.YtpjohbnnjhkjoaaDoorPlainW5
import Derived.Test.YtpjohbnnjhkjoaaDoorAlloc
namespace Go.Proofs.YtpjohbnnjhkjoaaDoor
open Go.RowKit
set_option linter.unusedVariables false
set_option linter.unusedSimpArgs false

theorem RowF.drew {w : World} {B g n : Nat} {f : Nat → Int} (h : RowF w B g n f) : RowF w.drew B g n f := h
theorem register_any (c key v x : Int) (B g cap : Nat) (w : World) (hv : U64 v) (hx : U64 x) (h : RowF w B g 1 (fun _ => x)) (hB : B ≤ w.heap.size) :
    Calls Tryd.prog 47 #[.slice (some ⟨g, 0, none⟩) 1 cap, opV c key v] w (RegPost w B g (regDo c x v)) := by
  unfold regDo
  by_cases h1 : c = 1
  · subst h1; rw [if_pos rfl]; exact register_read key v x B g cap w hv hx h hB
  · by_cases h2 : c = 2
    · subst h2; rw [if_neg h1, if_pos rfl]; exact register_write key v x B g cap w hv hx h hB
    · by_cases h3 : c = 3
      · subst h3; rw [if_neg h1, if_neg h2, if_pos rfl]; exact register_max key v x B g cap w hv hx h hB
      · by_cases h4 : c = 4
        · subst h4; rw [if_neg h1, if_neg h2, if_neg h3, if_pos rfl]; exact register_sum key v x B g cap w hv hx h hB
        · rw [if_neg h1, if_neg h2, if_neg h3, if_neg h4]; exact register_bad c h1 h2 h3 h4 key v x B g cap w hv hx h hB

def ApplyRegPost (w : World) (r : Int × Int × Int) (e : Ending) (w' : World) : Prop :=
  ∃ g cap, e = .returned (.tuple #[.slice (some ⟨g, 0, none⟩) 1 cap, .agg #[.int .i64 r.1, .int .u64 r.2.1], .int .i64 0]) ∧ 1 ≤ cap ∧ RowF w' w.heap.size g 1 (fun _ => r.2.2) ∧ Below w.heap.size w w'
theorem home_register (p n : Int) (hf : fits 1 p n = true) : (if fits 1 p n = true then home 1 n else 0) = 1 := by
  rw [if_pos hf]; unfold home; simp

set_option maxRecDepth 10000 in
set_option maxHeartbeats 2000000 in
theorem apply_reg (p n c key v x : Int) (b off cap : Nat) (w : World) (hf : fits 1 p n = true) (ho : Objs w) (hv : U64 v) (hx : U64 x) (hcx : iCanon x = x) (hb : b < w.heap.size) (hc : w.cell? ⟨b, off, none⟩ = some (.int .u64 x)) :
    Calls Tryd.prog 23 #[conf 1 p n, .slice (some ⟨b, off, none⟩) 1 cap, opV c key v] w (ApplyRegPost w (regDo c x v)) := by
  have HO : Hid (Objs w) := ho
  have hh : Hid _ := home_register p n hf
  have HX : Hid (iCanon x = x) := hcx
  have hr : Hid (regDo c x v = regDo c x v) := rfl
  clear ho hcx
  go_enter Tryd.func23, Tryd.ntmps23
  go_wp2_with (go_at_call 36; refine (fits_any _ _ _ _).mono ?_; rintro e w' ⟨rfl, rfl⟩)
  obtain ⟨W, hW⟩ : ∃ W, W = allocs w [(.cells #[.int .i64 1, .int .i64 p, .int .i64 n] 23), (.cells #[.int .i64 c, .int .u64 key, .int .u64 v] 30), (.cells #[.int .i64 0, .int .u64 0] 55), (.cells #[.int .i64 1, .int .i64 p, .int .i64 n] 23)] := ⟨_, rfl⟩
  have hBW : Below w.heap.size w W := by rw [hW]; exact allocs_below _ _
  have hsz : W.heap.size = w.heap.size + 4 := by rw [hW, allocs_size]; rfl
  have k0 : W.cell? ⟨w.heap.size, 0, none⟩ = some (.int .i64 1) := by rw [hW]; exact allocs_cell (i := 0) rfl rfl
  have k1 : W.cell? ⟨w.heap.size, 1, none⟩ = some (.int .i64 p) := by rw [hW]; exact allocs_cell (i := 0) rfl rfl
  have k2 : W.cell? ⟨w.heap.size, 2, none⟩ = some (.int .i64 n) := by rw [hW]; exact allocs_cell (i := 0) rfl rfl
  have o0 : W.cell? ⟨w.heap.size + 1, 0, none⟩ = some (.int .i64 c) := by rw [hW]; exact allocs_cell (i := 1) rfl rfl
  have o1 : W.cell? ⟨w.heap.size + 1, 1, none⟩ = some (.int .u64 key) := by rw [hW]; exact allocs_cell (i := 1) rfl rfl
  have o2 : W.cell? ⟨w.heap.size + 1, 2, none⟩ = some (.int .u64 v) := by rw [hW]; exact allocs_cell (i := 1) rfl rfl
  have r0 : W.cell? ⟨w.heap.size + 1 + 1, 0, none⟩ = some (.int .i64 0) := by rw [hW]; exact allocs_cell (i := 2) rfl rfl
  have r1 : W.cell? ⟨w.heap.size + 1 + 1, 1, none⟩ = some (.int .u64 0) := by rw [hW]; exact allocs_cell (i := 2) rfl rfl
  have q0 : W.frozen? ⟨w.heap.size + 1 + 1, 0, none⟩ = false := by rw [hW]; exact allocs_frozen (i := 2) rfl
  have q1 : W.frozen? ⟨w.heap.size + 1 + 1, 1, none⟩ = false := by rw [hW]; exact allocs_frozen (i := 2) rfl
  have cx := (hBW.cell (p := ⟨b, off, none⟩) hb).trans hc
  change Calls _ _ _ (allocs w [(.cells #[.int .i64 1, .int .i64 p, .int .i64 n] 23), (.cells #[.int .i64 c, .int .u64 key, .int .u64 v] 30), (.cells #[.int .i64 0, .int .u64 0] 55), (.cells #[.int .i64 1, .int .i64 p, .int .i64 n] 23)]) _
  rw [← hW]
  refine (home_any 1 p n W (HO.out.below hBW HO.out.1)).mono ?_
  rintro e w1 ⟨rfl, hb1⟩
  rw [hh.out]
  clear hW
  have hz := hb1.size
  have HB1 : Hid (Below w.heap.size w w1) := hBW.trans (hb1.mono (by omega))
  have hlt0 : w.heap.size < W.heap.size := by omega
  have hlt1 : w.heap.size + 1 < W.heap.size := by omega
  have hlt2 : w.heap.size + 1 + 1 < W.heap.size := by omega
  have k0' : w1.cell? ⟨w.heap.size, 0, none⟩ = some (.int .i64 1) := (hb1.cell (p := ⟨_, 0, none⟩) hlt0).trans k0
  have k1' : w1.cell? ⟨w.heap.size, 1, none⟩ = some (.int .i64 p) := (hb1.cell (p := ⟨_, 1, none⟩) hlt0).trans k1
  have k2' : w1.cell? ⟨w.heap.size, 2, none⟩ = some (.int .i64 n) := (hb1.cell (p := ⟨_, 2, none⟩) hlt0).trans k2
  have o0' : w1.cell? ⟨w.heap.size + 1, 0, none⟩ = some (.int .i64 c) := (hb1.cell (p := ⟨_, 0, none⟩) hlt1).trans o0
  have o1' : w1.cell? ⟨w.heap.size + 1, 1, none⟩ = some (.int .u64 key) := (hb1.cell (p := ⟨_, 1, none⟩) hlt1).trans o1
  have o2' : w1.cell? ⟨w.heap.size + 1, 2, none⟩ = some (.int .u64 v) := (hb1.cell (p := ⟨_, 2, none⟩) hlt1).trans o2
  have r0' : w1.cell? ⟨w.heap.size + 1 + 1, 0, none⟩ = some (.int .i64 0) := (hb1.cell (p := ⟨_, 0, none⟩) hlt2).trans r0
  have r1' : w1.cell? ⟨w.heap.size + 1 + 1, 1, none⟩ = some (.int .u64 0) := (hb1.cell (p := ⟨_, 1, none⟩) hlt2).trans r1
  have q0' : w1.frozen? ⟨w.heap.size + 1 + 1, 0, none⟩ = false := (hb1.frozen (p := ⟨_, 0, none⟩) hlt2).trans q0
  have q1' : w1.frozen? ⟨w.heap.size + 1 + 1, 1, none⟩ = false := (hb1.frozen (p := ⟨_, 1, none⟩) hlt2).trans q1
  have cx' := (HB1.out.cell (p := ⟨b, off, none⟩) hb).trans hc
  have hb' : b < w1.heap.size := by omega
  have hz1 : w.heap.size + 3 < w1.heap.size := by omega
  clear hb1 k0 k1 k2 o0 o1 o2 r0 r1 q0 q1 cx hlt0 hlt1 hlt2 hz hsz hBW
  go_wp2_with fail
  refine (clone_any b off 1 cap [x] w1 hb' rfl (by intro i hi; have : i = 0 := by omega
                                                   subst this; exact cx') (by omega)).mono ?_
  rintro e w2 ⟨g, cp, rfl, hcp, _, hown, hb2⟩
  have hlt0 : w.heap.size < w1.heap.size := by omega
  have hlt1 : w.heap.size + 1 < w1.heap.size := by omega
  have hlt2 : w.heap.size + 1 + 1 < w1.heap.size := by omega
  have k0 : w2.cell? ⟨w.heap.size, 0, none⟩ = some (.int .i64 1) := (hb2.cell (p := ⟨_, 0, none⟩) hlt0).trans k0'
  have o0 : w2.cell? ⟨w.heap.size + 1, 0, none⟩ = some (.int .i64 c) := (hb2.cell (p := ⟨_, 0, none⟩) hlt1).trans o0'
  have o1 : w2.cell? ⟨w.heap.size + 1, 1, none⟩ = some (.int .u64 key) := (hb2.cell (p := ⟨_, 1, none⟩) hlt1).trans o1'
  have o2 : w2.cell? ⟨w.heap.size + 1, 2, none⟩ = some (.int .u64 v) := (hb2.cell (p := ⟨_, 2, none⟩) hlt1).trans o2'
  have r0 : w2.cell? ⟨w.heap.size + 1 + 1, 0, none⟩ = some (.int .i64 0) := (hb2.cell (p := ⟨_, 0, none⟩) hlt2).trans r0'
  have r1 : w2.cell? ⟨w.heap.size + 1 + 1, 1, none⟩ = some (.int .u64 0) := (hb2.cell (p := ⟨_, 1, none⟩) hlt2).trans r1'
  have q0 : w2.frozen? ⟨w.heap.size + 1 + 1, 0, none⟩ = false := (hb2.frozen (p := ⟨_, 0, none⟩) hlt2).trans q0'
  have q1 : w2.frozen? ⟨w.heap.size + 1 + 1, 1, none⟩ = false := (hb2.frozen (p := ⟨_, 1, none⟩) hlt2).trans q1'
  have cx : w2.cell? ⟨b, off, none⟩ = some (.int .u64 x) := (hb2.cell (p := ⟨b, off, none⟩) hb').trans cx'
  have HB2 : Hid (Below w.heap.size w w2) := HB1.out.trans (hb2.mono HB1.out.size)
  have HG : Hid (w.heap.size + 3 < g ∧ g < w2.heap.size ∧ 1 ≤ cp ∧ RowF w2 w.heap.size g 1 (fun _ => x)) := by
    refine ⟨Nat.lt_of_lt_of_le hz1 hown.1, hown.2.1, hcp, Nat.le_trans HB1.out.size hown.1, hown.2.1, fun i hi => ?_⟩
    have : i = 0 := by omega
    subst this
    exact ⟨hown.2.2.2.2 0 (by simp), hown.2.2.2.1 0⟩
  have hz2 := hb2.size
  clear hb2 hown k0' k1' k2' o0' o1' o2' r0' r1' q0' q1' cx' hcp hlt0 hlt1 hlt2
  have hcxb : (iCanon x != x) = false := nyes HX.out
  go_wp2_with fail
  go_quiet ((go_at_call 26; exact Calls.quiet_of_same ((canon_any x hx _).mono fun _ _ h => ⟨h.1, h.2.symm⟩)))
  go_wp2_with fail
  have hrow : RowF (w2.drewN nq) (w.heap.size + 3) g 1 (fun _ => x) := ⟨Nat.le_of_lt HG.out.1, HG.out.2.1, HG.out.2.2.2.2.2⟩
  refine (register_any c key v x (w.heap.size + 3) g cp (w2.drewN nq) hv hx hrow (by show _ ≤ w2.heap.size; omega)).mono ?_
  rintro e w3 ⟨rfl, hrow3, hb3⟩
  have hlt2 : w.heap.size + 1 + 1 < w.heap.size + 3 := by omega
  have r0' : w3.cell? ⟨w.heap.size + 1 + 1, 0, none⟩ = some (.int .i64 0) := (hb3.cell (p := ⟨_, 0, none⟩) hlt2).trans r0
  have r1' : w3.cell? ⟨w.heap.size + 1 + 1, 1, none⟩ = some (.int .u64 0) := (hb3.cell (p := ⟨_, 1, none⟩) hlt2).trans r1
  have q0' : w3.frozen? ⟨w.heap.size + 1 + 1, 0, none⟩ = false := (hb3.frozen (p := ⟨_, 0, none⟩) hlt2).trans q0
  have q1' : w3.frozen? ⟨w.heap.size + 1 + 1, 1, none⟩ = false := (hb3.frozen (p := ⟨_, 1, none⟩) hlt2).trans q1
  have HB3 : Hid (Below w.heap.size w w3) := HB2.out.trans ((quiet_below ⟨nq, rfl⟩ : Below w2.heap.size w2 (w2.drewN nq)).mono HB2.out.size |>.trans (hb3.mono (by omega)))
  have hz3 : w2.heap.size ≤ w3.heap.size := hb3.size
  have H3 : Hid (RowF w3 (w.heap.size + 3) g 1 (fun _ => (regDo c x v).2.2)) := hrow3
  clear hb3 hrow hrow3 r0 r1 q0 q1 o0 o1 o2 k0 cx hcxb hlt2
  generalize regDo c x v = r at *
  obtain ⟨er, rv, nx⟩ := r
  have hz4 : w.heap.size + 1 + 1 < w3.heap.size := by omega
  go_wp2_with fail
  go_region
  go_wp2_with fail
  refine bodyPost_ret (v := .tuple #[.slice (some ⟨g, 0, none⟩) 1 cp, .agg #[.int .i64 er, .int .u64 rv], .int .i64 0]) (by simp [results, Tryd.results23, go_sem, r0', r1', q0', q1', hz4]) rfl ⟨g, cp, rfl, HG.out.2.2.1, ?_, ?_⟩
  · have h0 : RowF w3 w.heap.size g 1 (fun _ => nx) := ⟨by have := HG.out.1; omega, H3.out.2⟩
    have hgne : w.heap.size + 1 + 1 ≠ g := by have := HG.out.1; omega
    exact RowF.drew (RowF.alloc (RowF.other (RowF.other h0 _ hgne) _ hgne) _)
  · have s1 : w.heap.size ≤ w.heap.size + 1 + 1 := by omega
    exact (((HB3.out.setCell (by exact s1) _).setCell (by exact s1) _).alloc (by simp [World.setCell]; omega) _).drew
end Go.Proofs.YtpjohbnnjhkjoaaDoor
