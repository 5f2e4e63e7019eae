/- The walk of plain.ballot. -/
import Derived.Test.YtpjohbnnjhkjoaaDoorPlainW6
import Derived.ScopeJumps
namespace Go.Proofs.YtpjohbnnjhkjoaaDoor
open Go.RowKit
set_option linter.unusedVariables false
set_option linter.unusedSimpArgs false

def put (f : Nat → Int) (j : Nat) (x : Int) : Nat → Int := fun i => if i = j then x else f i
theorem RowF.put {w : World} {B g n : Nat} {f : Nat → Int} (h : RowF w B g n f) {j : Nat} (x : Int) (hj : j < n) : RowF (w.setCell ⟨g, j, none⟩ (.int .u64 x)) B g n (put f j x) := h.set x hj (fun _ _ => rfl)
def choiceB (v : Int) : Bool := decide (1 ≤ v ∧ v ≤ 8)
theorem choice_any (v : Int) (w : World) : Calls Tryd.prog 70 #[.int .u64 v] w fun e w' => e = .returned (.bool (choiceB v)) ∧ w = w' := by
  go_enter Tryd.func70, Tryd.ntmps70
  go_wp2_with fail
  · go_ret; refine ⟨ret_bool ?_, rfl⟩; unfold choiceB; rw [decide_eq_decide]; omega
  · go_ret; refine ⟨ret_bool ?_, rfl⟩; unfold choiceB; rw [eq_comm, decide_eq_false_iff_not]; omega

/-- What a ballot's call tells (error, value), and what it leaves. -/
def balDo (n : Nat) (f : Nat → Int) (c key v : Int) : Int × Int × (Nat → Int) :=
  if c = 12 then (if key < (n : Int) ∧ choiceB v = true then (if f 0 = 1 then (14, 0, f) else if f (1 + key.toNat) = 0 then (0, 0, put (put f (1 + key.toNat) v) (n + v.toNat) (f (n + v.toNat) + 1)) else (13, 0, f)) else (10, 0, f))
  else if c = 13 then (0, 1 - f 0, put f 0 1)
  else if c = 14 then (if choiceB key = true then (0, f (n + key.toNat), f) else (10, 0, f))
  else if c = 15 then (if key < (n : Int) then (0, f (1 + key.toNat), f) else (10, 0, f))
  else if c = 16 then (0, f 0, f)
  else (10, 0, f)
def BalPost (w : World) (B g n : Nat) (r : Int × Int × (Nat → Int)) (e : Ending) (w' : World) : Prop :=
  e = .returned (.agg #[.int .i64 r.1, .int .u64 r.2.1]) ∧ RowF w' B g (n + 9) r.2.2 ∧ Below B w w'
/-- What a ballot's words are within. -/
def BalIn (n : Nat) (f : Nat → Int) : Prop := (∀ i, i < n + 9 → 0 ≤ f i ∧ f i ≤ 256) ∧ f 0 ≤ 1

set_option maxRecDepth 10000 in
set_option maxHeartbeats 2000000 in
theorem ballot_close (k p key v : Int) (N B g cap : Nat) (f : Nat → Int) (w : World) (hN : 1 ≤ (N : Int)) (hN2 : (N : Int) ≤ 256) (hk : U64 key) (hv : U64 v) (hf : BalIn N f) (h : RowF w B g (N + 9) f) (hB : B ≤ w.heap.size) (hcap : (N : Int) + 9 ≤ cap) (hc2 : (cap : Int) ≤ 9223372036854775807) :
    Calls Tryd.prog 48 #[conf k p N, .slice (some ⟨g, 0, none⟩) (N + 9) cap, opV 13 key v] w (BalPost w B g N (0, 1 - f 0, put f 0 1)) := by
  have hg := h.2.1
  have HR : Hid (RowF w B g (N + 9) f) := h
  have HF : Hid (BalIn N f) := hf
  obtain ⟨key0, key1⟩ := hk
  obtain ⟨v0, v1⟩ := hv
  clear h hf
  go_enter Tryd.func48, Tryd.ntmps48
  go_wp2_with fail
  go_step3
  go_wp2_with fail
  refine (parts_any k p N g 0 cap hN hN2 hcap hc2 _).mono ?_
  rintro e w' ⟨rfl, q, rfl⟩
  obtain ⟨W, hW⟩ : ∃ W, W = ((((w.alloc (.cells #[.int .i64 k, .int .i64 p, .int .i64 N] 23)).alloc (.cells #[.int .i64 13, .int .u64 key, .int .u64 v] 30)).alloc (.cells #[.int .i64 0, .int .u64 0] 55)).alloc (.cells #[.int .i64 k, .int .i64 p, .int .i64 N] 23)).drewN q := ⟨_, rfl⟩
  have hBW : Below w.heap.size w W := by rw [hW]; exact Below.drewN' (allocs_below [(.cells #[.int .i64 k, .int .i64 p, .int .i64 N] 23), (.cells #[.int .i64 13, .int .u64 key, .int .u64 v] 30), (.cells #[.int .i64 0, .int .u64 0] 55), (.cells #[.int .i64 k, .int .i64 p, .int .i64 N] 23)] w) q
  have hsz : W.heap.size = w.heap.size + 4 := by rw [hW]; exact allocs_size [(.cells #[.int .i64 k, .int .i64 p, .int .i64 N] 23), (.cells #[.int .i64 13, .int .u64 key, .int .u64 v] 30), (.cells #[.int .i64 0, .int .u64 0] 55), (.cells #[.int .i64 k, .int .i64 p, .int .i64 N] 23)] w
  have o0 : W.cell? ⟨w.heap.size + 1, 0, none⟩ = some (.int .i64 13) := by rw [hW]; exact allocs_cell (os := [(.cells #[.int .i64 k, .int .i64 p, .int .i64 N] 23), (.cells #[.int .i64 13, .int .u64 key, .int .u64 v] 30), (.cells #[.int .i64 0, .int .u64 0] 55), (.cells #[.int .i64 k, .int .i64 p, .int .i64 N] 23)]) (i := 1) rfl rfl
  have o1 : W.cell? ⟨w.heap.size + 1, 1, none⟩ = some (.int .u64 key) := by rw [hW]; exact allocs_cell (os := [(.cells #[.int .i64 k, .int .i64 p, .int .i64 N] 23), (.cells #[.int .i64 13, .int .u64 key, .int .u64 v] 30), (.cells #[.int .i64 0, .int .u64 0] 55), (.cells #[.int .i64 k, .int .i64 p, .int .i64 N] 23)]) (i := 1) rfl rfl
  have o2 : W.cell? ⟨w.heap.size + 1, 2, none⟩ = some (.int .u64 v) := by rw [hW]; exact allocs_cell (os := [(.cells #[.int .i64 k, .int .i64 p, .int .i64 N] 23), (.cells #[.int .i64 13, .int .u64 key, .int .u64 v] 30), (.cells #[.int .i64 0, .int .u64 0] 55), (.cells #[.int .i64 k, .int .i64 p, .int .i64 N] 23)]) (i := 1) rfl rfl
  have r0 : W.cell? ⟨w.heap.size + 1 + 1, 0, none⟩ = some (.int .i64 0) := by rw [hW]; exact allocs_cell (os := [(.cells #[.int .i64 k, .int .i64 p, .int .i64 N] 23), (.cells #[.int .i64 13, .int .u64 key, .int .u64 v] 30), (.cells #[.int .i64 0, .int .u64 0] 55), (.cells #[.int .i64 k, .int .i64 p, .int .i64 N] 23)]) (i := 2) rfl rfl
  have r1 : W.cell? ⟨w.heap.size + 1 + 1, 1, none⟩ = some (.int .u64 0) := by rw [hW]; exact allocs_cell (os := [(.cells #[.int .i64 k, .int .i64 p, .int .i64 N] 23), (.cells #[.int .i64 13, .int .u64 key, .int .u64 v] 30), (.cells #[.int .i64 0, .int .u64 0] 55), (.cells #[.int .i64 k, .int .i64 p, .int .i64 N] 23)]) (i := 2) rfl rfl
  have q0 : W.frozen? ⟨w.heap.size + 1 + 1, 0, none⟩ = false := by rw [hW]; exact allocs_frozen (os := [(.cells #[.int .i64 k, .int .i64 p, .int .i64 N] 23), (.cells #[.int .i64 13, .int .u64 key, .int .u64 v] 30), (.cells #[.int .i64 0, .int .u64 0] 55), (.cells #[.int .i64 k, .int .i64 p, .int .i64 N] 23)]) (i := 2) rfl
  have q1 : W.frozen? ⟨w.heap.size + 1 + 1, 1, none⟩ = false := by rw [hW]; exact allocs_frozen (os := [(.cells #[.int .i64 k, .int .i64 p, .int .i64 N] 23), (.cells #[.int .i64 13, .int .u64 key, .int .u64 v] 30), (.cells #[.int .i64 0, .int .u64 0] 55), (.cells #[.int .i64 k, .int .i64 p, .int .i64 N] 23)]) (i := 2) rfl
  rw [← hW]
  clear hW
  have HBW : Hid (Below w.heap.size w W) := hBW
  have HRW : Hid (RowF W B g (N + 9) f) := HR.out.below hBW hg
  have hz1 : w.heap.size + 1 < W.heap.size := by omega
  have hz2 : w.heap.size + 1 + 1 < W.heap.size := by omega
  have hgz : g < W.heap.size := by omega
  have hne1 : ¬ g = w.heap.size + 1 := by omega
  have hne2 : ¬ g = w.heap.size + 1 + 1 := by omega
  have hne3 : ¬ w.heap.size + 1 = g := by omega
  have hne4 : ¬ w.heap.size + 1 + 1 = g := by omega
  have f0 := (HRW.out.2.2 0 (by omega)).1
  have z0 := (HRW.out.2.2 0 (by omega)).2
  have fb := HF.out.1 0 (by omega)
  have fb2 := HF.out.2
  obtain ⟨fb1, _⟩ := fb
  generalize hf0 : f 0 = x at *
  clear hBW hsz
  have hs2 : B ≤ w.heap.size + 1 + 1 := by omega
  have hgne : w.heap.size + 1 + 1 ≠ g := by omega
  have hTU : ¬ w.heap.size + 1 + 1 = w.heap.size + 1 := by omega
  have hUT : ¬ w.heap.size + 1 = w.heap.size + 1 + 1 := by omega
  generalize w.heap.size + 1 + 1 = T at *
  generalize w.heap.size + 1 = U at *
  go_wp2_with (go_at_call 70; refine (choice_any _ _).mono ?_; rintro e w' ⟨rfl, rfl⟩)
  try go_step3
  try go_wp2_with fail
  rw [Exit.noGoto_ret]
  refine bodyPost_ret (v := .agg #[.int .i64 0, .int .u64 (1 - f 0)]) (by simp (maxDischargeDepth := 9) [results, Tryd.results48, go_sem, r0, r1, q0, q1, f0, z0, hz1, hz2, hgz, hne1, hne2, hne3, hne4, hTU, hUT, hf0]) rfl ⟨rfl, ?_, ?_⟩
  · repeat (refine RowF.other ?_ _ hgne)
    exact RowF.put (RowF.other (RowF.other HRW.out _ hgne) _ hgne) 1 (by omega)
  · have hBg := HR.out.1
    have hB1 := HBW.out.mono hB
    repeat (first | exact hB1 | refine Below.setCell ?_ (by first | exact hBg | exact hs2) _)
end Go.Proofs.YtpjohbnnjhkjoaaDoor
