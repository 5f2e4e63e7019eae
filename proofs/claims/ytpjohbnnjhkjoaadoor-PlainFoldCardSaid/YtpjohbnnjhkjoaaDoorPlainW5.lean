/- The walks of plain.register, and of plain.Apply at a register. -/
import Derived.Test.YtpjohbnnjhkjoaaDoorPlainW1
import Derived.Test.YtpjohbnnjhkjoaaDoorPlainW4
namespace Go.Proofs.YtpjohbnnjhkjoaaDoor
open Go.RowKit
set_option linter.unusedVariables false
set_option linter.unusedSimpArgs false

/-- What a register's call tells (error, value), and what it leaves. -/
def regDo (c x v : Int) : Int × Int × Int := if c = 1 then (0, x, x) else if c = 2 then (0, x, iCanon v) else if c = 3 then (0, iTop x v, iTop x v) else if c = 4 then (0, iSum x v, iSum x v) else (10, 0, x)
def RegPost (w : World) (B g : Nat) (r : Int × Int × Int) (e : Ending) (w' : World) : Prop :=
  e = .returned (.agg #[.int .i64 r.1, .int .u64 r.2.1]) ∧ RowF w' B g 1 (fun _ => r.2.2) ∧ Below B w w'
abbrev opV (c k v : Int) : Value := .agg #[.int .i64 c, .int .u64 k, .int .u64 v]
theorem RowF.alloc {w : World} {B g n : Nat} {f : Nat → Int} (h : RowF w B g n f) (o : Obj) : RowF (w.alloc o) B g n f := h.below (Below.one w o) h.2.1
theorem RowF.drewN {w : World} {B g n : Nat} {f : Nat → Int} (h : RowF w B g n f) (q : Nat) : RowF (w.drewN q) B g n f := h
theorem RowF.other {w : World} {B g n : Nat} {f : Nat → Int} (h : RowF w B g n f) {p : Addr} (v : Value) (hp : p.block ≠ g) : RowF (w.setCell p v) B g n f :=
  ⟨h.1, by simpa [World.setCell] using h.2.1, fun i hi => ⟨(cell_set_other (by intro q; rw [q] at hp; exact hp rfl)).trans (h.2.2 i hi).1, by rw [World.frozen?_setCell]; exact (h.2.2 i hi).2⟩⟩
theorem Below.drewN' {B : Nat} {a w : World} (h : Below B a w) (q : Nat) : Below B a (w.drewN q) := below_drewN h q
theorem RowF.one {w : World} {B g : Nat} {x : Int} (h : RowF w B g 1 (fun _ => x)) : w.cell? ⟨g, 0, none⟩ = some (.int .u64 x) ∧ w.frozen? ⟨g, 0, none⟩ = false := h.2.2 0 (by omega)
theorem RowF.set1 {w : World} {B g : Nat} {x : Int} (h : RowF w B g 1 (fun _ => x)) (y : Int) : RowF (w.setCell ⟨g, 0, none⟩ (.int .u64 y)) B g 1 (fun _ => y) :=
  h.set (j := 0) y (by omega) (fun i hi => by rw [if_pos (by omega)])

set_option maxRecDepth 10000 in
set_option maxHeartbeats 1000000 in
theorem register_read (key v x : Int) (B g cap : Nat) (w : World) (hv : U64 v) (hx : U64 x) (h : RowF w B g 1 (fun _ => x)) (hB : B ≤ w.heap.size) :
    Calls Tryd.prog 47 #[.slice (some ⟨g, 0, none⟩) 1 cap, opV 1 key v] w (RegPost w B g (0, x, x)) := by
  have hg := h.2.1
  have HR : Hid (RowF w B g 1 (fun _ => x)) := h
  have c0 := h.one.1
  clear h
  go_enter Tryd.func47, Tryd.ntmps47
  go_wp2_with fail
  refine (taken_any 1 _ _ _ (Or.inr (Or.inr (Or.inr ⟨⟨by decide, by decide, by decide⟩, rfl, rfl⟩)))).mono ?_
  rintro e w1 ⟨rfl, hb1⟩
  obtain ⟨hc, hfz⟩ := bcell hb1
  have hz : w.heap.size + 1 < w1.heap.size := by have := hb1.size; simp at this; omega
  have HB1 : Hid (Below w.heap.size w w1) := ((((Below.refl _ _).alloc (Nat.le_refl _) _).alloc (by simp) _).trans (hb1.mono (by simp; omega)) : Below w.heap.size w w1)
  have o0 : w1.cell? ⟨w.heap.size, 0, none⟩ = some (.int .i64 1) := by rw [hc _ _ (by simp; omega)]; exact cell_new2 _ _ _ _ _ _ rfl
  have o2 : w1.cell? ⟨w.heap.size, 2, none⟩ = some (.int .u64 v) := by rw [hc _ _ (by simp; omega)]; exact cell_new2 _ _ _ _ _ _ rfl
  have r0 : w1.cell? ⟨w.heap.size + 1, 0, none⟩ = some (.int .i64 0) := by rw [hc _ _ (by simp)]; exact cell_newS _ _ _ _ _ _ rfl
  have r1 : w1.cell? ⟨w.heap.size + 1, 1, none⟩ = some (.int .u64 0) := by rw [hc _ _ (by simp)]; exact cell_newS _ _ _ _ _ _ rfl
  have q0 : w1.frozen? ⟨w.heap.size + 1, 0, none⟩ = false := by rw [hfz _ _ (by simp)]; exact frozen_newS _ _ _ _ _
  have q1 : w1.frozen? ⟨w.heap.size + 1, 1, none⟩ = false := by rw [hfz _ _ (by simp)]; exact frozen_newS _ _ _ _ _
  clear hb1 hc hfz
  have HR1 : Hid (RowF w1 B g 1 (fun _ => x)) := HR.out.below HB1.out hg
  have hz0 : w.heap.size < w1.heap.size := by omega
  have hgz : g < w1.heap.size := by omega
  have hne1 : ¬ g = w.heap.size := by omega
  have hne2 : ¬ g = w.heap.size + 1 := by omega
  have hne3 : ¬ w.heap.size = g := by omega
  have hne4 : ¬ w.heap.size + 1 = g := by omega
  have c1 := HR1.out.one.1
  clear c0
  have f1 := HR1.out.one.2
  go_wp2_with fail
  refine bodyPost_ret (v := .agg #[.int .i64 0, .int .u64 x]) (by simp [results, Tryd.results47, go_sem, r0, r1, q0, q1, c1, f1, hz, hz0, hgz, hne1, hne2, hne3, hne4]) rfl ⟨rfl, ?_, ?_⟩
  · repeat (first | exact HR1.out | refine RowF.alloc ?_ _ | refine RowF.drewN ?_ _ | refine RowF.other ?_ _ (by show _ ≠ _; omega) | exact RowF.set1 HR1.out _ | exact RowF.set1 (RowF.drewN (RowF.alloc HR1.out _) _) _ | refine RowF.set1 ?_ _)
  · have hBg := HR.out.1
    have hB1 := HB1.out.mono hB
    have hs1 : B ≤ w1.heap.size := by omega
    have hs2 : B ≤ w.heap.size + 1 := by omega
    repeat (first | exact hB1 | refine Below.alloc ?_ (by first | exact hs1 | (simp; omega)) _ | refine Below.drewN' ?_ _ | refine Below.setCell ?_ (by first | exact hBg | exact hs2) _)

set_option maxRecDepth 10000 in
set_option maxHeartbeats 1000000 in
theorem register_write (key v x : Int) (B g cap : Nat) (w : World) (hv : U64 v) (hx : U64 x) (h : RowF w B g 1 (fun _ => x)) (hB : B ≤ w.heap.size) :
    Calls Tryd.prog 47 #[.slice (some ⟨g, 0, none⟩) 1 cap, opV 2 key v] w (RegPost w B g (0, x, (iCanon v))) := by
  have hg := h.2.1
  have HR : Hid (RowF w B g 1 (fun _ => x)) := h
  have c0 := h.one.1
  clear h
  go_enter Tryd.func47, Tryd.ntmps47
  go_wp2_with fail
  refine (taken_any 2 _ _ _ (Or.inl ⟨rfl, rfl, rfl⟩)).mono ?_
  rintro e w1 ⟨rfl, hb1⟩
  obtain ⟨hc, hfz⟩ := bcell hb1
  have hz : w.heap.size + 1 < w1.heap.size := by have := hb1.size; simp at this; omega
  have HB1 : Hid (Below w.heap.size w w1) := ((((Below.refl _ _).alloc (Nat.le_refl _) _).alloc (by simp) _).trans (hb1.mono (by simp; omega)) : Below w.heap.size w w1)
  have o0 : w1.cell? ⟨w.heap.size, 0, none⟩ = some (.int .i64 2) := by rw [hc _ _ (by simp; omega)]; exact cell_new2 _ _ _ _ _ _ rfl
  have o2 : w1.cell? ⟨w.heap.size, 2, none⟩ = some (.int .u64 v) := by rw [hc _ _ (by simp; omega)]; exact cell_new2 _ _ _ _ _ _ rfl
  have r0 : w1.cell? ⟨w.heap.size + 1, 0, none⟩ = some (.int .i64 0) := by rw [hc _ _ (by simp)]; exact cell_newS _ _ _ _ _ _ rfl
  have r1 : w1.cell? ⟨w.heap.size + 1, 1, none⟩ = some (.int .u64 0) := by rw [hc _ _ (by simp)]; exact cell_newS _ _ _ _ _ _ rfl
  have q0 : w1.frozen? ⟨w.heap.size + 1, 0, none⟩ = false := by rw [hfz _ _ (by simp)]; exact frozen_newS _ _ _ _ _
  have q1 : w1.frozen? ⟨w.heap.size + 1, 1, none⟩ = false := by rw [hfz _ _ (by simp)]; exact frozen_newS _ _ _ _ _
  clear hb1 hc hfz
  have HR1 : Hid (RowF w1 B g 1 (fun _ => x)) := HR.out.below HB1.out hg
  have hz0 : w.heap.size < w1.heap.size := by omega
  have hgz : g < w1.heap.size := by omega
  have hne1 : ¬ g = w.heap.size := by omega
  have hne2 : ¬ g = w.heap.size + 1 := by omega
  have hne3 : ¬ w.heap.size = g := by omega
  have hne4 : ¬ w.heap.size + 1 = g := by omega
  have c1 := HR1.out.one.1
  clear c0
  have f1 := HR1.out.one.2
  go_wp2_with (first | (go_at_call 26; refine (canon_any _ (by assumption) _).mono ?_; rintro e w' ⟨rfl, rfl⟩) | (go_at_call 53; refine (max_any _ _ (by assumption) (by assumption) _).mono ?_; rintro e w' ⟨rfl, rfl⟩) | (go_at_call 54; refine (sum_any _ _ (by assumption) (by assumption) _).mono ?_; rintro e w' ⟨rfl, n, rfl⟩) | (go_at_call 52; refine (taken1_any _ _ (by assumption) _).mono ?_; rintro e w' ⟨rfl, rfl⟩))
  refine bodyPost_ret (v := .agg #[.int .i64 0, .int .u64 x]) (by simp [results, Tryd.results47, go_sem, r0, r1, q0, q1, c1, f1, hz, hz0, hgz, hne1, hne2, hne3, hne4]) rfl ⟨rfl, ?_, ?_⟩
  · repeat (first | exact HR1.out | refine RowF.alloc ?_ _ | refine RowF.drewN ?_ _ | refine RowF.other ?_ _ (by show _ ≠ _; omega) | exact RowF.set1 HR1.out _ | exact RowF.set1 (RowF.drewN (RowF.alloc HR1.out _) _) _ | refine RowF.set1 ?_ _)
  · have hBg := HR.out.1
    have hB1 := HB1.out.mono hB
    have hs1 : B ≤ w1.heap.size := by omega
    have hs2 : B ≤ w.heap.size + 1 := by omega
    repeat (first | exact hB1 | refine Below.alloc ?_ (by first | exact hs1 | (simp; omega)) _ | refine Below.drewN' ?_ _ | refine Below.setCell ?_ (by first | exact hBg | exact hs2) _)

set_option maxRecDepth 10000 in
set_option maxHeartbeats 1000000 in
theorem register_max (key v x : Int) (B g cap : Nat) (w : World) (hv : U64 v) (hx : U64 x) (h : RowF w B g 1 (fun _ => x)) (hB : B ≤ w.heap.size) :
    Calls Tryd.prog 47 #[.slice (some ⟨g, 0, none⟩) 1 cap, opV 3 key v] w (RegPost w B g (0, (iTop x v), (iTop x v))) := by
  have hg := h.2.1
  have HR : Hid (RowF w B g 1 (fun _ => x)) := h
  have c0 := h.one.1
  clear h
  go_enter Tryd.func47, Tryd.ntmps47
  go_wp2_with fail
  refine (taken_any 3 _ _ _ (Or.inr (Or.inl ⟨rfl, rfl, rfl⟩))).mono ?_
  rintro e w1 ⟨rfl, hb1⟩
  obtain ⟨hc, hfz⟩ := bcell hb1
  have hz : w.heap.size + 1 < w1.heap.size := by have := hb1.size; simp at this; omega
  have HB1 : Hid (Below w.heap.size w w1) := ((((Below.refl _ _).alloc (Nat.le_refl _) _).alloc (by simp) _).trans (hb1.mono (by simp; omega)) : Below w.heap.size w w1)
  have o0 : w1.cell? ⟨w.heap.size, 0, none⟩ = some (.int .i64 3) := by rw [hc _ _ (by simp; omega)]; exact cell_new2 _ _ _ _ _ _ rfl
  have o2 : w1.cell? ⟨w.heap.size, 2, none⟩ = some (.int .u64 v) := by rw [hc _ _ (by simp; omega)]; exact cell_new2 _ _ _ _ _ _ rfl
  have r0 : w1.cell? ⟨w.heap.size + 1, 0, none⟩ = some (.int .i64 0) := by rw [hc _ _ (by simp)]; exact cell_newS _ _ _ _ _ _ rfl
  have r1 : w1.cell? ⟨w.heap.size + 1, 1, none⟩ = some (.int .u64 0) := by rw [hc _ _ (by simp)]; exact cell_newS _ _ _ _ _ _ rfl
  have q0 : w1.frozen? ⟨w.heap.size + 1, 0, none⟩ = false := by rw [hfz _ _ (by simp)]; exact frozen_newS _ _ _ _ _
  have q1 : w1.frozen? ⟨w.heap.size + 1, 1, none⟩ = false := by rw [hfz _ _ (by simp)]; exact frozen_newS _ _ _ _ _
  clear hb1 hc hfz
  have HR1 : Hid (RowF w1 B g 1 (fun _ => x)) := HR.out.below HB1.out hg
  have hz0 : w.heap.size < w1.heap.size := by omega
  have hgz : g < w1.heap.size := by omega
  have hne1 : ¬ g = w.heap.size := by omega
  have hne2 : ¬ g = w.heap.size + 1 := by omega
  have hne3 : ¬ w.heap.size = g := by omega
  have hne4 : ¬ w.heap.size + 1 = g := by omega
  have c1 := HR1.out.one.1
  clear c0
  have f1 := HR1.out.one.2
  go_wp2_with (first | (go_at_call 26; refine (canon_any _ (by assumption) _).mono ?_; rintro e w' ⟨rfl, rfl⟩) | (go_at_call 53; refine (max_any _ _ (by assumption) (by assumption) _).mono ?_; rintro e w' ⟨rfl, rfl⟩) | (go_at_call 54; refine (sum_any _ _ (by assumption) (by assumption) _).mono ?_; rintro e w' ⟨rfl, n, rfl⟩) | (go_at_call 52; refine (taken1_any _ _ (by assumption) _).mono ?_; rintro e w' ⟨rfl, rfl⟩))
  refine bodyPost_ret (v := .agg #[.int .i64 0, .int .u64 (iTop x v)]) (by simp [results, Tryd.results47, go_sem, r0, r1, q0, q1, c1, f1, hz, hz0, hgz, hne1, hne2, hne3, hne4]) rfl ⟨rfl, ?_, ?_⟩
  · repeat (first | exact HR1.out | refine RowF.alloc ?_ _ | refine RowF.drewN ?_ _ | refine RowF.other ?_ _ (by show _ ≠ _; omega) | exact RowF.set1 HR1.out _ | exact RowF.set1 (RowF.drewN (RowF.alloc HR1.out _) _) _ | refine RowF.set1 ?_ _)
  · have hBg := HR.out.1
    have hB1 := HB1.out.mono hB
    have hs1 : B ≤ w1.heap.size := by omega
    have hs2 : B ≤ w.heap.size + 1 := by omega
    repeat (first | exact hB1 | refine Below.alloc ?_ (by first | exact hs1 | (simp; omega)) _ | refine Below.drewN' ?_ _ | refine Below.setCell ?_ (by first | exact hBg | exact hs2) _)

set_option maxRecDepth 10000 in
set_option maxHeartbeats 1000000 in
theorem register_sum (key v x : Int) (B g cap : Nat) (w : World) (hv : U64 v) (hx : U64 x) (h : RowF w B g 1 (fun _ => x)) (hB : B ≤ w.heap.size) :
    Calls Tryd.prog 47 #[.slice (some ⟨g, 0, none⟩) 1 cap, opV 4 key v] w (RegPost w B g (0, (iSum x v), (iSum x v))) := by
  have hg := h.2.1
  have HR : Hid (RowF w B g 1 (fun _ => x)) := h
  have c0 := h.one.1
  clear h
  go_enter Tryd.func47, Tryd.ntmps47
  go_wp2_with fail
  refine (taken_any 4 _ _ _ (Or.inr (Or.inr (Or.inl ⟨rfl, rfl, rfl⟩)))).mono ?_
  rintro e w1 ⟨rfl, hb1⟩
  obtain ⟨hc, hfz⟩ := bcell hb1
  have hz : w.heap.size + 1 < w1.heap.size := by have := hb1.size; simp at this; omega
  have HB1 : Hid (Below w.heap.size w w1) := ((((Below.refl _ _).alloc (Nat.le_refl _) _).alloc (by simp) _).trans (hb1.mono (by simp; omega)) : Below w.heap.size w w1)
  have o0 : w1.cell? ⟨w.heap.size, 0, none⟩ = some (.int .i64 4) := by rw [hc _ _ (by simp; omega)]; exact cell_new2 _ _ _ _ _ _ rfl
  have o2 : w1.cell? ⟨w.heap.size, 2, none⟩ = some (.int .u64 v) := by rw [hc _ _ (by simp; omega)]; exact cell_new2 _ _ _ _ _ _ rfl
  have r0 : w1.cell? ⟨w.heap.size + 1, 0, none⟩ = some (.int .i64 0) := by rw [hc _ _ (by simp)]; exact cell_newS _ _ _ _ _ _ rfl
  have r1 : w1.cell? ⟨w.heap.size + 1, 1, none⟩ = some (.int .u64 0) := by rw [hc _ _ (by simp)]; exact cell_newS _ _ _ _ _ _ rfl
  have q0 : w1.frozen? ⟨w.heap.size + 1, 0, none⟩ = false := by rw [hfz _ _ (by simp)]; exact frozen_newS _ _ _ _ _
  have q1 : w1.frozen? ⟨w.heap.size + 1, 1, none⟩ = false := by rw [hfz _ _ (by simp)]; exact frozen_newS _ _ _ _ _
  clear hb1 hc hfz
  have HR1 : Hid (RowF w1 B g 1 (fun _ => x)) := HR.out.below HB1.out hg
  have hz0 : w.heap.size < w1.heap.size := by omega
  have hgz : g < w1.heap.size := by omega
  have hne1 : ¬ g = w.heap.size := by omega
  have hne2 : ¬ g = w.heap.size + 1 := by omega
  have hne3 : ¬ w.heap.size = g := by omega
  have hne4 : ¬ w.heap.size + 1 = g := by omega
  have c1 := HR1.out.one.1
  clear c0
  have f1 := HR1.out.one.2
  go_wp2_with (first | (go_at_call 26; refine (canon_any _ (by assumption) _).mono ?_; rintro e w' ⟨rfl, rfl⟩) | (go_at_call 53; refine (max_any _ _ (by assumption) (by assumption) _).mono ?_; rintro e w' ⟨rfl, rfl⟩) | (go_at_call 54; refine (sum_any _ _ (by assumption) (by assumption) _).mono ?_; rintro e w' ⟨rfl, n, rfl⟩) | (go_at_call 52; refine (taken1_any _ _ (by assumption) _).mono ?_; rintro e w' ⟨rfl, rfl⟩))
  refine bodyPost_ret (v := .agg #[.int .i64 0, .int .u64 (iSum x v)]) (by simp [results, Tryd.results47, go_sem, r0, r1, q0, q1, c1, f1, hz, hz0, hgz, hne1, hne2, hne3, hne4]) rfl ⟨rfl, ?_, ?_⟩
  · repeat (first | exact HR1.out | refine RowF.alloc ?_ _ | refine RowF.drewN ?_ _ | refine RowF.other ?_ _ (by show _ ≠ _; omega) | exact RowF.set1 HR1.out _ | exact RowF.set1 (RowF.drewN (RowF.alloc HR1.out _) _) _ | refine RowF.set1 ?_ _)
  · have hBg := HR.out.1
    have hB1 := HB1.out.mono hB
    have hs1 : B ≤ w1.heap.size := by omega
    have hs2 : B ≤ w.heap.size + 1 := by omega
    repeat (first | exact hB1 | refine Below.alloc ?_ (by first | exact hs1 | (simp; omega)) _ | refine Below.drewN' ?_ _ | refine Below.setCell ?_ (by first | exact hBg | exact hs2) _)

set_option maxRecDepth 10000 in
set_option maxHeartbeats 1000000 in
theorem register_bad (c : Int) (h1 : c ≠ 1) (h2 : c ≠ 2) (h3 : c ≠ 3) (h4 : c ≠ 4) (key v x : Int) (B g cap : Nat) (w : World) (hv : U64 v) (hx : U64 x) (h : RowF w B g 1 (fun _ => x)) (hB : B ≤ w.heap.size) :
    Calls Tryd.prog 47 #[.slice (some ⟨g, 0, none⟩) 1 cap, opV c key v] w (RegPost w B g (10, 0, x)) := by
  have hg := h.2.1
  have HR : Hid (RowF w B g 1 (fun _ => x)) := h
  have c0 := h.one.1
  clear h
  have g1 := bnot h1
  go_enter Tryd.func47, Tryd.ntmps47
  go_wp2_with fail
  refine (taken_any c _ _ _ (Or.inr (Or.inr (Or.inr ⟨⟨h2, h3, h4⟩, rfl, rfl⟩)))).mono ?_
  rintro e w1 ⟨rfl, hb1⟩
  obtain ⟨hc, hfz⟩ := bcell hb1
  have hz : w.heap.size + 1 < w1.heap.size := by have := hb1.size; simp at this; omega
  have HB1 : Hid (Below w.heap.size w w1) := ((((Below.refl _ _).alloc (Nat.le_refl _) _).alloc (by simp) _).trans (hb1.mono (by simp; omega)) : Below w.heap.size w w1)
  have o0 : w1.cell? ⟨w.heap.size, 0, none⟩ = some (.int .i64 c) := by rw [hc _ _ (by simp; omega)]; exact cell_new2 _ _ _ _ _ _ rfl
  have o2 : w1.cell? ⟨w.heap.size, 2, none⟩ = some (.int .u64 v) := by rw [hc _ _ (by simp; omega)]; exact cell_new2 _ _ _ _ _ _ rfl
  have r0 : w1.cell? ⟨w.heap.size + 1, 0, none⟩ = some (.int .i64 0) := by rw [hc _ _ (by simp)]; exact cell_newS _ _ _ _ _ _ rfl
  have r1 : w1.cell? ⟨w.heap.size + 1, 1, none⟩ = some (.int .u64 0) := by rw [hc _ _ (by simp)]; exact cell_newS _ _ _ _ _ _ rfl
  have q0 : w1.frozen? ⟨w.heap.size + 1, 0, none⟩ = false := by rw [hfz _ _ (by simp)]; exact frozen_newS _ _ _ _ _
  have q1 : w1.frozen? ⟨w.heap.size + 1, 1, none⟩ = false := by rw [hfz _ _ (by simp)]; exact frozen_newS _ _ _ _ _
  clear hb1 hc hfz
  have HR1 : Hid (RowF w1 B g 1 (fun _ => x)) := HR.out.below HB1.out hg
  have hz0 : w.heap.size < w1.heap.size := by omega
  have hgz : g < w1.heap.size := by omega
  have hne1 : ¬ g = w.heap.size := by omega
  have hne2 : ¬ g = w.heap.size + 1 := by omega
  have hne3 : ¬ w.heap.size = g := by omega
  have hne4 : ¬ w.heap.size + 1 = g := by omega
  have c1 := HR1.out.one.1
  clear c0
  have f1 := HR1.out.one.2
  go_wp2_with fail
  refine bodyPost_ret (v := .agg #[.int .i64 10, .int .u64 0]) (by simp [results, Tryd.results47, go_sem, r0, r1, q0, q1, c1, f1, hz, hz0, hgz, hne1, hne2, hne3, hne4]) rfl ⟨rfl, ?_, ?_⟩
  · repeat (first | exact HR1.out | refine RowF.alloc ?_ _ | refine RowF.drewN ?_ _ | refine RowF.other ?_ _ (by show _ ≠ _; omega) | exact RowF.set1 HR1.out _ | exact RowF.set1 (RowF.drewN (RowF.alloc HR1.out _) _) _ | refine RowF.set1 ?_ _)
  · have hBg := HR.out.1
    have hB1 := HB1.out.mono hB
    have hs1 : B ≤ w1.heap.size := by omega
    have hs2 : B ≤ w.heap.size + 1 := by omega
    repeat (first | exact hB1 | refine Below.alloc ?_ (by first | exact hs1 | (simp; omega)) _ | refine Below.drewN' ?_ _ | refine Below.setCell ?_ (by first | exact hBg | exact hs2) _)
end Go.Proofs.YtpjohbnnjhkjoaaDoor
