/- The walk of awake of law 14: first calls of package plain whose answers are fixed. -/
import Derived.Test.YtpjohbnnjhkjoaaDoorPlainW8
import Derived.Test.YtpjohbnnjhkjoaaDoorPlainW9
import Derived.Test.YtpjohbnnjhkjoaaDoorPlainW10
import Derived.Test.YtpjohbnnjhkjoaaDoorFltP
namespace Go.Proofs.YtpjohbnnjhkjoaaDoor
open Go.RowKit
set_option linter.unusedVariables false
set_option linter.unusedSimpArgs false

theorem SlI.new {k : IntKind} {w : World} {vs : Array Value} {t : TypeId} {xs : List Int} (h : vs.toList = xs.map (Value.int k)) : SlI k (w.alloc (.cells vs t)) (some ⟨w.heap.size, 0, none⟩) xs.length xs := by
  refine ⟨rfl, .inr ⟨_, 0, rfl, by simp, fun i hi => ?_⟩⟩
  rw [Nat.zero_add]
  refine cell_new _ _ _ _ _ ?_
  rw [← Array.getElem?_toList, h]
  exact getD_map_int xs i hi
theorem SlI.newS {k : IntKind} {w : World} {o : Obj} {vs : Array Value} {t : TypeId} {xs : List Int} (h : vs.toList = xs.map (Value.int k)) : SlI k ((w.alloc o).alloc (.cells vs t)) (some ⟨w.heap.size + 1, 0, none⟩) xs.length xs := by
  have := @SlI.new k (w.alloc o) vs t xs h
  rwa [show (w.alloc o).heap.size = w.heap.size + 1 by simp] at this
theorem allU_of {xs : List Int} (h : xs.all (fun a => decide (0 ≤ a ∧ a < 18446744073709551616)) = true) : AllU xs := fun x hx => u64_of (List.all_eq_true.1 h x hx)

set_option maxRecDepth 10000 in
set_option maxHeartbeats 800000 in
theorem awake_any (w : World) (ho : Objs w) : Calls Tryd.prog 8 #[] w fun e w' => e = .returned (.bool true) ∧ Below w.heap.size w w' := by
  have HO : Hid (Objs w) := ho
  have e1 : foldReg 3 [13830554455654793216, 18442240474082181120] = 0 := by decide +kernel
  have e2 : foldReg 4 [4607182418800017408, 4607182418800017408] = 4611686018427387904 := by decide +kernel
  clear ho
  go_enter Tryd.func8, Tryd.ntmps8
  go_wp2_with fail
  refine (fold_any 3 (by omega) _ 2 _ [13830554455654793216, 18442240474082181120] _ (SlI.new rfl) (allU_of (by decide +kernel)) (by omega)).mono ?_
  rintro e w1 ⟨rfl, hb1⟩
  rw [e1]
  have HB1 : Hid (Below w.heap.size w w1) := (Below.one w _).trans (hb1.mono (by simp))
  clear e1 hb1
  go_wp2_with fail
  refine (fold_any 4 (by omega) _ 2 _ [4607182418800017408, 4607182418800017408] _ (SlI.new rfl) (allU_of (by decide +kernel)) (by omega)).mono ?_
  rintro e w2 ⟨rfl, hb2⟩
  rw [e2]
  have HB2 : Hid (Below w.heap.size w w2) := HB1.out.trans (((Below.one w1 _).trans (hb2.mono (by simp))).mono HB1.out.size)
  clear e2 hb2 HB1
  go_wp2_with fail
  refine (fold_bad 1 (by omega) _ _ _ _).mono ?_
  rintro e w3 ⟨rfl, hb3⟩
  have HB3 : Hid (Below w.heap.size w w3) := HB2.out.trans (hb3.mono HB2.out.size)
  clear hb3 HB2
  go_wp2_with fail
  have HB4 : Hid (Below w.heap.size w (w3.alloc (.cells #[.int .i64 5, .int .i64 1, .int .i64 4] 23))) := HB3.out.alloc HB3.out.size _
  have hT4 : w3.heap.size < (w3.alloc (.cells #[.int .i64 5, .int .i64 1, .int .i64 4] 23)).heap.size := by simp
  clear HB3
  refine (cast_any 1 4 4 _ _ [3, 5, 5, 3] _ rfl (SlI.newS rfl) (by omega) (HO.out.below (HB4.out.trans ((Below.one (w3.alloc (.cells #[.int .i64 5, .int .i64 1, .int .i64 4] 23)) _).mono HB4.out.size)) HO.out.1)).mono ?_
  rintro e w5 ⟨hres, hb5⟩
  rcases hres with ⟨_, g, cp, rfl, hcp, hcp2, hrow⟩ | ⟨hno, rfl⟩
  case inr => exact absurd hno (by decide)
  have hb5' : Below (w3.alloc (.cells #[.int .i64 5, .int .i64 1, .int .i64 4] 23)).heap.size (w3.alloc (.cells #[.int .i64 5, .int .i64 1, .int .i64 4] 23)) w5 := (Below.one (w3.alloc (.cells #[.int .i64 5, .int .i64 1, .int .i64 4] 23)) _).trans (hb5.mono (by simp))
  have HB5 : Hid (Below w.heap.size w w5) := HB4.out.trans (hb5'.mono HB4.out.size)
  have HC5 : Hid (∀ i v, (#[Value.int .i64 5, .int .i64 1, .int .i64 4] : Array Value)[i]? = some v → (w5.cell? ⟨w3.heap.size, i, none⟩) = some v) := fun i v h => (hb5'.cell (p := ⟨w3.heap.size, i, none⟩) hT4).trans (cell_new _ _ _ _ _ h)
  have HR5 : Hid (RowF w5 w.heap.size g 13 (bwAt 4 [3, 5, 5, 3] 0)) := ⟨by have := hrow.1; have := HB4.out.size; simp at *; omega, hrow.2⟩
  have hg5 := hrow.2.1
  have hT5 : w3.heap.size < w5.heap.size := Nat.lt_of_lt_of_le hT4 hb5'.size
  have c0 := HC5.out 0 _ rfl
  have c1 := HC5.out 1 _ rfl
  have c2 := HC5.out 2 _ rfl
  generalize w3.heap.size = T at *
  clear hb5 hb5' hrow HB4 hT4
  have HX : Hid (∀ i, i < 13 → bwAt 4 [3, 5, 5, 3] 0 i = (ballotWords 4 [3, 5, 5, 3] 0).getD i 0) := fun i hi => (ballotWords_at 4 [3, 5, 5, 3] 0 i hi).symm
  have HXU : Hid (AllU (ballotWords 4 [3, 5, 5, 3] 0)) := allU_of (by decide +kernel)
  have HRI : Hid (rightB 4 (ballotWords 4 [3, 5, 5, 3] 0) = true) := by show _ = _; decide +kernel
  go_wp2_with fail
  have hwin := winner_ok 1 4 g 0 cp (ballotWords 4 [3, 5, 5, 3] 0) w5 rfl (HO.out.below HB5.out HO.out.1) hg5 rfl HXU.out (fun i hi => by rw [Nat.zero_add, ← HX.out i hi]; exact (HR5.out.2.2 i hi).1) (by omega) hcp2 HRI.out
  unfold WinPost at hwin
  rw [show bestN (tal (votesOf 4 (ballotWords 4 [3, 5, 5, 3] 0))) 9 = 3 by decide +kernel] at hwin
  refine hwin.mono ?_
  clear hwin
  rintro e w6 ⟨rfl, hb6⟩
  have HB6 : Hid (Below w.heap.size w w6) := HB5.out.trans (hb6.mono HB5.out.size)
  have HR6 : Hid (RowF w6 w.heap.size g 13 (bwAt 4 [3, 5, 5, 3] 0)) := HR5.out.below hb6 hg5
  have HC6 : Hid (∀ i v, (#[Value.int .i64 5, .int .i64 1, .int .i64 4] : Array Value)[i]? = some v → (w6.cell? ⟨T, i, none⟩) = some v) := fun i v h => (hb6.cell (p := ⟨T, i, none⟩) hT5).trans (HC5.out i v h)
  have hg6 := HR6.out.2.1
  have hT6 : T < w6.heap.size := Nat.lt_of_lt_of_le hT5 hb6.size
  clear hb6 HR5 HC5 c0 c1 c2 hg5 hT5 HB5
  have c0 := HC6.out 0 _ rfl
  have c1 := HC6.out 1 _ rfl
  have c2 := HC6.out 2 _ rfl
  go_wp2_with fail
  refine (cast_any 1 4 1 _ _ [9] _ rfl (SlI.new rfl) (by omega) (HO.out.below (HB6.out.trans ((Below.one w6 _).mono HB6.out.size)) HO.out.1)).mono ?_
  rintro e w7 ⟨hres, hb7⟩
  rcases hres with ⟨hno, _⟩ | ⟨_, rfl⟩
  · exact absurd hno (by decide)
  have hb7' : Below w6.heap.size w6 w7 := (Below.one w6 _).trans (hb7.mono (by simp))
  have HB7 : Hid (Below w.heap.size w w7) := HB6.out.trans (hb7'.mono HB6.out.size)
  have HR7 : Hid (RowF w7 w.heap.size g 13 (bwAt 4 [3, 5, 5, 3] 0)) := HR6.out.below hb7' hg6
  have HC7 : Hid (∀ i v, (#[Value.int .i64 5, .int .i64 1, .int .i64 4] : Array Value)[i]? = some v → (w7.cell? ⟨T, i, none⟩) = some v) := fun i v h => (hb7'.cell (p := ⟨T, i, none⟩) hT6).trans (HC6.out i v h)
  have hg7 := HR7.out.2.1
  have hT7 : T < w7.heap.size := Nat.lt_of_lt_of_le hT6 hb7'.size
  clear hb7 hb7' HR6 HC6 c0 c1 c2 hg6 hT6 HB6
  have c0 := HC7.out 0 _ rfl
  have c1 := HC7.out 1 _ rfl
  have c2 := HC7.out 2 _ rfl
  go_wp2_with fail
  have hap := apply_bal 1 13 0 0 4 g 0 cp (ballotWords 4 [3, 5, 5, 3] 0) (0, 1 - (fun i => (ballotWords 4 [3, 5, 5, 3] 0).getD i 0) 0, put (fun i => (ballotWords 4 [3, 5, 5, 3] 0).getD i 0) 0 1) w7 (by decide) (HO.out.below HB7.out HO.out.1) hg7 rfl HXU.out (fun i hi => by rw [Nat.zero_add, ← HX.out i hi]; exact (HR7.out.2.2 i hi).1) (by omega) hcp2 HRI.out
    (fun W B g2 cp2 h hB hc hc2 => ballot_close 5 1 0 0 4 B g2 cp2 (fun i => (ballotWords 4 [3, 5, 5, 3] 0).getD i 0) W (by omega) (by omega) (u64_of (by decide)) (u64_of (by decide)) ⟨by decide +kernel, by decide +kernel⟩ h hB hc hc2)
  rw [show (1 - (fun i => (ballotWords 4 [3, 5, 5, 3] 0).getD i 0) 0 : Int) = 1 by decide +kernel] at hap
  refine hap.mono ?_
  clear hap
  rintro e w8 ⟨g2, cp3, rfl, hcp3, hcp4, hrow, hb8⟩
  have HR8 : Hid (RowF w8 w.heap.size g 13 (bwAt 4 [3, 5, 5, 3] 0)) := HR7.out.below hb8 hg7
  have HB8 : Hid (Below w.heap.size w w8) := HB7.out.trans (hb8.mono HB7.out.size)
  have hx8 : w8.cell? ⟨g2, 0, none⟩ = some (.int .u64 1) := (hrow.2.2 0 (by omega)).1
  have hg8 : g2 < w8.heap.size := hrow.2.1
  clear hrow hb8 HB7 HR7 HC7 c0 c1 c2 hg7 hT7 HRI
  go_wp2_with fail
  have hbW : Below w8.heap.size w8 ((w8.alloc (.cells #[.int .i64 0, .int .u64 1] 55)).alloc (.cells #[.int .u64 5] 27)) := (Below.one w8 _).alloc (by simp) _
  have hreg := apply_reg 1 1 2 0 9223372036854775808 5 (w8.heap.size + 1) 0 1 ((w8.alloc (.cells #[.int .i64 0, .int .u64 1] 55)).alloc (.cells #[.int .u64 5] 27)) (by decide) (HO.out.below (HB8.out.trans (hbW.mono HB8.out.size)) HO.out.1) (u64_of (by decide +kernel)) (u64_of (by decide +kernel)) (by decide +kernel) (by simp) (cell_newS _ _ _ _ _ _ rfl)
  rw [show regDo 2 5 9223372036854775808 = (0, 5, 0) by decide +kernel] at hreg
  refine hreg.mono ?_
  clear hreg
  rintro e w9 ⟨g3, cp5, rfl, hcp5, hrow, hb9⟩
  have hbW9 : Below w8.heap.size w8 w9 := hbW.trans (hb9.mono (by simp; omega))
  have HR9 : Hid (RowF w9 w.heap.size g 13 (bwAt 4 [3, 5, 5, 3] 0)) := HR8.out.below hbW9 HR8.out.2.1
  have HB9 : Hid (Below w.heap.size w w9) := HB8.out.trans (hbW9.mono HB8.out.size)
  have hx9 : w9.cell? ⟨g2, 0, none⟩ = some (.int .u64 1) := (hbW9.cell (p := ⟨g2, 0, none⟩) hg8).trans hx8
  have r0 : w9.cell? ⟨w8.heap.size, 0, none⟩ = some (.int .i64 0) := (hb9.cell (p := ⟨w8.heap.size, 0, none⟩) (by simp; omega)).trans (cell_new2 _ _ _ _ _ _ rfl)
  have r1 : w9.cell? ⟨w8.heap.size, 1, none⟩ = some (.int .u64 1) := (hb9.cell (p := ⟨w8.heap.size, 1, none⟩) (by simp; omega)).trans (cell_new2 _ _ _ _ _ _ rfl)
  have HY9 : Hid (RowF w9 0 g3 1 (fun _ => 0)) := ⟨Nat.zero_le _, hrow.2⟩
  have hg9 : g2 < w9.heap.size := Nat.lt_of_lt_of_le hg8 hbW9.size
  have hs9 : w8.heap.size < w9.heap.size := by have := hb9.size; simp at this; omega
  clear hrow hb9 hbW9 hbW HB8 HR8 hx8 hg8
  generalize w8.heap.size = S at *
  go_wp2_with fail
  have hbX : Below w9.heap.size w9 ((w9.alloc (.cells #[.int .i64 0, .int .u64 5] 55)).alloc (.cells #[.int .u64 0, .int .u64 3, .int .u64 5, .int .u64 5, .int .u64 3, .int .u64 0, .int .u64 0, .int .u64 2, .int .u64 0, .int .u64 2, .int .u64 0, .int .u64 0, .int .u64 0] 27)) := (Below.one w9 _).alloc (by simp) _
  have hsg : SlI .u64 w9 (some ⟨g, 0, none⟩) 13 (ballotWords 4 [3, 5, 5, 3] 0) := HR9.out.sl rfl (fun i hi => (HX.out i hi).symm)
  have hwo := words_any (some ⟨g, 0, none⟩) (some ⟨w9.heap.size + 1, 0, none⟩) 13 cp 13 (ballotWords 4 [3, 5, 5, 3] 0) [0, 3, 5, 5, 3, 0, 0, 2, 0, 2, 0, 0, 0] _ (hsg.below hbX (Nat.le_refl _)) (SlI.newS rfl) (by omega)
  rw [show decide (ballotWords 4 [3, 5, 5, 3] 0 = [0, 3, 5, 5, 3, 0, 0, 2, 0, 2, 0, 0, 0]) = true by decide +kernel] at hwo
  refine hwo.mono ?_
  clear hwo
  rintro e w10' ⟨rfl, q, hw10⟩
  have hb10 : Below w9.heap.size w9 w10' := by rw [hw10]; exact Below.drewN' hbX q
  have c18 : w10'.cell? ⟨w9.heap.size, 0, none⟩ = some (.int .i64 0) := by rw [hw10, World.cell?_drewN]; exact cell_new2 _ _ _ _ _ _ rfl
  have c19 : w10'.cell? ⟨w9.heap.size, 1, none⟩ = some (.int .u64 5) := by rw [hw10, World.cell?_drewN]; exact cell_new2 _ _ _ _ _ _ rfl
  clear hw10 hbX hsg
  have HB10 : Hid (Below w.heap.size w w10') := HB9.out.trans (hb10.mono HB9.out.size)
  have hx10 : w10'.cell? ⟨g2, 0, none⟩ = some (.int .u64 1) := (hb10.cell (p := ⟨g2, 0, none⟩) hg9).trans hx9
  have r0' : w10'.cell? ⟨S, 0, none⟩ = some (.int .i64 0) := (hb10.cell (p := ⟨S, 0, none⟩) hs9).trans r0
  have r1' : w10'.cell? ⟨S, 1, none⟩ = some (.int .u64 1) := (hb10.cell (p := ⟨S, 1, none⟩) hs9).trans r1
  have HY10 : Hid (RowF w10' 0 g3 1 (fun _ => 0)) := HY9.out.below hb10 HY9.out.2.1
  clear hb10 hx9 r0 r1 HY9 HB9 HR9
  generalize w9.heap.size = S2 at *
  go_wp2_with fail
  have hbY : Below w10'.heap.size w10' (w10'.alloc (.cells #[.int .u64 0] 27)) := Below.one w10' _
  have hsg : SlI .u64 w10' (some ⟨g3, 0, none⟩) 1 [0] := HY10.out.sl rfl (fun i hi => by have : i = 0 := by omega
                                                                                         subst this; rfl)
  have hwo := words_any (some ⟨g3, 0, none⟩) (some ⟨w10'.heap.size, 0, none⟩) 1 cp5 1 [0] [0] _ (hsg.below hbY (Nat.le_refl _)) (SlI.new rfl) (by omega)
  rw [show decide (([0] : List Int) = [0]) = true by decide +kernel] at hwo
  refine hwo.mono ?_
  clear hwo
  rintro e w11 ⟨rfl, q, hw11⟩
  have HB11 : Hid (Below w.heap.size w w11) := by show Below _ _ _; rw [hw11]; exact HB10.out.trans ((Below.drewN' hbY q).mono HB10.out.size)
  clear hw11
  go_wp2_with fail
  go_ret
  exact ⟨rfl, HB11.out⟩
end Go.Proofs.YtpjohbnnjhkjoaaDoor
