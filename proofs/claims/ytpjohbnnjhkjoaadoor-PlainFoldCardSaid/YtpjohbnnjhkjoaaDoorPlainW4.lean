/- The walk of plain.right. -/
import Derived.Test.YtpjohbnnjhkjoaaDoorPlainW3
namespace Go.Proofs.YtpjohbnnjhkjoaaDoor
open Go.RowKit
set_option linter.unusedVariables false
set_option linter.unusedSimpArgs false

def votesOf (n : Nat) (xs : List Int) : List Int := (xs.drop 1).take n
def toldOf (n : Nat) (xs : List Int) : List Int := xs.drop (1 + n)
def eight (vs : List Int) : List Int := [tally vs 1, tally vs 2, tally vs 3, tally vs 4, tally vs 5, tally vs 6, tally vs 7, tally vs 8]
/-- May these be a ballot's words? -/
def rightB (n : Nat) (xs : List Int) : Bool := small (votesOf n xs) && (decide (xs.getD 0 0 ≤ 1) && decide (eight (votesOf n xs) = toldOf n xs))
theorem getD_drop (xs : List Int) (d i : Nat) : (xs.drop d).getD i 0 = xs.getD (d + i) 0 := by
  rw [List.getD_eq_getElem?_getD, List.getD_eq_getElem?_getD, List.getElem?_drop]
theorem getD_take {xs : List Int} {n i : Nat} (h : i < n) : (xs.take n).getD i 0 = xs.getD i 0 := by
  rw [List.getD_eq_getElem?_getD, List.getD_eq_getElem?_getD, List.getElem?_take_of_lt h]
theorem SlI.part {k : IntKind} {w : World} {b off len : Nat} {xs : List Int} (hb : b < w.heap.size) (hl : xs.length = len) (hc : ∀ i, i < len → w.cell? ⟨b, off + i, none⟩ = some (.int k (xs.getD i 0))) (d n : Nat) (h : d + n ≤ len) : SlI k w (some ⟨b, off + d, none⟩) n ((xs.drop d).take n) := by
  refine ⟨by rw [List.length_take, List.length_drop]; omega, .inr ⟨b, off + d, rfl, hb, fun i hi => ?_⟩⟩
  rw [Nat.add_assoc, hc (d + i) (by omega), getD_take hi, getD_drop]
theorem allU_part {xs : List Int} (h : AllU xs) (d n : Nat) : AllU ((xs.drop d).take n) := fun x hx => h x (List.mem_of_mem_drop (List.mem_of_mem_take hx))

def RightPost (w : World) (n : Nat) (xs : List Int) (e : Ending) (w' : World) : Prop := e = .returned (.bool (rightB n xs)) ∧ Below w.heap.size w w'
set_option maxRecDepth 10000 in
set_option maxHeartbeats 2000000 in
theorem right_any (k p : Int) (N b off cap : Nat) (xs : List Int) (w : World) (hn : 1 ≤ (N : Int)) (h1 : (N : Int) ≤ 256) (hb : b < w.heap.size) (hl : xs.length = N + 9) (hx : AllU xs)
    (hc : ∀ i, i < N + 9 → w.cell? ⟨b, off + i, none⟩ = some (.int .u64 (xs.getD i 0))) (hcap : (N : Int) + 9 ≤ cap) (hc2 : (cap : Int) ≤ 9223372036854775807) :
    Calls Tryd.prog 39 #[conf k p N, .slice (some ⟨b, off, none⟩) (N + 9) cap] w (RightPost w N xs) := by
  have HC : Hid _ := hc
  have hx0 : Hid (U64 (xs.getD 0 0)) := hx.at (by omega)
  have hc0 := hc 0 (by omega)
  rw [Nat.add_zero] at hc0
  have HV : Hid (SlI .u64 w (some ⟨b, off + 1, none⟩) N (votesOf N xs)) := SlI.part hb hl hc 1 N (by omega)
  have HD : Hid (SlI .u64 w (some ⟨b, off + 1 + N, none⟩) 8 (toldOf N xs)) := by
    have := SlI.part hb hl hc (1 + N) 8 (by omega)
    have e : (xs.drop (1 + N)).take 8 = toldOf N xs := List.take_of_length_le (by rw [List.length_drop]; omega)
    rw [e, ← Nat.add_assoc] at this
    exact this
  have HU : Hid (AllU (votesOf N xs)) := allU_part hx 1 N
  have HR : Hid (rightB N xs = (small (votesOf N xs) && (decide (xs.getD 0 0 ≤ 1) && decide (eight (votesOf N xs) = toldOf N xs)))) := rfl
  clear hc hl hx HC
  generalize xs.getD 0 0 = x0 at *
  generalize votesOf N xs = vs at *
  generalize toldOf N xs = ts at *
  go_enter Tryd.func39, Tryd.ntmps39
  go_wp2_with (go_at_call 38; go_must (refine (parts_any k p N b off cap hn h1 hcap hc2 _).mono ?_); rintro e w' ⟨rfl, q, rfl⟩)
  obtain ⟨W, hW⟩ : ∃ W, W = ((w.alloc (.cells #[.int .i64 k, .int .i64 p, .int .i64 N] 23)).alloc (.cells #[.int .i64 k, .int .i64 p, .int .i64 N] 23)).drewN q := ⟨_, rfl⟩
  have hBW : Below w.heap.size w W := by
    rw [hW]
    exact (((Below.refl _ _).alloc (Nat.le_refl _) _).alloc (by simp) _).trans ((quiet_below ⟨q, rfl⟩ : Below _ _ (World.drewN _ q)).mono (by simp; omega))
  rw [← hW]
  have k2 : W.cell? ⟨w.heap.size, 2, none⟩ = some (.int .i64 N) := by rw [hW, World.cell?_drewN]; exact cell_new2 _ _ _ _ _ _ rfl
  clear hW
  have HVW : SlI .u64 W (some ⟨b, off + 1, none⟩) N vs := HV.out.below hBW (Nat.le_refl _)
  refine (counted_any _ N _ vs W HVW HU.out (by omega)).mono ?_
  rintro e w1 ⟨hres, hb1⟩
  have HB1 : Hid (Below w.heap.size w w1) := hBW.trans (hb1.mono hBW.size)
  have hc01 : w1.cell? ⟨b, off, none⟩ = some (.int .u64 x0) := (HB1.out.cell (p := ⟨b, off, none⟩) hb).trans hc0
  have HD1 : Hid (SlI .u64 w1 (some ⟨b, off + 1 + N, none⟩) 8 ts) := HD.out.below HB1.out (Nat.le_refl _)
  have hlt1 : b < w1.heap.size := Nat.lt_of_lt_of_le hb HB1.out.size
  clear hBW hb1 hc0 HVW k2 HV HD
  obtain ⟨x00, x01⟩ := hx0.out
  rcases hres with ⟨hsm, rfl⟩ | ⟨hsm, rfl⟩
  · have HSm : Hid _ := hsm
    clear hsm
    unfold talliesV
    by_cases hx1 : x0 ≤ 1
    · have HB2 : Hid (Below w.heap.size w (w1.alloc (.cells #[.int .u64 0, .int .u64 (tally vs 1), .int .u64 (tally vs 2), .int .u64 (tally vs 3), .int .u64 (tally vs 4), .int .u64 (tally vs 5), .int .u64 (tally vs 6), .int .u64 (tally vs 7), .int .u64 (tally vs 8)] 83))) := HB1.out.alloc HB1.out.size _
      have HT : Hid (SlI .u64 (w1.alloc (.cells #[.int .u64 0, .int .u64 (tally vs 1), .int .u64 (tally vs 2), .int .u64 (tally vs 3), .int .u64 (tally vs 4), .int .u64 (tally vs 5), .int .u64 (tally vs 6), .int .u64 (tally vs 7), .int .u64 (tally vs 8)] 83)) (some ⟨w1.heap.size, 1, none⟩) 8 (eight vs)) := by
        refine ⟨rfl, .inr ⟨w1.heap.size, 1, rfl, by simp, fun i hi => ?_⟩⟩
        have : i = 0 ∨ i = 1 ∨ i = 2 ∨ i = 3 ∨ i = 4 ∨ i = 5 ∨ i = 6 ∨ i = 7 := by omega
        rcases this with rfl | rfl | rfl | rfl | rfl | rfl | rfl | rfl <;> exact cell_new _ _ _ _ _ rfl
      have HD2 : Hid (SlI .u64 (w1.alloc (.cells #[.int .u64 0, .int .u64 (tally vs 1), .int .u64 (tally vs 2), .int .u64 (tally vs 3), .int .u64 (tally vs 4), .int .u64 (tally vs 5), .int .u64 (tally vs 6), .int .u64 (tally vs 7), .int .u64 (tally vs 8)] 83)) (some ⟨b, off + 1 + N, none⟩) 8 ts) := HD1.out.below (Below.one _ _) (Nat.le_refl _)
      go_wp2_with fail
      refine (equal_any _ _ 8 _ _ (eight vs) ts _ HT.out HD2.out (by omega)).mono ?_
      rintro e w2 ⟨rfl, q2, rfl⟩
      have HE : Hid (decide (eight vs = ts) = rightB N xs) := by
        show _ = _
        rw [HR.out, HSm.out, decide_eq_true hx1]; rfl
      go_wp2_with fail
      go_ret
      exact ⟨ret_bool HE.out, HB2.out.trans ((quiet_below ⟨_, rfl⟩ : Below (World.heap _).size _ (World.drewN _ _)).mono HB2.out.size)⟩
    · have HE : Hid (false = rightB N xs) := by
        show _ = _
        rw [HR.out, HSm.out, decide_eq_false hx1]; rfl
      go_wp2_with fail
      go_ret
      exact ⟨ret_bool HE.out, HB1.out.alloc HB1.out.size _⟩
  · have HE : Hid (false = rightB N xs) := by
      show _ = _
      rw [HR.out, hsm]; rfl
    clear hsm
    unfold zerosV
    go_wp2_with fail
    go_ret
    exact ⟨ret_bool HE.out, HB1.out.alloc HB1.out.size _⟩
end Go.Proofs.YtpjohbnnjhkjoaaDoor
