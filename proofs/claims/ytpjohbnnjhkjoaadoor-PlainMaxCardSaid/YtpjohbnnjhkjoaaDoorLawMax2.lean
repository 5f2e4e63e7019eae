/- The walk of PlainMax at nil, and at whatever slice. -/
import Derived.Test.YtpjohbnnjhkjoaaDoorLawMax
import Derived.Test.YtpjohbnnjhkjoaaDoorSliceR
namespace Go.Proofs.YtpjohbnnjhkjoaaDoor
open Go.RowKit
set_option linter.unusedVariables false
set_option linter.unusedSimpArgs false

set_option maxRecDepth 10000 in
set_option maxHeartbeats 1000000 in
theorem max_nil (turn : Int) (w : World) (ho : Objs w) (ht : I64 turn) :
    Calls Tryd.prog 7 #[.slice none 0 0, .int .i64 turn] w fun e w' => e = .returned (.bool true) ∧ Below w.heap.size w w' := by
  have hbl : bLess 0 0 = false := by decide +kernel
  have hfold : ∀ (a : Option Addr) (w : World), Calls Tryd.prog 11 #[.int .i64 3, .slice a 0 0] w fun e w' => e = .returned (.tuple #[.int .u64 0, .int .i64 0]) ∧ Below w.heap.size w w' := fun a w => fold_any 3 (by omega) a 0 0 [] w ⟨rfl, .inl rfl⟩ (by intro x hx; cases hx) (by omega)
  go_enter Tryd.func7, Tryd.ntmps7
  go_wp2_with fail
  refine (awake_any w ho).mono ?_
  rintro e w1 ⟨rfl, hb1⟩
  have HB1 : Hid (Below w.heap.size w w1) := hb1
  clear hb1 ho
  go_wp2_with fail
  refine (pick14_any turn 1 ht (by omega) (by omega) w1).mono ?_
  rintro e w1' ⟨rfl, rfl⟩
  have hk : ipick turn 1 = 0 := by have := ipick_bounds turn (n := 1) (by omega); omega
  rw [hk]
  go_wp2_with fail
  refine (hfold _ w1).mono ?_
  rintro e w2 ⟨rfl, hb2⟩
  have HB2 : Hid (Below w.heap.size w w2) := HB1.out.trans (hb2.mono HB1.out.size)
  clear hb2 HB1
  go_wp2_with fail
  go_region_held3 (fun w' => Below w2.heap.size w2 w') (first | assumption | exact (Below.refl _ _).drew | exact Below.alloc (by assumption) (by assumption) _)
    (first | (go_at_call 11; refine ((hfold _ _).mono fun e w' h => (⟨h.1, Below.trans (by assumption) (h.2.mono (Below.size (by assumption)))⟩ : e = .returned (.tuple #[.int .u64 0, .int .i64 0]) ∧ Below w2.heap.size w2 w')).mono ?_; rintro e w5 ⟨rfl, hb5⟩))
  have HB5 : Hid (Below w.heap.size w w5) := HB2.out.trans (hb5.mono HB2.out.size)
  clear hb5 HB2
  go_wp2_with fail
  go_loopw [13, 12] (fun i h wr => i = .int .i64 0 ∧ h = .bool true ∧ Hid (∃ q, wr = w5.drewN q)) (fun i _ _ => 0)
  case atStart => exact ⟨rfl, rfl, 0, rfl⟩
  case round =>
    obtain ⟨rfl, rfl, HW⟩ := hrel
    obtain ⟨q, rfl⟩ := HW.out
    go_wp2_with (go_at_call 27; refine (less_any _ _ (u64_of (by decide)) (u64_of (by decide)) _).mono ?_; rintro e w' ⟨rfl, rfl⟩; rw [hbl])
    go_ret
    exact ⟨rfl, HB5.out.trans ((quiet_below ⟨_, rfl⟩ : Below w5.heap.size w5 (w5.drewN q)).mono HB5.out.size)⟩

set_option maxRecDepth 10000 in
set_option maxHeartbeats 1000000 in
theorem max_empty (x : Addr) (turn : Int) (w : World) (ho : Objs w) (ht : I64 turn) :
    Calls Tryd.prog 7 #[.slice (some x) 0 0, .int .i64 turn] w fun e w' => e = .returned (.bool true) ∧ Below w.heap.size w w' := by
  have hbl : bLess 0 0 = false := by decide +kernel
  have hfold : ∀ (a : Option Addr) (w : World), Calls Tryd.prog 11 #[.int .i64 3, .slice a 0 0] w fun e w' => e = .returned (.tuple #[.int .u64 0, .int .i64 0]) ∧ Below w.heap.size w w' := fun a w => fold_any 3 (by omega) a 0 0 [] w ⟨rfl, .inl rfl⟩ (by intro x hx; cases hx) (by omega)
  go_enter Tryd.func7, Tryd.ntmps7
  go_wp2_with fail
  refine (awake_any w ho).mono ?_
  rintro e w1 ⟨rfl, hb1⟩
  have HB1 : Hid (Below w.heap.size w w1) := hb1
  clear hb1 ho
  go_wp2_with fail
  refine (pick14_any turn 1 ht (by omega) (by omega) w1).mono ?_
  rintro e w1' ⟨rfl, rfl⟩
  have hk : ipick turn 1 = 0 := by have := ipick_bounds turn (n := 1) (by omega); omega
  rw [hk]
  go_wp2_with fail
  refine (hfold _ w1).mono ?_
  rintro e w2 ⟨rfl, hb2⟩
  have HB2 : Hid (Below w.heap.size w w2) := HB1.out.trans (hb2.mono HB1.out.size)
  clear hb2 HB1
  go_wp2_with fail
  go_region_held3 (fun w' => Below w2.heap.size w2 w') (first | assumption | exact (Below.refl _ _).drew | exact Below.alloc (by assumption) (by assumption) _)
    (first | (go_at_call 11; refine ((hfold _ _).mono fun e w' h => (⟨h.1, Below.trans (by assumption) (h.2.mono (Below.size (by assumption)))⟩ : e = .returned (.tuple #[.int .u64 0, .int .i64 0]) ∧ Below w2.heap.size w2 w')).mono ?_; rintro e w5 ⟨rfl, hb5⟩))
  have HB5 : Hid (Below w.heap.size w w5) := HB2.out.trans (hb5.mono HB2.out.size)
  clear hb5 HB2
  go_wp2_with fail
  go_loopw [13, 12] (fun i h wr => i = .int .i64 0 ∧ h = .bool true ∧ Hid (∃ q, wr = w5.drewN q)) (fun i _ _ => 0)
  case atStart => exact ⟨rfl, rfl, 0, rfl⟩
  case round =>
    obtain ⟨rfl, rfl, HW⟩ := hrel
    obtain ⟨q, rfl⟩ := HW.out
    go_wp2_with (go_at_call 27; refine (less_any _ _ (u64_of (by decide)) (u64_of (by decide)) _).mono ?_; rintro e w' ⟨rfl, rfl⟩; rw [hbl])
    go_ret
    exact ⟨rfl, HB5.out.trans ((quiet_below ⟨_, rfl⟩ : Below w5.heap.size w5 (w5.drewN q)).mono HB5.out.size)⟩

/-- PlainMax, whatever its arguments are. -/
theorem plainMax_walk (w : World) (ho : Objs w) (a : Option Addr) (n cap : Nat) (xs : List Int) (hs : SlIn .u64 w a n cap xs) (hw : ∀ n ∈ xs, (Lit.int .u64 n).wf = true) (turn : Int) (ht : I64 turn) :
    Calls Tryd.prog 7 #[.slice a n cap, .int .i64 turn] w fun e w' => e = .returned (.bool true) ∧ Below w.heap.size w w' := by
  obtain ⟨h1, hn, hc, hp⟩ := hs
  have hx : AllU xs := fun x h => u64_of_wf (hw x h)
  rcases hp with rfl | ⟨b, off, rfl⟩
  · obtain rfl : n = 0 := by omega
    cases a with
    | none => exact max_nil turn w ho ht
    | some x => exact max_empty x turn w ho ht
  · by_cases h : (n : Int) ≤ 20
    · exact max_few b off n cap xs turn w ho h1 hx hn hc ht h
    · exact max_many b off n cap xs turn w ho h1 hx hn hc ht (by omega)
end Go.Proofs.YtpjohbnnjhkjoaaDoor
