/- The walk of FltTells: what floats are, their words, ranks, order, maxima and sums, is as the document says. -/
import Derived.Test.YtenkkkadkgkkkaaLaw01
namespace Go.Proofs.Ytenkkkadkgkkkaa
open Go.RowKit
set_option linter.unusedVariables false
set_option linter.unusedSimpArgs false
def AllU (xs : List Int) : Prop := ∀ k, k < xs.length → U64 (xs.getD k 0)
theorem AllU.cons {x : Int} {xs : List Int} (h : U64 x) (hs : AllU xs) : AllU (x :: xs) := by
  intro k hk
  cases k with
  | zero => exact h
  | succ k => exact hs k (by simpa using hk)
theorem AllU.nil : AllU [] := fun k hk => absurd hk (by simp)
theorem u64_wrap (x : Int) : U64 (IntKind.u64.wrap x) := by
  unfold U64; rw [IntKind.wrap_u64]; omega

set_option maxRecDepth 10000 in
set_option maxHeartbeats 2000000 in
theorem fltTells_walk (a b r : Int) (ha : U64 a) (hb : U64 b) (hr : U64 r) (w : World) : Calls Try.prog 3 #[.int .u64 a, .int .u64 b, .int .u64 r] w fun e w' => e = .returned (.bool true) ∧ Below w.heap.size w w' := by
  have hra := u64_rank ha
  go_enter Try.func3, Try.ntmps3
  go_wp2_with fail
  refine (awake_any _).mono ?_; rintro e' w' ⟨rfl, n, rfl⟩
  obtain ⟨w1, hw1⟩ : ∃ w1, w1 = w.drewN n := ⟨_, rfl⟩
  have hb1 : Hid (Below w.heap.size w w1) := by rw [hw1]; exact quiet_below ⟨_, rfl⟩
  rw [← hw1]
  clear hw1
  go_wp2_with fail
  have R0 := WordRow.made w1 #[Value.int IntKind.u64 a, Value.int IntKind.u64 b, Value.int IntKind.u64 (bits BinOp.xor IntKind.u64 a 9223372036854775808), Value.int IntKind.u64 (IntKind.u64.wrap (a + 1))] 22 [a, b, bits BinOp.xor IntKind.u64 a 9223372036854775808, IntKind.u64.wrap (a + 1)] rfl
  have A0 : AllU [a, b, bits BinOp.xor IntKind.u64 a 9223372036854775808, IntKind.u64.wrap (a + 1)] := .cons ha (.cons hb (.cons (u64_bits _ _ _) (.cons (u64_wrap _) .nil)))
  have L0 : [a, b, bits BinOp.xor IntKind.u64 a 9223372036854775808, IntKind.u64.wrap (a + 1)].length = 4 := rfl
  generalize [a, b, bits BinOp.xor IntKind.u64 a 9223372036854775808, IntKind.u64.wrap (a + 1)] = xs at R0 A0 L0
  have hb2 : Hid (Below w.heap.size w (w1.alloc (Obj.cells #[Value.int IntKind.u64 a, Value.int IntKind.u64 b, Value.int IntKind.u64 (bits BinOp.xor IntKind.u64 a 9223372036854775808), Value.int IntKind.u64 (IntKind.u64.wrap (a + 1))] 22))) := hb1.out.alloc hb1.out.size _
  have HB : Hid (w.heap.size ≤ w1.heap.size) := hb1.out.size
  have HL : Hid (xs.length = 4) := L0
  have HR : Hid (WordRow _ _ _) := R0
  clear R0 L0 hb1
  generalize w1.heap.size = B at *
  go_loopw [27] (fun i wr => ∃ k : Nat, i = .int .i64 k ∧ (k : Int) ≤ 4 ∧ Hid (WordRow wr B xs ∧ Below w.heap.size w wr)) (fun i _ => (4 - intOf i).toNat)
  case atStart => exact ⟨0, rfl, by omega, HR.out, hb2.out⟩
  case round =>
    obtain ⟨k, rfl, hk, HW⟩ := hrel
    by_cases hlt : (k : Int) < 4
    · have hc := HW.out.1.2 k (by rw [HL.out]; omega)
      have hx := A0 k (by rw [HL.out]; omega)
      generalize xs.getD k 0 = x at *
      go_wp2_with (first | (go_at_call 12; refine (canon_any _ (by assumption) _).mono ?_; rintro e w' ⟨rfl, rfl⟩) | (go_at_call 13; refine (rcanon_any _ (by assumption) _).mono ?_; rintro e w' ⟨rfl, rfl⟩) | (go_at_call 14; refine (kind_any _ (by assumption) _).mono ?_; rintro e w' ⟨rfl, rfl⟩) | (go_at_call 15; refine (rkind_any _ (by assumption) _).mono ?_; rintro e w' ⟨rfl, rfl⟩) | (go_at_call 16; refine (rank_any _ (by assumption) _).mono ?_; rintro e w' ⟨rfl, rfl⟩) | (go_at_call 17; refine (rrank_any _ (by assumption) _).mono ?_; rintro e w' ⟨rfl, rfl⟩) | (go_at_call 24; refine (word_any _ (by assumption) _).mono ?_; rintro e w' ⟨rfl, rfl⟩) | (go_at_call 25; refine (rword_any _ (by assumption) _).mono ?_; rintro e w' ⟨rfl, rfl⟩) | (go_at_call 18; refine (less_any _ _ (by assumption) (by assumption) _).mono ?_; rintro e w' ⟨rfl, rfl⟩) | (go_at_call 19; refine (rless_any _ _ (by assumption) (by assumption) _).mono ?_; rintro e w' ⟨rfl, rfl⟩) | (go_at_call 20; refine (max_any _ _ (by assumption) (by assumption) _).mono ?_; rintro e w' ⟨rfl, rfl⟩) | (go_at_call 21; refine (rmax_any _ _ (by assumption) (by assumption) _).mono ?_; rintro e w' ⟨rfl, rfl⟩) | (go_at_call 22; refine (sum_any _ _ (by assumption) (by assumption) _).mono ?_; rintro e w' ⟨rfl, n, rfl⟩) | (go_at_call 23; refine (rsum_any _ _ (by assumption) (by assumption) _).mono ?_; rintro e w' ⟨rfl, rfl⟩))
      have R1 := WordRow.made wr #[Value.int IntKind.u64 a, Value.int IntKind.u64 b, Value.int IntKind.u64 (bits BinOp.xor IntKind.u64 b 9223372036854775808)] 22 [a, b, bits BinOp.xor IntKind.u64 b 9223372036854775808] rfl
      have A1 : AllU [a, b, bits BinOp.xor IntKind.u64 b 9223372036854775808] := .cons ha (.cons hb (.cons (u64_bits _ _ _) .nil))
      have L1 : [a, b, bits BinOp.xor IntKind.u64 b 9223372036854775808].length = 3 := rfl
      have hb3 : Hid (Below w.heap.size w (wr.alloc (Obj.cells #[Value.int IntKind.u64 a, Value.int IntKind.u64 b, Value.int IntKind.u64 (bits BinOp.xor IntKind.u64 b 9223372036854775808)] 22))) := HW.out.2.alloc HW.out.2.size _
      have hb4 : Hid (WordRow (wr.alloc (Obj.cells #[Value.int IntKind.u64 a, Value.int IntKind.u64 b, Value.int IntKind.u64 (bits BinOp.xor IntKind.u64 b 9223372036854775808)] 22)) B xs) := HW.out.1.below ((Below.refl wr.heap.size wr).alloc (Nat.le_refl _) _) HW.out.1.1
      generalize [a, b, bits BinOp.xor IntKind.u64 b 9223372036854775808] = ys at R1 A1 L1
      have HL1 : Hid (ys.length = 3) := L1
      have HR1 : Hid (WordRow _ _ _) := R1
      have HB1 : Hid (w.heap.size ≤ wr.heap.size ∧ B < wr.heap.size) := ⟨HW.out.2.size, HW.out.1.1⟩
      clear R1 L1 hc
      generalize wr.heap.size = B1 at *
      go_loopw [56] (fun i wr => ∃ k : Nat, i = .int .i64 k ∧ (k : Int) ≤ 3 ∧ Hid (WordRow wr B1 ys ∧ WordRow wr B xs ∧ Below w.heap.size w wr)) (fun i _ => (3 - intOf i).toNat)
      case atStart => exact ⟨0, rfl, by omega, HR1.out, hb4.out, hb3.out⟩
      case round =>
        obtain ⟨k1, rfl, hk1, HW1⟩ := hrel
        by_cases hlt1 : (k1 : Int) < 3
        · have hc := HW1.out.1.2 k1 (by rw [HL1.out]; omega)
          have hy := A1 k1 (by rw [HL1.out]; omega)
          generalize ys.getD k1 0 = y at *
          go_wp2_with (first | (go_at_call 12; refine (canon_any _ (by assumption) _).mono ?_; rintro e w' ⟨rfl, rfl⟩) | (go_at_call 13; refine (rcanon_any _ (by assumption) _).mono ?_; rintro e w' ⟨rfl, rfl⟩) | (go_at_call 14; refine (kind_any _ (by assumption) _).mono ?_; rintro e w' ⟨rfl, rfl⟩) | (go_at_call 15; refine (rkind_any _ (by assumption) _).mono ?_; rintro e w' ⟨rfl, rfl⟩) | (go_at_call 16; refine (rank_any _ (by assumption) _).mono ?_; rintro e w' ⟨rfl, rfl⟩) | (go_at_call 17; refine (rrank_any _ (by assumption) _).mono ?_; rintro e w' ⟨rfl, rfl⟩) | (go_at_call 24; refine (word_any _ (by assumption) _).mono ?_; rintro e w' ⟨rfl, rfl⟩) | (go_at_call 25; refine (rword_any _ (by assumption) _).mono ?_; rintro e w' ⟨rfl, rfl⟩) | (go_at_call 18; refine (less_any _ _ (by assumption) (by assumption) _).mono ?_; rintro e w' ⟨rfl, rfl⟩) | (go_at_call 19; refine (rless_any _ _ (by assumption) (by assumption) _).mono ?_; rintro e w' ⟨rfl, rfl⟩) | (go_at_call 20; refine (max_any _ _ (by assumption) (by assumption) _).mono ?_; rintro e w' ⟨rfl, rfl⟩) | (go_at_call 21; refine (rmax_any _ _ (by assumption) (by assumption) _).mono ?_; rintro e w' ⟨rfl, rfl⟩) | (go_at_call 22; refine (sum_any _ _ (by assumption) (by assumption) _).mono ?_; rintro e w' ⟨rfl, n, rfl⟩) | (go_at_call 23; refine (rsum_any _ _ (by assumption) (by assumption) _).mono ?_; rintro e w' ⟨rfl, rfl⟩))
          go_roundw
          case rel => exact ⟨k1 + 1, by go_num, by omega, HW1.out.1.below (quiet_below ⟨_, rfl⟩) HW1.out.1.1, HW1.out.2.1.below (quiet_below ⟨_, rfl⟩) HW1.out.2.1.1, HW1.out.2.2.trans ((quiet_below ⟨_, rfl⟩ : Below wr.heap.size wr _).mono HW1.out.2.2.size)⟩
          case measure => simp [intOf]; omega
        · go_wp2_with (first | (go_at_call 12; refine (canon_any _ (by assumption) _).mono ?_; rintro e w' ⟨rfl, rfl⟩) | (go_at_call 13; refine (rcanon_any _ (by assumption) _).mono ?_; rintro e w' ⟨rfl, rfl⟩) | (go_at_call 14; refine (kind_any _ (by assumption) _).mono ?_; rintro e w' ⟨rfl, rfl⟩) | (go_at_call 15; refine (rkind_any _ (by assumption) _).mono ?_; rintro e w' ⟨rfl, rfl⟩) | (go_at_call 16; refine (rank_any _ (by assumption) _).mono ?_; rintro e w' ⟨rfl, rfl⟩) | (go_at_call 17; refine (rrank_any _ (by assumption) _).mono ?_; rintro e w' ⟨rfl, rfl⟩) | (go_at_call 24; refine (word_any _ (by assumption) _).mono ?_; rintro e w' ⟨rfl, rfl⟩) | (go_at_call 25; refine (rword_any _ (by assumption) _).mono ?_; rintro e w' ⟨rfl, rfl⟩) | (go_at_call 18; refine (less_any _ _ (by assumption) (by assumption) _).mono ?_; rintro e w' ⟨rfl, rfl⟩) | (go_at_call 19; refine (rless_any _ _ (by assumption) (by assumption) _).mono ?_; rintro e w' ⟨rfl, rfl⟩) | (go_at_call 20; refine (max_any _ _ (by assumption) (by assumption) _).mono ?_; rintro e w' ⟨rfl, rfl⟩) | (go_at_call 21; refine (rmax_any _ _ (by assumption) (by assumption) _).mono ?_; rintro e w' ⟨rfl, rfl⟩) | (go_at_call 22; refine (sum_any _ _ (by assumption) (by assumption) _).mono ?_; rintro e w' ⟨rfl, n, rfl⟩) | (go_at_call 23; refine (rsum_any _ _ (by assumption) (by assumption) _).mono ?_; rintro e w' ⟨rfl, rfl⟩))
          go_roundw
          case rel => exact ⟨k + 1, by go_num, by omega, HW1.out.2.1, HW1.out.2.2⟩
          case measure => simp [intOf]; omega
    · go_wp2_with (first | (go_at_call 12; refine (canon_any _ (by assumption) _).mono ?_; rintro e w' ⟨rfl, rfl⟩) | (go_at_call 13; refine (rcanon_any _ (by assumption) _).mono ?_; rintro e w' ⟨rfl, rfl⟩) | (go_at_call 14; refine (kind_any _ (by assumption) _).mono ?_; rintro e w' ⟨rfl, rfl⟩) | (go_at_call 15; refine (rkind_any _ (by assumption) _).mono ?_; rintro e w' ⟨rfl, rfl⟩) | (go_at_call 16; refine (rank_any _ (by assumption) _).mono ?_; rintro e w' ⟨rfl, rfl⟩) | (go_at_call 17; refine (rrank_any _ (by assumption) _).mono ?_; rintro e w' ⟨rfl, rfl⟩) | (go_at_call 24; refine (word_any _ (by assumption) _).mono ?_; rintro e w' ⟨rfl, rfl⟩) | (go_at_call 25; refine (rword_any _ (by assumption) _).mono ?_; rintro e w' ⟨rfl, rfl⟩) | (go_at_call 18; refine (less_any _ _ (by assumption) (by assumption) _).mono ?_; rintro e w' ⟨rfl, rfl⟩) | (go_at_call 19; refine (rless_any _ _ (by assumption) (by assumption) _).mono ?_; rintro e w' ⟨rfl, rfl⟩) | (go_at_call 20; refine (max_any _ _ (by assumption) (by assumption) _).mono ?_; rintro e w' ⟨rfl, rfl⟩) | (go_at_call 21; refine (rmax_any _ _ (by assumption) (by assumption) _).mono ?_; rintro e w' ⟨rfl, rfl⟩) | (go_at_call 22; refine (sum_any _ _ (by assumption) (by assumption) _).mono ?_; rintro e w' ⟨rfl, n, rfl⟩) | (go_at_call 23; refine (rsum_any _ _ (by assumption) (by assumption) _).mono ?_; rintro e w' ⟨rfl, rfl⟩))
      have R1 := WordRow.made wr #[Value.int IntKind.u64 r, Value.int IntKind.u64 (iRank a), Value.int IntKind.u64 (bits BinOp.xor IntKind.u64 IntKind.u64.max (iRank a)), Value.int IntKind.u64 (IntKind.u64.wrap (r + 9223372036854775808))] 22 [r, iRank a, bits BinOp.xor IntKind.u64 IntKind.u64.max (iRank a), IntKind.u64.wrap (r + 9223372036854775808)] rfl
      have A1 : AllU [r, iRank a, bits BinOp.xor IntKind.u64 IntKind.u64.max (iRank a), IntKind.u64.wrap (r + 9223372036854775808)] := .cons hr (.cons hra (.cons (u64_bits _ _ _) (.cons (u64_wrap _) .nil)))
      have L1 : [r, iRank a, bits BinOp.xor IntKind.u64 IntKind.u64.max (iRank a), IntKind.u64.wrap (r + 9223372036854775808)].length = 4 := rfl
      have hb3 : Hid (Below w.heap.size w (wr.alloc (Obj.cells #[Value.int IntKind.u64 r, Value.int IntKind.u64 (iRank a), Value.int IntKind.u64 (bits BinOp.xor IntKind.u64 IntKind.u64.max (iRank a)), Value.int IntKind.u64 (IntKind.u64.wrap (r + 9223372036854775808))] 22))) := HW.out.2.alloc HW.out.2.size _
      generalize [r, iRank a, bits BinOp.xor IntKind.u64 IntKind.u64.max (iRank a), IntKind.u64.wrap (r + 9223372036854775808)] = ys at R1 A1 L1
      have HL1 : Hid (ys.length = 4) := L1
      have HR1 : Hid (WordRow _ _ _) := R1
      clear R1 L1 HW
      generalize wr.heap.size = B1 at *
      go_loopw [97] (fun i wr => ∃ k : Nat, i = .int .i64 k ∧ (k : Int) ≤ 4 ∧ Hid (WordRow wr B1 ys ∧ Below w.heap.size w wr)) (fun i _ => (4 - intOf i).toNat)
      case atStart => exact ⟨0, rfl, by omega, HR1.out, hb3.out⟩
      case round =>
        obtain ⟨k1, rfl, hk1, HW1⟩ := hrel
        by_cases hlt1 : (k1 : Int) < 4
        · have hc := HW1.out.1.2 k1 (by rw [HL1.out]; omega)
          have hy := A1 k1 (by rw [HL1.out]; omega)
          generalize ys.getD k1 0 = y at *
          go_wp2_with (first | (go_at_call 12; refine (canon_any _ (by assumption) _).mono ?_; rintro e w' ⟨rfl, rfl⟩) | (go_at_call 13; refine (rcanon_any _ (by assumption) _).mono ?_; rintro e w' ⟨rfl, rfl⟩) | (go_at_call 14; refine (kind_any _ (by assumption) _).mono ?_; rintro e w' ⟨rfl, rfl⟩) | (go_at_call 15; refine (rkind_any _ (by assumption) _).mono ?_; rintro e w' ⟨rfl, rfl⟩) | (go_at_call 16; refine (rank_any _ (by assumption) _).mono ?_; rintro e w' ⟨rfl, rfl⟩) | (go_at_call 17; refine (rrank_any _ (by assumption) _).mono ?_; rintro e w' ⟨rfl, rfl⟩) | (go_at_call 24; refine (word_any _ (by assumption) _).mono ?_; rintro e w' ⟨rfl, rfl⟩) | (go_at_call 25; refine (rword_any _ (by assumption) _).mono ?_; rintro e w' ⟨rfl, rfl⟩) | (go_at_call 18; refine (less_any _ _ (by assumption) (by assumption) _).mono ?_; rintro e w' ⟨rfl, rfl⟩) | (go_at_call 19; refine (rless_any _ _ (by assumption) (by assumption) _).mono ?_; rintro e w' ⟨rfl, rfl⟩) | (go_at_call 20; refine (max_any _ _ (by assumption) (by assumption) _).mono ?_; rintro e w' ⟨rfl, rfl⟩) | (go_at_call 21; refine (rmax_any _ _ (by assumption) (by assumption) _).mono ?_; rintro e w' ⟨rfl, rfl⟩) | (go_at_call 22; refine (sum_any _ _ (by assumption) (by assumption) _).mono ?_; rintro e w' ⟨rfl, n, rfl⟩) | (go_at_call 23; refine (rsum_any _ _ (by assumption) (by assumption) _).mono ?_; rintro e w' ⟨rfl, rfl⟩))
          go_roundw
          case rel => exact ⟨k1 + 1, by go_num, by omega, HW1.out.1, HW1.out.2⟩
          case measure => simp [intOf]; omega
        · go_wp2_with (first | (go_at_call 12; refine (canon_any _ (by assumption) _).mono ?_; rintro e w' ⟨rfl, rfl⟩) | (go_at_call 13; refine (rcanon_any _ (by assumption) _).mono ?_; rintro e w' ⟨rfl, rfl⟩) | (go_at_call 14; refine (kind_any _ (by assumption) _).mono ?_; rintro e w' ⟨rfl, rfl⟩) | (go_at_call 15; refine (rkind_any _ (by assumption) _).mono ?_; rintro e w' ⟨rfl, rfl⟩) | (go_at_call 16; refine (rank_any _ (by assumption) _).mono ?_; rintro e w' ⟨rfl, rfl⟩) | (go_at_call 17; refine (rrank_any _ (by assumption) _).mono ?_; rintro e w' ⟨rfl, rfl⟩) | (go_at_call 24; refine (word_any _ (by assumption) _).mono ?_; rintro e w' ⟨rfl, rfl⟩) | (go_at_call 25; refine (rword_any _ (by assumption) _).mono ?_; rintro e w' ⟨rfl, rfl⟩) | (go_at_call 18; refine (less_any _ _ (by assumption) (by assumption) _).mono ?_; rintro e w' ⟨rfl, rfl⟩) | (go_at_call 19; refine (rless_any _ _ (by assumption) (by assumption) _).mono ?_; rintro e w' ⟨rfl, rfl⟩) | (go_at_call 20; refine (max_any _ _ (by assumption) (by assumption) _).mono ?_; rintro e w' ⟨rfl, rfl⟩) | (go_at_call 21; refine (rmax_any _ _ (by assumption) (by assumption) _).mono ?_; rintro e w' ⟨rfl, rfl⟩) | (go_at_call 22; refine (sum_any _ _ (by assumption) (by assumption) _).mono ?_; rintro e w' ⟨rfl, n, rfl⟩) | (go_at_call 23; refine (rsum_any _ _ (by assumption) (by assumption) _).mono ?_; rintro e w' ⟨rfl, rfl⟩))
          go_ret
          exact ⟨rfl, HW1.out.2⟩
end Go.Proofs.Ytenkkkadkgkkkaa
