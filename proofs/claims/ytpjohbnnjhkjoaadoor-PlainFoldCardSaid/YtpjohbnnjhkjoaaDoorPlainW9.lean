/- The walk of whitewashref10.Words. -/
import Derived.Test.YtpjohbnnjhkjoaaDoorSlW
namespace Go.Proofs.YtpjohbnnjhkjoaaDoor
open Go.RowKit
set_option linter.unusedVariables false
set_option linter.unusedSimpArgs false

theorem words_lens (a c : Option Addr) (n m cap cap2 : Nat) (w : World) (h : n ≠ m) (hn : (n : Int) ≤ 17592186043904) (hm : (m : Int) ≤ 17592186043904) :
    Calls Tryd.prog 19 #[.slice a n cap, .slice c m cap2] w fun e w' => e = .returned (.bool false) ∧ ∃ n, w' = w.drewN n := by
  have h1 : ((n : Int) != (m : Int)) = true := by rw [bne_iff_ne]; omega
  clear h
  go_enter Tryd.func19, Tryd.ntmps19
  go_wp2_with fail
  go_ret
  exact ⟨rfl, 0, rfl⟩

set_option maxRecDepth 10000 in
theorem words_any (a c : Option Addr) (n cap cap2 : Nat) (xs ys : List Int) (w : World) (hx : SlI .u64 w a n xs) (hy : SlI .u64 w c n ys) (hn : (n : Int) ≤ 17592186043904) :
    Calls Tryd.prog 19 #[.slice a n cap, .slice c n cap2] w fun e w' => e = .returned (.bool (decide (xs = ys))) ∧ ∃ n, w' = w.drewN n := by
  have HX : Hid _ := hx
  have HY : Hid _ := hy
  clear hx hy
  go_enter Tryd.func19, Tryd.ntmps19
  go_wp2_with fail
  go_loopw [5] (fun i wr => ∃ k : Nat, i = .int .i64 k ∧ k ≤ n ∧ Hid (xs.take k = ys.take k) ∧ Hid (∃ q, wr = w.drewN q)) (fun i _ => (n - intOf i).toNat)
  case atStart => exact ⟨0, rfl, Nat.zero_le _, rfl, 0, rfl⟩
  case round =>
    obtain ⟨k, rfl, hk, HE, HW⟩ := hrel
    obtain ⟨q, rfl⟩ := HW.out
    by_cases hlt : (k : Int) < n
    · obtain ⟨b, off, rfl, hb, hc⟩ := HX.out.2.resolve_left (by omega)
      obtain ⟨b2, off2, rfl, hb2, hc2⟩ := HY.out.2.resolve_left (by omega)
      have hck := hc k (by omega)
      have hck2 := hc2 k (by omega)
      clear hc hc2
      have hl1 : k < xs.length := by rw [HX.out.1]; omega
      have hl2 : k < ys.length := by rw [HY.out.1]; omega
      have HS : Hid (xs.getD k 0 = ys.getD k 0 → xs.take (k + 1) = ys.take (k + 1)) := eq_step hl1 hl2 HE.out
      have HN : Hid (¬ xs.getD k 0 = ys.getD k 0 → decide (xs = ys) = false) := eq_no
      generalize xs.getD k 0 = x at *
      generalize ys.getD k 0 = y at *
      clear hl1 hl2
      by_cases hxy : x = y
      · subst hxy
        have HS' : Hid _ := HS.out rfl
        clear HS HN
        go_wp2_with fail
        go_quiet (fail)
        go_wp2_with fail
        go_roundw
        case rel => exact ⟨k + 1, by go_num, by omega, HS'.out, _, rfl⟩
        case measure => simp [intOf]; omega
      · have hne := nnot hxy
        go_wp2_with fail
        go_quiet (fail)
        go_wp2_with fail
        go_ret
        exact ⟨ret_bool (HN.out hxy).symm, by simp only [World.drewN_drewN]; exact ⟨_, rfl⟩⟩
    · have HD : Hid (decide (xs = ys) = true) := by
        show _ = _
        have := HE.out
        rw [List.take_of_length_le (by rw [HX.out.1]; omega), List.take_of_length_le (by rw [HY.out.1]; omega)] at this
        exact decide_eq_true this
      go_wp2_with fail
      go_ret
      exact ⟨ret_bool HD.out.symm, _, rfl⟩
end Go.Proofs.YtpjohbnnjhkjoaaDoor
