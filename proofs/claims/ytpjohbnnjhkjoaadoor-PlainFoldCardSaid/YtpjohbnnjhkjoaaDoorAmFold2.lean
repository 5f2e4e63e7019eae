/- The walk of PlainFold, on the abstract machine. -/
import Derived.Test.YtpjohbnnjhkjoaaDoorAmFold
namespace Go.Proofs.YtpjohbnnjhkjoaaDoor
open Go.RowKit Go.Proofs.YtpjohbnnjhkjoaaDoor.Am
set_option linter.unusedVariables false
set_option linter.unusedSimpArgs false

theorem reg_turn (n x v : Int) (hn : n = 2 ∨ n = 3 ∨ n = 4) : regDo n x v = (0, if n = 2 then x else turn n x v, turn n x v) := by
  rcases hn with rfl | rfl | rfl <;> rfl
theorem canon_turn (n x v : Int) (hn : n = 2 ∨ n = 3 ∨ n = 4) (hx : U64 x) (hv : U64 v) : iCanon (turn n x v) = turn n x v := by
  rcases hn with rfl | rfl | rfl
  · exact p_canon2 v
  · show iCanon (iTop x v) = iTop x v
    rcases @p_top_one x v with h | h <;> rw [h, p_canon2]
  · exact p_sum_canon hx hv
theorem canon_fold (n : Int) (hn : n = 2 ∨ n = 3 ∨ n = 4) (ys : List Int) (h : AllU ys) (k : Nat) (hk : k ≤ ys.length) : iCanon (foldReg n (ys.take k)) = foldReg n (ys.take k) := by
  cases k with
  | zero => exact canon0
  | succ k =>
    rw [take_succ_getD (by omega), foldReg_snoc]
    exact canon_turn n _ _ hn (u64_foldReg n _ (fun x hx => h x (List.mem_of_mem_take hx))) (h.at (by omega))
theorem wrap64 {a : Int} (h1 : -9223372036854775808 ≤ a) (h2 : a ≤ 9223372036854775807) : IntKind.i64.wrap a = a := by
  rw [IntKind.wrap_i64]; omega
def tabFold : List Entry := [eAwake, ePick, eApply, eFold, eCanon]
def ctxFold (P : Program) (h : ∀ t, hasN [55] t = true → P.stoodInHeld t = false) : Ctx := ctx P glR tabFold [55] h
theorem held_fold : ∀ t, hasN [55] t = true → Tryd.prog.stoodInHeld t = false := by
  intro t h
  have : t = 55 := by
    simp only [hasN] at h
    split at h
    · rename_i e; exact (Nat.eq_of_beq_eq_true e).symm
    · cases h
  subst this; exact Tryd.stoodInHeld55
theorem ctxFold_good : (ctxFold Tryd.prog held_fold).good := ctx_good (by kernel_rfl) (by
  intro e he
  simp only [tabFold, List.mem_cons, List.not_mem_nil, or_false] at he
  rcases he with rfl | rfl | rfl | rfl | rfl
  · exact eAwake_ok
  · exact ePick_ok
  · exact eApply_ok
  · exact eFold_ok
  · exact eCanon_ok) (by
  intro g; unfold glR; split
  · exact .inr ⟨_, _, _, _, _, _, rfl⟩
  · exact .inl rfl)

set_option maxRecDepth 100000 in
theorem fold_pure (code : Int) (hc : I64 code) (n : Nat) (xs : List Int) (hx : AllU xs) : Pure Tryd.prog glR 5 [.v (.int .i64 code), .fl [.u64] n xs] (.v (.bool true)) := by
  refine pure_wf fun hw => ?_
  obtain ⟨-, ⟨w1, w2⟩, -⟩ := hw
  have h3 : ipick code 3 = 0 ∨ ipick code 3 = 1 ∨ ipick code 3 = 2 := by have := ipick_bounds code (n := 3) (by omega); omega
  refine pure_of (C := ctxFold Tryd.prog held_fold) ctxFold_good Tryd.func5 (c := bodyOf Tryd.f5) (by rfl) (Nat.le_of_ble_eq_true (by rfl)) 3 (fun w0 => ?_)
  conv => whnf
  refine ⟨by split <;> omega, ?_⟩
  conv => whnf
  refine ⟨⟨hc, by omega, by omega⟩, ?_⟩
  conv => whnf
  have hcw : IntKind.i64.wrap (2 + ipick code 3) = 2 + ipick code 3 := wrap64 (by omega) (by omega)
  obtain ⟨c, hc'⟩ : ∃ c, IntKind.i64.wrap (2 + ipick code 3) = c := ⟨_, rfl⟩
  have hcc : c = 2 ∨ c = 3 ∨ c = 4 := by omega
  obtain ⟨N, hN⟩ : ∃ N, cutL n none (some (if 20 < (n : Int) then 20 else n)) = N := ⟨_, rfl⟩
  obtain ⟨ys, hys⟩ : ∃ ys, cutN (0 + 1) none (some (if 20 < (n : Int) then 20 else n)) xs = ys := ⟨_, rfl⟩
  rw [hc', hN, hys]
  have hN20 : N ≤ 20 ∧ N ≤ n := by simp only [cutL] at hN; split at hN <;> omega
  have hNl : ys.length = N := by
    subst hys
    simp only [cutL] at hN
    simp only [List.length_cons, List.length_nil, Nat.zero_add, Nat.mul_one] at w1
    show (xs.take (if 20 < (n : Int) then (20 : Int) else n).toNat).length = N
    rw [List.length_take, hN]; omega
  have hyx : AllU ys := by subst hys; exact fun x hxx => hx x (List.mem_of_mem_take hxx)
  clear hN hys hc' hcw h3
  refine TW.loopV (base := 1000) ctxFold_good (fun k : Nat => ([(4, .v (.bool false)), (5, .v (.bool true)), (6, .op 24 0 3 0 3), (7, .fl [.u64] N ys), (8, .v (.int .i64 c)), (9, .fl [.u64] 1 [foldReg c (ys.take k)]), (10, .v (.int .i64 k))],
    [(24, .fl [.i64, .i64, .i64] [1, 1, 1])])) (fun k => k ≤ N) (fun k => N - k) ⟨0, ⟨⟨[4, 5, 6, 7, 8, 9, 10], [(24, 24)], [116]⟩, rfl, rfl, rfl⟩, Nat.zero_le _⟩ (fun k hk => ?_)
  conv => whnf
  refine ifB_mk (fun h => ?_) (fun h => ?_)
  · have hk' : k < N := by have := of_decide_eq_true h; omega
    have hX : U64 (foldReg c (ys.take k)) := u64_foldReg c _ (fun x hx => hyx x (List.mem_of_mem_take hx))
    have hV : U64 (ys.getD k 0) := hyx.at (by omega)
    have hV' : U64 (ys.getD (0 + (k : Int).toNat * 1) 0) := by rw [Nat.zero_add, Nat.mul_one, Int.toNat_natCast]; exact hV
    have hw : IntKind.i64.wrap ((k : Int) + 1) = ((k + 1 : Nat) : Int) := by rw [wrap64 (by omega) (by omega)]; rfl
    conv => whnf
    refine ⟨⟨by omega, by omega⟩, ?_⟩
    conv => whnf
    refine ⟨⟨by omega, by omega⟩, ?_⟩
    conv => whnf
    refine ⟨⟨by decide, hV', hX, ?_⟩, ?_⟩
    · exact canon_fold c hcc ys hyx k (by omega)
    conv => whnf
    refine ⟨by rw [hw]; omega, ?_⟩
    conv => whnf
    refine ⟨⟨hcc, fun x hxx => hyx x (List.mem_of_mem_take hxx), ?_⟩, ?_⟩
    · show (IntKind.i64.wrap ((k : Int) + 1)).toNat ≤ 1000
      rw [hw]; omega
    conv => whnf
    refine ⟨⟨by omega, by omega⟩, ?_⟩
    conv => whnf
    have hcut : cutN (0 + 1) none (some (IntKind.i64.wrap ((k : Int) + 1))) ys = ys.take (k + 1) := by
      show ys.take (IntKind.i64.wrap ((k : Int) + 1)).toNat = _
      rw [hw]; rfl
    have hnext : turn c (foldReg c (ys.take k)) (ys.getD (0 + (k : Int).toNat * 1) 0) = foldReg c (ys.take (k + 1)) := by
      rw [take_succ_getD (by omega), foldReg_snoc, Nat.zero_add, Nat.mul_one, Int.toNat_natCast]
    have hR := reg_turn c (foldReg c (ys.take k)) (ys.getD (0 + (k : Int).toNat * 1) 0) hcc
    rw [hnext] at hR
    refine ifB_mk (fun h => ?_) (fun h => ?_)
    · exfalso
      have h2 : ((regDo c (foldReg c (ys.take k)) (ys.getD (0 + (k : Int).toNat * 1) 0)).2.2 != foldReg c (cutN (0 + 1) none (some (IntKind.i64.wrap ((k : Int) + 1))) ys)) = true := h
      rw [hcut, hR] at h2
      simp at h2
    conv => whnf
    have hRv : ∀ a b : Int, (regDo c (foldReg c (ys.take k)) (ys.getD (0 + (k : Int).toNat * 1) 0)).1 = 0 := fun _ _ => by rw [hR]
    have hG : (foldReg c (cutN (0 + 1) none (some (IntKind.i64.wrap ((k : Int) + 1))) ys)) = foldReg c (ys.take (k + 1)) := by rw [hcut]
    refine ifB_mk (fun h2 => ?_) (fun h2 => ?_)
    · have hc2 : c ≠ 2 := fun e => by rw [e] at h2; cases h2
      conv => whnf
      refine ifB_mk (fun h3 => ?_) (fun h3 => ?_)
      · exfalso
        have h4 : (!((regDo c (foldReg c (ys.take k)) (ys.getD (0 + (k : Int).toNat * 1) 0)).1 == 0 && ((regDo c (foldReg c (ys.take k)) (ys.getD (0 + (k : Int).toNat * 1) 0)).2.1 == foldReg c (cutN (0 + 1) none (some (IntKind.i64.wrap ((k : Int) + 1))) ys) && true))) = true := h3
        rw [hcut, hR, if_neg hc2] at h4
        simp at h4
      conv => whnf
      refine ifB_mk (fun h5 => absurd (by simpa using h5) hc2) (fun h5 => ?_)
      conv => whnf
      refine ifB_mk (fun h5 => absurd (by simpa using h5) hc2) (fun h5 => ?_)
      conv => whnf
      refine ⟨k + 1, ⟨⟨[4, 5, 6, 7, 8, 9, 10], [(24, 24)], []⟩, rfl, ?_, rfl⟩, by omega, by omega⟩
      show [(4, T.v (.bool false)), (5, .v (.bool true)), (6, .op 24 0 3 0 3), (7, .fl [.u64] N ys), (8, .v (.int .i64 c)), (9, .fl [.u64] 1 [(regDo c (foldReg c (ys.take k)) (ys.getD (0 + (k : Int).toNat * 1) 0)).2.2]), (10, .v (.int .i64 (IntKind.i64.wrap ((k : Int) + 1))))] = _
      rw [hR, hw]
    · have hc2 : c = 2 := by simpa using h2
      conv => whnf
      refine ifB_mk (fun h5 => ?_) (fun h5 => absurd hc2 (by simpa using h5))
      conv => whnf
      refine ⟨⟨by omega, by omega⟩, ?_⟩
      conv => whnf
      refine ifB_mk (fun h3 => ?_) (fun h3 => ?_)
      · exfalso
        have h4 : (!((regDo c (foldReg c (ys.take k)) (ys.getD (0 + (k : Int).toNat * 1) 0)).1 == 0 && ((regDo c (foldReg c (ys.take k)) (ys.getD (0 + (k : Int).toNat * 1) 0)).2.1 == foldReg c (ys.take k) && true))) = true := h3
        rw [hR, if_pos hc2] at h4
        simp at h4
      conv => whnf
      refine ifB_mk (fun h6 => ?_) (fun h6 => absurd hc2 (by simpa using h6))
      conv => whnf
      refine ⟨⟨by omega, by omega⟩, ?_⟩
      conv => whnf
      refine ⟨hV', ?_⟩
      conv => whnf
      refine ifB_mk (fun h7 => ?_) (fun h7 => ?_)
      · exfalso
        have h8 : (foldReg c (cutN (0 + 1) none (some (IntKind.i64.wrap ((k : Int) + 1))) ys) != iCanon (ys.getD (0 + (k : Int).toNat * 1) 0)) = true := h7
        rw [hcut, ← hnext, hc2] at h8
        simp [turn] at h8
      conv => whnf
      refine ⟨k + 1, ⟨⟨[4, 5, 6, 7, 8, 9, 10], [(24, 24)], []⟩, rfl, ?_, rfl⟩, by omega, by omega⟩
      show [(4, T.v (.bool false)), (5, .v (.bool true)), (6, .op 24 0 3 0 3), (7, .fl [.u64] N ys), (8, .v (.int .i64 c)), (9, .fl [.u64] 1 [(regDo c (foldReg c (ys.take k)) (ys.getD (0 + (k : Int).toNat * 1) 0)).2.2]), (10, .v (.int .i64 (IntKind.i64.wrap ((k : Int) + 1))))] = _
      rw [hR, hw]
  · conv => whnf
    have hX : U64 (foldReg c (ys.take k)) := u64_foldReg c _ (fun x hxx => hyx x (List.mem_of_mem_take hxx))
    refine ⟨⟨by decide, u64_of (by decide), hX, canon_fold c hcc ys hyx k (by omega)⟩, ?_⟩
    conv => whnf
    refine ⟨⟨by omega, by omega⟩, ?_⟩
    conv => whnf
    show some (T.v (.bool ((regDo 1 (foldReg c (ys.take k)) 0).1 == 0 && ((regDo 1 (foldReg c (ys.take k)) 0).2.1 == foldReg c (ys.take k) && true)))) = _
    have h1 : regDo 1 (foldReg c (ys.take k)) 0 = (0, foldReg c (ys.take k), foldReg c (ys.take k)) := by unfold regDo; rw [if_pos rfl]
    rw [h1]
    simp
theorem tv_slIn {k : IntKind} {w : World} {a : Option Addr} {len cap : Nat} {xs : List Int} (h : SlIn k w a len cap xs) : TV w (fun _ => True) noM noL (.fl [k] len xs) (.slice a len cap) := by
  obtain ⟨⟨h1, h2⟩, h3, h4, h5⟩ := h
  rcases Nat.eq_zero_or_pos len with hz | hz
  · subst hz
    obtain rfl := List.eq_nil_of_length_eq_zero h1
    exact .fl0
  · rcases h2 with h2 | ⟨b, off, rfl, hb, hc⟩
    · omega
    · refine .fl trivial hb (by simp) (by simpa using h1) ⟨h3, by omega⟩ hz (fun i x hx => ?_)
      obtain ⟨hi, rfl⟩ := List.getElem?_eq_some_iff.1 hx
      rw [hc i (by omega), List.getD_eq_getElem?_getD, List.getElem?_eq_getElem hi]
      unfold kc; rw [show i % [k].length = 0 from Nat.mod_one i]; rfl
theorem plainFold_walk (w : World) (ho : Objs w) (code : Int) (hc : I64 code) (a : Option Addr) (len cap : Nat) (xs : List Int) (hs : SlIn .u64 w a len cap xs) (hx : ∀ n ∈ xs, (Lit.int .u64 n).wf = true) :
    Calls Tryd.prog 5 #[.int .i64 code, .slice a len cap] w fun e w' => e = .returned (.bool true) ∧ Below w.heap.size w w' := by
  refine (fold_pure code hc len xs (fun x hxx => u64_of_wf (hx x hxx)) w [_, _] (gl_objs ho) (.cons (.v rfl) (.cons (tv_slIn hs) .nil))).mono ?_
  rintro e w' ⟨v, rfl, hb, hv⟩
  obtain rfl := hv.val rfl
  exact ⟨rfl, hb⟩
end Go.Proofs.YtpjohbnnjhkjoaaDoor
