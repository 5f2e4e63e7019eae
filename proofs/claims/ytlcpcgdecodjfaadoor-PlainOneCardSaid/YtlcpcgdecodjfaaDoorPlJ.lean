/- PlainOne's walk. -/
import Derived.Test.YtlcpcgdecodjfaaDoorPlG
namespace Go.Proofs.YtlcpcgdecodjfaaDoor
open Go.RowKit Go.Proofs.YtlcpcgdecodjfaaDoor.Am
set_option linter.unusedVariables false
set_option linter.unusedSimpArgs false

/-- Votes that were cast in i rounds, of turned choices. -/
def vsAt (n k : Nat) (l : List Int) : Nat → List Int
  | 0 => List.replicate n 0
  | i + 1 => (vsAt n k l i).set ((i + k) % l.length) (l.getD ((i + k) % l.length) 0)
theorem vsAt_len (n k : Nat) (l : List Int) (i : Nat) : (vsAt n k l i).length = n := by
  induction i with
  | zero => simp [vsAt]
  | succ i ih => simp [vsAt, ih]
theorem vsAt_ok (n k : Nat) {l : List Int} (h : okV l = true) (i : Nat) : okV (vsAt n k l i) = true := by
  induction i with
  | zero =>
    unfold okV vsAt; rw [List.all_eq_true]
    intro x hx
    have := List.eq_of_mem_replicate hx
    subst this; rfl
  | succ i ih => exact okV_set ih (okV_getD h _)
theorem vsAt_new (n k : Nat) (l : List Int) (i q : Nat) (h : ∀ j, j < i → (j + k) % l.length ≠ q) : (vsAt n k l i).getD q 0 = 0 := by
  induction i with
  | zero =>
    unfold vsAt
    by_cases hq : q < n
    · simp [List.getD, hq]
    · simp [List.getD, hq]
  | succ i ih =>
    simp only [vsAt]
    rw [getD_set, if_neg (fun h2 => h i (by omega) h2.1)]
    exact ih (fun j hj => h j (by omega))
theorem vsAt_old (n k : Nat) (l : List Int) (hl : l.length ≤ n) (i q j : Nat) (hj : j < i) (hq : (j + k) % l.length = q) : (vsAt n k l i).getD q 0 = l.getD q 0 := by
  induction i with
  | zero => omega
  | succ i ih =>
    simp only [vsAt]
    rw [getD_set]
    by_cases h : (i + k) % l.length = q
    · by_cases h0 : l.length = 0
      · have e : l = [] := List.eq_nil_of_length_eq_zero h0
        subst e
        split
        · rw [h]
        · by_cases hji : j < i
          · exact ih hji
          · obtain rfl : j = i := by omega
            rename_i hn
            have hlt : ¬ q < n := fun hlt => hn ⟨h, by rw [vsAt_len]; exact hlt⟩
            have e1 : (vsAt n k [] j)[q]? = none := List.getElem?_eq_none (by rw [vsAt_len]; omega)
            simp [List.getD, e1]
      · have := Nat.mod_lt (i + k) (Nat.pos_of_ne_zero h0)
        rw [if_pos ⟨h, by rw [vsAt_len]; omega⟩, h]
    · rw [if_neg (fun h2 => h h2.1)]
      have : j ≠ i := by rintro rfl; exact h hq
      exact ih (by omega)
theorem mod_ne {i j k l : Nat} (hj : j < i) (hi : i < l) : (j + k) % l ≠ (i + k) % l := by
  intro h
  have e1 := Nat.div_add_mod (j + k) l
  have e2 := Nat.div_add_mod (i + k) l
  have h3 : (i + k) / l = (j + k) / l ∨ (j + k) / l + 1 ≤ (i + k) / l ∨ (i + k) / l + 1 ≤ (j + k) / l := by omega
  rcases h3 with h3 | h3 | h3
  · rw [h3] at e2; omega
  · have := Nat.mul_le_mul_left l h3
    rw [Nat.mul_add, Nat.mul_one] at this; omega
  · have := Nat.mul_le_mul_left l h3
    rw [Nat.mul_add, Nat.mul_one] at this; omega
theorem mod_hit {k l q : Nat} (hq : q < l) : ∃ j, j < l ∧ (j + k) % l = q := by
  refine ⟨(q + (l - k % l)) % l, Nat.mod_lt _ (by omega), ?_⟩
  have hk := Nat.mod_lt k (show 0 < l by omega)
  rw [Nat.mod_add_mod, ← Nat.add_mod_mod, show q + (l - k % l) + k % l = q + l by omega, Nat.add_mod_right, Nat.mod_eq_of_lt hq]
theorem vsAt_all (n k : Nat) (l : List Int) (hl : l.length ≤ n) : vsAt n k l l.length = pad n l := by
  refine getD_ext (by rw [vsAt_len, pad_len hl]) fun q hq => ?_
  rw [pad_getD]
  by_cases h : q < l.length
  · obtain ⟨j, h1, h2⟩ := mod_hit (k := k) h
    exact vsAt_old n k l hl _ q j h1 h2
  · have e : l.getD q 0 = 0 := by simp [List.getD, List.getElem?_eq_none (Nat.le_of_not_lt h)]
    rw [e]
    refine vsAt_new n k l _ q (fun j hj h2 => h ?_)
    rw [← h2]; exact Nat.mod_lt _ (by omega)
theorem vsAt_step0 {n k : Nat} {l : List Int} {i : Nat} (hi : i < l.length) (h : l.getD ((i + k) % l.length) 0 = 0) : vsAt n k l (i + 1) = vsAt n k l i := by
  refine getD_ext (by rw [vsAt_len, vsAt_len]) fun q hq => ?_
  simp only [vsAt]
  rw [getD_set]
  split
  · rename_i h2
    rw [h, ← h2.1, vsAt_new n k l i _ (fun j hj => mod_ne hj hi)]
  · rfl
theorem rem_val (i kk l : Nat) (hl : 0 < l) (h : i + kk ≤ 100000) : (IntKind.i64.wrap ((i : Int) + kk)).tmod (l : Int) = (((i + kk) % l : Nat) : Int) := by
  rw [wrap64 (by omega) (by omega), Int.tmod_eq_emod_of_nonneg (by omega)]
  simp
theorem vsAt_zero (n k : Nat) (l : List Int) : vsAt n k l 0 = List.replicate n 0 := rfl
theorem vsAt_succ (n k : Nat) (l : List Int) (i : Nat) : vsAt n k l (i + 1) = (vsAt n k l i).set ((i + k) % l.length) (l.getD ((i + k) % l.length) 0) := rfl
theorem pad_nil (n : Nat) : pad n [] = List.replicate n 0 := by simp [pad]
noncomputable def ctxPlJ (P : Program) (h : EqR P) : Ctx := ctx P glR [eAwake, eBox, eChoices, eCastN, ePick14, eApply, eWords] [55] h [] (fun _ h => by cases h)
theorem ctxPlJ_good : (ctxPlJ Tryd.prog eqR).good := ctx_good (by kernel_rfl) (AllOk.mem ⟨eAwake_ok, eBox_ok, eChoices_ok, eCastN_ok, ePick14_ok, eApply_ok, eWords_ok, trivial⟩) glR_two
attribute [local irreducible] foldS castS winS applyS chs castW win vsAt ipick
set_option maxRecDepth 100000 in
set_option maxHeartbeats 4000000 in
theorem one_pure (room : Int) (hr : I64 room) (m : Nat) (raw : List Int) (hx : AllI raw) (turn : Int) (ht : I64 turn) (ma : Nat) (again : List Int) (hg : AllI again) : Pure Tryd.prog glR 4 [.v (.int .i64 room), .fl [.i64] m raw, .v (.int .i64 turn), .fl [.i64] ma again] (.v (.bool true)) := by
  refine pure_wf fun hw => ?_
  obtain ⟨-, ⟨w1, w2⟩, -, ⟨w3, w4⟩, -⟩ := hw
  simp only [List.length_cons, List.length_nil, Nat.zero_add, Nat.mul_one] at w1 w3
  obtain ⟨b1, b2⟩ := ipick_bounds room (n := 12) (by omega)
  obtain ⟨n, hn⟩ := Int.eq_ofNat_of_zero_le (a := 1 + ipick room 12) (by omega)
  have n1 : 1 ≤ n := by omega
  have n2 : n ≤ 256 := by omega
  have hl : (chs n raw).length = min m n := by simp [chs]; omega
  have ho : okV (chs n raw) = true := okV_chs _ _
  have l1 := cast_ok n1 n2 (l := chs n raw) (by omega) ho
  have k0 := ipick_bounds turn (n := ((min m n + 1 : Nat) : Int)) (by omega)
  obtain ⟨kk, hk⟩ := Int.eq_ofNat_of_zero_le k0.1
  have eW : IntKind.i64.wrap (((min m (n : Int).toNat : Nat) : Int) + 1) = ((min m n + 1 : Nat) : Int) := by rw [wrap64 (by omega) (by omega)]; omega
  have l2 : castS 5 1 n [] = (castW n (vsAt n kk (chs n raw) 0), 0) := by rw [cast_ok n1 n2 (l := []) (by simp) rfl, ← castW_pad n [], pad_nil, vsAt_zero]
  refine pure_of (C := ctxPlJ Tryd.prog eqR) ctxPlJ_good Tryd.func4 (c := bodyOf Tryd.f4) (by rfl) (Nat.le_of_ble_eq_true (by rfl)) 4 0 [0, 1, 2, 3, 8, 9, 10, 11, 12, 13, 14, 15, 16, 17, 18, 19, 20, 21, 22, 23, 24, 47, 56, 69, 91, 96, 126] ?_
  conv => whnf
  refine And.intro hr ?_
  rw [hn]
  conv => whnf
  refine And.intro ⟨by omega, hx⟩ ?_
  conv => whnf
  rw [l1]
  conv => whnf
  rw [l2]
  conv => whnf
  refine And.intro ⟨ht, by omega, by omega⟩ ?_
  rw [eW, hk]
  conv => whnf
  refine TW.loopD ctxPlJ_good 0 (base := 0) (lv := [0, 1, 2, 3, 8, 9, 10, 11, 12, 13, 14, 15, 16, 17, 18, 19, 20, 21, 22, 23, 24, 47, 56, 69, 91, 96, 126]) [14, 17] [156] [(156, 156)] (fun x : Nat × List Int => [.ow 156 1 (castW n x.2).length, .v (.int .i64 x.1)]) (fun x => [.fl [.u64] (castW n x.2)]) (fun x => x.1 ≤ min m n ∧ x.2 = vsAt n kk (chs n raw) x.1) (fun x => min m n - x.1) ?_
  conv => whnf
  refine ⟨⟨(0, vsAt n kk (chs n raw) 0), ⟨rfl, rfl, rfl⟩, Nat.zero_le _, rfl⟩, fun ⟨i, vs⟩ ⟨hi, hvs⟩ => ?_⟩
  replace hi : i ≤ min m n := hi
  replace hvs : vs = vsAt n kk (chs n raw) i := hvs
  conv => whnf
  refine ifB_dec (fun h => ?_) (fun h => ?_)
  · have hlp : 0 < min m n := by omega
    have hil : i < (chs n raw).length := by omega
    have er : (IntKind.i64.wrap ((i : Int) + kk)).tmod ((min m (n : Int).toNat : Nat) : Int) = (((i + kk) % (chs n raw).length : Nat) : Int) := by
      rw [Int.toNat_natCast, hl]; exact rem_val i kk (min m n) hlp (by omega)
    have hvl : (i + kk) % (chs n raw).length < (chs n raw).length := Nat.mod_lt _ (by omega)
    have hnew := vsAt_new n kk (chs n raw) i _ (fun j hj => mod_ne hj hil)
    have hok := vsAt_ok n kk ho i
    have hln := vsAt_len n kk (chs n raw) i
    have hc := okV_getD ho ((i + kk) % (chs n raw).length)
    have hsucc := vsAt_succ n kk (chs n raw) i
    have hs0 := vsAt_step0 (n := n) (k := kk) hil
    rw [← hvs] at hnew hok hln hsucc hs0
    conv => whnf
    refine And.intro (by omega) ?_
    conv => whnf
    rw [er]
    obtain ⟨v, hv⟩ : ∃ v, (i + kk) % (chs n raw).length = v := ⟨_, rfl⟩
    rw [hv] at hvl hnew hc hsucc hs0
    rw [hv]
    clear er
    refine And.intro (by omega) ?_
    conv => whnf
    have ev : (chs n raw).getD (0 + addN 0 (v : Int).toNat * (0 + 1)) 0 = (chs n raw).getD v 0 := by simp [addN_eq]
    rw [ev]
    refine ifB_eq (fun h0 => ?_) (fun h0 => ?_)
    · conv => whnf
      rw [wsucc (n := min m n) (by omega) (by omega)]
      exact ⟨(i + 1, vs), [(156, 156)], ⟨rfl, rfl, rfl⟩, ⟨(by omega : i + 1 ≤ min m n), (hs0 h0).symm⟩, (by dsimp only; omega)⟩
    · conv => whnf
      have hU : AllU (castW n vs) := allU_cast hok (by omega)
      have hcv : 1 ≤ (chs n raw).getD v 0 ∧ (chs n raw).getD v 0 ≤ 8 := by omega
      have ewv : IntKind.u64.wrap (v : Int) = v := wrapU (by omega) (by omega)
      have ewc : IntKind.u64.wrap ((chs n raw).getD v 0) = (chs n raw).getD v 0 := wrapU (by omega) (by omega)
      have l5 := apply_cast n1 n2 hln hok (show v < n by omega) hnew hcv
      rw [← hsucc] at l5
      obtain ⟨vs', hvs'⟩ : ∃ vs', vsAt n kk (chs n raw) (i + 1) = vs' := ⟨_, rfl⟩
      rw [hvs'] at l5 hsucc hs0
      have hok' : okV vs' = true := by rw [← hvs']; exact vsAt_ok n kk ho _
      have hln' : vs'.length = n := by rw [← hvs']; exact vsAt_len n kk _ _
      have hU' : AllU (castW n vs') := allU_cast hok' (by omega)
      have hnew' : vs'.getD v 0 ≠ 0 := by rw [hsucc, getD_set, if_pos ⟨rfl, by omega⟩]; exact h0
      refine And.intro (by omega) ?_
      conv => whnf
      rw [ev]
      refine And.intro ⟨hU, by rw [ewv]; exact ⟨by omega, by omega⟩, by rw [ewc]; exact ⟨by omega, by omega⟩⟩ ?_
      rw [ewv, ewc, l5]
      conv => whnf
      repeat' (first | (refine ifB_t (by assumption) ?_; conv => whnf) | (refine ifB_f (by assumption) ?_; conv => whnf) | (refine ifB_dec (fun h => ?_) (fun h => ?_) <;> (first | (exfalso; omega) | (conv => whnf))) | (refine ifB_eq (fun h => ?_) (fun h => ?_) <;> (first | (exfalso; omega) | (conv => whnf))) | (refine ifB_ne (fun h => ?_) (fun h => ?_) <;> (first | (exfalso; omega) | (conv => whnf))) | (refine ifB_not ?_; conv => whnf) | (refine ifB_and ?_; conv => whnf) | (refine ifB_or ?_; conv => whnf) | (refine And.intro ?_ ?_; (first | omega | assumption | (exact allU_getD (by assumption) _) | (simp only [cutL]; omega) | (refine And.intro ?_ ?_ <;> first | assumption | exact allU_getD (by assumption) _) | (simp only [cutL, IntKind.wrap_u64, IntKind.wrap_i64] at *; omega) | decide); conv => whnf) | (refine ifB_mk (fun h => ?_) (fun h => ?_) <;> (conv => whnf)))
      · rw [wsucc (n := min m n) (by omega) (by omega)]
        exact ⟨(i + 1, vs'), [(324, 156)], ⟨rfl, rfl, rfl⟩, ⟨(by omega : i + 1 ≤ min m n), hvs'.symm⟩, (by dsimp only; omega)⟩
      · have h2 : ¬ (i : Int) ≥ ma := h
        have hgi : I64 (again.getD i 0) := hg.at (by omega)
        have eg : again.getD (0 + (i : Int).toNat * (0 + 1)) 0 = again.getD i 0 := by simp
        obtain ⟨p0, p1⟩ := ipick_bounds (again.getD i 0) (n := 8) (by omega)
        obtain ⟨pp, hpp⟩ := Int.eq_ofNat_of_zero_le p0
        have ewp : IntKind.u64.wrap (1 + IntKind.u64.wrap (pp : Int)) = 1 + (pp : Int) := by rw [wrapU (a := (pp : Int)) (by omega) (by omega), wrapU (by omega) (by omega)]
        have l6 := apply_voted (v := 1 + (pp : Int)) n1 n2 hln' hok' (show v < n by omega) hnew' (by omega)
        refine And.intro ⟨by show I64 (again.getD (0 + (i : Int).toNat * (0 + 1)) 0); rw [eg]; exact hgi, by omega, by omega⟩ ?_
        conv => whnf
        rw [eg, hpp]
        refine And.intro ⟨hU', by rw [ewv]; exact ⟨by omega, by omega⟩, by rw [ewp]; exact ⟨by omega, by omega⟩⟩ ?_
        rw [ewv, ewp, l6]
        conv => whnf
        repeat' (first | (refine ifB_t (by assumption) ?_; conv => whnf) | (refine ifB_f (by assumption) ?_; conv => whnf) | (refine ifB_dec (fun h => ?_) (fun h => ?_) <;> (first | (exfalso; omega) | (conv => whnf))) | (refine ifB_eq (fun h => ?_) (fun h => ?_) <;> (first | (exfalso; omega) | (conv => whnf))) | (refine ifB_ne (fun h => ?_) (fun h => ?_) <;> (first | (exfalso; omega) | (conv => whnf))) | (refine ifB_not ?_; conv => whnf) | (refine ifB_and ?_; conv => whnf) | (refine ifB_or ?_; conv => whnf) | (refine And.intro ?_ ?_; (first | omega | assumption | (exact allU_getD (by assumption) _) | (simp only [cutL]; omega) | (refine And.intro ?_ ?_ <;> first | assumption | exact allU_getD (by assumption) _) | (simp only [cutL, IntKind.wrap_u64, IntKind.wrap_i64] at *; omega) | decide); conv => whnf) | (refine ifB_mk (fun h => ?_) (fun h => ?_) <;> (conv => whnf)))
        all_goals first | (exact absurd rfl h) | (rw [wsucc (n := min m n) (by omega) (by omega)]; exact ⟨(i + 1, vs'), [(324, 156)], ⟨rfl, rfl, rfl⟩, ⟨(by omega : i + 1 ≤ min m n), hvs'.symm⟩, (by dsimp only; omega)⟩)
  · have e : i = (chs n raw).length := by omega
    conv => whnf
    rw [hvs, e, vsAt_all _ _ _ (by omega), castW_pad]
    exact congrArg (fun b => T.v (Value.bool b)) (by simp)
end Go.Proofs.YtlcpcgdecodjfaaDoor
