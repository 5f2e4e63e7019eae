/- The walk of plain.Cast. -/
import Derived.Test.YtpjohbnnjhkjoaaDoorPlainW2
namespace Go.Proofs.YtpjohbnnjhkjoaaDoor
open Go.RowKit
set_option linter.unusedVariables false
set_option linter.unusedSimpArgs false

/-- A ballot's words, by their places. -/
def bwAt (n : Nat) (ys : List Int) (cl : Int) (i : Nat) : Int := if i = 0 then cl else if i ≤ n then ys.getD (i - 1) 0 else tally ys (i - n)
def ballotWords (n : Nat) (ys : List Int) (cl : Int) : List Int := (List.range (n + 9)).map (bwAt n ys cl)
theorem ballotWords_length (n : Nat) (ys : List Int) (cl : Int) : (ballotWords n ys cl).length = n + 9 := by simp [ballotWords]
theorem ballotWords_at (n : Nat) (ys : List Int) (cl : Int) (i : Nat) (h : i < n + 9) : (ballotWords n ys cl).getD i 0 = bwAt n ys cl i := by
  unfold ballotWords
  rw [List.getD_eq_getElem?_getD, List.getElem?_map, List.getElem?_range h]; rfl
def okChoices (ys : List Int) : Bool := ys.all fun y => decide (0 ≤ y ∧ y ≤ 8)
/-- Block g holds the numbers that f tells, and may be written. -/
def RowF (w : World) (base g len : Nat) (f : Nat → Int) : Prop := base ≤ g ∧ g < w.heap.size ∧ ∀ i, i < len → w.cell? ⟨g, i, none⟩ = some (.int .u64 (f i)) ∧ w.frozen? ⟨g, i, none⟩ = false
theorem RowF.set {w : World} {base g len : Nat} {f : Nat → Int} (h : RowF w base g len f) {j : Nat} (x : Int) {f' : Nat → Int} (hj : j < len) (hf : ∀ i, i < len → f' i = if i = j then x else f i) : RowF (w.setCell ⟨g, j, none⟩ (.int .u64 x)) base g len f' := by
  refine ⟨h.1, by simpa [World.setCell] using h.2.1, fun i hi => ⟨?_, by rw [World.frozen?_setCell]; exact (h.2.2 i hi).2⟩⟩
  rw [hf i hi]
  by_cases e : i = j
  · subst e; rw [if_pos rfl]; exact cell_set_same (h.2.2 i hi).1
  · rw [if_neg e]; exact (cell_set_other (by intro q; injection q; omega)).trans (h.2.2 i hi).1
theorem RowF.below {w w' : World} {base g len B : Nat} {f : Nat → Int} (h : RowF w base g len f) (hb : Below B w w') (hB : g < B) : RowF w' base g len f :=
  ⟨h.1, Nat.lt_of_lt_of_le h.2.1 hb.size, fun i hi => ⟨(hb.cell (p := ⟨g, i, none⟩) hB).trans (h.2.2 i hi).1, (hb.frozen (p := ⟨g, i, none⟩) hB).trans (h.2.2 i hi).2⟩⟩
theorem RowF.sl {w : World} {base g len : Nat} {f : Nat → Int} (h : RowF w base g len f) {xs : List Int} (hl : xs.length = len) (hx : ∀ i, i < len → xs.getD i 0 = f i) : SlI .u64 w (some ⟨g, 0, none⟩) len xs :=
  ⟨hl, .inr ⟨g, 0, rfl, h.2.1, fun i hi => by rw [Nat.zero_add, hx i hi]; exact (h.2.2 i hi).1⟩⟩

theorem made_at (n j : Nat) (h : j < n) : (madeCells #[Value.int .u64 0] n).toList[j]? = some (.int .u64 0) := by
  rw [Array.getElem?_toList]
  unfold madeCells
  rw [Array.getElem?_map, Array.getElem?_range, if_pos h]
  simp [Nat.mod_one]
theorem RowF.made {w : World} {base g n : Nat} {e : TypeId} (h : w.ownsRow base e 1 (.slice (some ⟨g, 0, none⟩) n n) n (madeCells #[Value.int .u64 0] n).toList) : RowF w base g n (fun _ => 0) :=
  ⟨(h.lt g rfl).1, (h.lt g rfl).2, fun i hi => ⟨by rw [h.cellAt i (by omega), made_at n i hi], h.frozenAt i⟩⟩

theorem getD_app_l {l m : List Int} {i : Nat} (h : i < l.length) : (l ++ m).getD i 0 = l.getD i 0 := by
  rw [List.getD_eq_getElem?_getD, List.getD_eq_getElem?_getD, List.getElem?_append_left h]
theorem getD_app_r {l m : List Int} {i : Nat} (h : l.length ≤ i) : (l ++ m).getD i 0 = m.getD (i - l.length) 0 := by
  rw [List.getD_eq_getElem?_getD, List.getD_eq_getElem?_getD, List.getElem?_append_right h]
theorem bw_vote {n k : Nat} {ys : List Int} {v : Int} (hk : k < ys.length) (hn : ys.length ≤ n) (hv : ys.getD k 0 = v) (h0 : v = 0) :
    ∀ i, i < n + 9 → bwAt n (ys.take (k + 1)) 0 i = if i = 1 + k then v else bwAt n (ys.take k) 0 i := by
  intro i hi
  have hl : (ys.take k).length = k := by rw [List.length_take]; omega
  rw [take_succ_getD hk, hv]
  unfold bwAt
  by_cases e0 : i = 0
  · rw [if_pos e0, if_neg (by omega), if_pos e0]
  · rw [if_neg e0, if_neg e0]
    by_cases e1 : i ≤ n
    · rw [if_pos e1, if_pos e1]
      by_cases e2 : i = 1 + k
      · rw [if_pos e2, getD_app_r (by omega), hl]
        have : i - 1 - k = 0 := by omega
        rw [this]; rfl
      · rw [if_neg e2]
        rcases Nat.lt_or_ge (i - 1) k with g | g
        · rw [getD_app_l (by omega)]
        · rw [getD_app_r (by omega), hl, List.getD_eq_getElem?_getD, List.getD_eq_getElem?_getD, List.getElem?_eq_none (by simp; omega), List.getElem?_eq_none (by omega)]
    · rw [if_neg e1, if_neg e1, if_neg (by omega), tally_snoc, if_neg (by omega), Int.add_zero]
theorem bw_vote2 {n k U : Nat} {ys : List Int} (hk : k < ys.length) (hn : ys.length ≤ n) (hv : ys.getD k 0 = ((U + 1 : Nat) : Int)) (hU : U < 8) (f : Nat → Int)
    (hf : ∀ i, i < n + 9 → f i = if i = 1 + k then ((U + 1 : Nat) : Int) else bwAt n (ys.take k) 0 i) :
    ∀ i, i < n + 9 → bwAt n (ys.take (k + 1)) 0 i = if i = 1 + n + U then tally (ys.take k) (U + 1) + 1 else f i := by
  intro i hi
  have hl : (ys.take k).length = k := by rw [List.length_take]; omega
  rw [hf i hi, take_succ_getD hk, hv]
  unfold bwAt
  by_cases e0 : i = 0
  · rw [if_pos e0, if_neg (by omega), if_neg (by omega), if_pos e0]
  · rw [if_neg e0, if_neg e0]
    by_cases e1 : i ≤ n
    · rw [if_pos e1, if_pos e1, if_neg (by omega)]
      by_cases e2 : i = 1 + k
      · rw [if_pos e2, getD_app_r (by omega), hl]
        have : i - 1 - k = 0 := by omega
        rw [this]; rfl
      · rw [if_neg e2]
        rcases Nat.lt_or_ge (i - 1) k with g | g
        · rw [getD_app_l (by omega)]
        · rw [getD_app_r (by omega), hl, List.getD_eq_getElem?_getD, List.getD_eq_getElem?_getD, List.getElem?_eq_none (by simp; omega), List.getElem?_eq_none (by omega)]
    · rw [if_neg e1, if_neg e1, tally_snoc]
      by_cases e2 : i = 1 + n + U
      · rw [if_pos e2, if_pos (by omega)]
        have : i - n = U + 1 := by omega
        rw [this]
      · rw [if_neg e2, if_neg (by omega), if_neg (by omega), Int.add_zero]
theorem ok_take {ys : List Int} {k : Nat} (hk : k < ys.length) (h : okChoices (ys.take k) = true) (h0 : 0 ≤ ys.getD k 0) (hv : ys.getD k 0 ≤ 8) : okChoices (ys.take (k + 1)) = true := by
  rw [take_succ_getD hk]; unfold okChoices at *; rw [List.all_append, h]; simpa using ⟨h0, hv⟩
theorem ok_not {ys : List Int} {k : Nat} (hk : k < ys.length) (hv : ¬ (0 ≤ ys.getD k 0 ∧ ys.getD k 0 ≤ 8)) : okChoices ys = false := by
  unfold okChoices
  rw [List.all_eq_false]
  refine ⟨ys.getD k 0, ?_, by rw [decide_eq_true_iff]; exact hv⟩
  rw [List.getD_eq_getElem?_getD, List.getElem?_eq_getElem hk]
  exact List.getElem_mem hk

/-- What Cast tells of a ballot's configuration, and of no more choices than there is room. -/
def CastPost (w : World) (n : Nat) (ys : List Int) (e : Ending) (w' : World) : Prop :=
  ((okChoices ys = true ∧ ∃ g cap, e = .returned (.tuple #[.slice (some ⟨g, 0, none⟩) (n + 9) cap, .int .i64 0]) ∧ n + 9 ≤ cap ∧ (cap : Int) ≤ 9223372036854775807 ∧ RowF w' w.heap.size g (n + 9) (bwAt n ys 0)) ∨
   (okChoices ys = false ∧ e = .returned (.tuple #[.slice none 0 0, .int .i64 1]))) ∧ Below w.heap.size w w'

theorem home_ballot (p : Int) (N : Nat) (hf : fits 5 p N = true) : (if fits 5 p N = true then home 5 N else 0) = ((N + 9 : Nat) : Int) := by
  rw [if_pos hf]; unfold home; simp; omega

set_option maxRecDepth 10000 in
set_option maxHeartbeats 2000000 in
theorem cast_any (p : Int) (N m : Nat) (a : Option Addr) (cap : Nat) (ys : List Int) (w : World) (hf : fits 5 p N = true) (hs : SlI .i64 w a m ys) (hm : m ≤ N) (ho : Objs w) :
    Calls Tryd.prog 17 #[conf 5 p N, .slice a m cap] w (CastPost w N ys) := by
  obtain ⟨_, _, _, _, n1, n2⟩ := of_decide_eq_true hf
  have HS : Hid (SlI .i64 w a m ys) := hs
  have HO : Hid (Objs w) := ho
  have hh : Hid _ := home_ballot p N hf
  have hm' : (m : Int) ≤ N := by omega
  clear hs ho hm
  go_enter Tryd.func17, Tryd.ntmps17
  go_wp2_with (go_at_call 36; refine (fits_any _ _ _ _).mono ?_; rintro e w' ⟨rfl, rfl⟩)
  have hB0 : Below w.heap.size w ((w.alloc (.cells #[.int .i64 5, .int .i64 p, .int .i64 N] 23)).alloc (.cells #[.int .i64 5, .int .i64 p, .int .i64 N] 23)) := ((Below.refl _ _).alloc (Nat.le_refl _) _).alloc (by simp) _
  refine (home_any 5 p N _ (HO.out.below hB0 HO.out.1)).mono ?_
  rintro e w1 ⟨rfl, hb1⟩
  rw [hh.out]
  obtain ⟨hc, hfz⟩ := bcell hb1
  have hz : w.heap.size + 1 < w1.heap.size := by have := hb1.size; simp at this; omega
  have HB1 : Hid (Below w.heap.size w w1) := hB0.trans (hb1.mono (by simp; omega))
  clear hb1 hB0
  obtain ⟨i0, hi, hz0, hz1, hz2⟩ := info_parts info_u64
  go_wp2_with (at_make; go_must (refine wpList_make_full _ rfl _ _ 24 rfl w.heap.size 27 i0 (.int .u64 0) 1 Tryd.underlying24 hi hz0 hz1 .i64 .i64 _ _ (N + 9) rfl rfl rfl rfl ?c1 ?c2 ?c3 ?_))
  case c1 => rw [hz2]; omega
  case c2 => unfold maxLen; omega
  case c3 => omega
  intro w2 hown hgrow
  have hrow := RowF.made hown
  have hB2 : Below w1.heap.size w1 w2 := (Below.refl _ _).grown hgrow (Nat.le_refl _) (by intro k hk; cases hk)
  have HB2 : Hid (Below w.heap.size w w2) := HB1.out.trans (hB2.mono (by omega))
  have hz2' : w1.heap.size < w2.heap.size := hrow.2.1
  have hc2 : ∀ b o, b < w1.heap.size → w2.cell? ⟨b, o, none⟩ = w1.cell? ⟨b, o, none⟩ := (bcell hB2).1
  have k0 : w2.cell? ⟨w.heap.size, 0, none⟩ = some (.int .i64 5) := by rw [hc2 _ _ (by omega), hc _ _ (by simp; omega)]; exact cell_new2 _ _ _ _ _ _ rfl
  have k1 : w2.cell? ⟨w.heap.size, 1, none⟩ = some (.int .i64 p) := by rw [hc2 _ _ (by omega), hc _ _ (by simp; omega)]; exact cell_new2 _ _ _ _ _ _ rfl
  have k2 : w2.cell? ⟨w.heap.size, 2, none⟩ = some (.int .i64 N) := by rw [hc2 _ _ (by omega), hc _ _ (by simp; omega)]; exact cell_new2 _ _ _ _ _ _ rfl
  have HR2 : Hid (RowF w2 w.heap.size w1.heap.size (N + 9) (fun _ => 0)) := hrow
  clear hown hgrow hB2 hc2 hc hfz hrow HB1 hi hz0 hz1 hz2
  generalize w1.heap.size = g at *
  go_wp2_with (go_at_call 38; go_must (refine (parts_any 5 p N g 0 (N + 9) (by omega) (by omega) (by omega) (by omega) _).mono ?_); rintro e w' ⟨rfl, q, rfl⟩)
  obtain ⟨W, hW⟩ : ∃ W, W = (w2.alloc (.cells #[.int .i64 5, .int .i64 p, .int .i64 N] 23)).drewN q := ⟨_, rfl⟩
  have hBW : Below w2.heap.size w2 W := by rw [hW]; exact (Below.one w2 _).trans ((quiet_below ⟨q, rfl⟩ : Below _ _ ((w2.alloc (.cells #[.int .i64 5, .int .i64 p, .int .i64 N] 23)).drewN q)).mono (by simp))
  have HBW : Hid (Below w.heap.size w W) := HB2.out.trans (hBW.mono HB2.out.size)
  have HRW : Hid (RowF W w.heap.size g (N + 9) (fun _ => 0)) := HR2.out.below hBW hz2'
  rw [← hW]
  clear hW hBW HR2 HB2 k0 k1 k2 hz hz2'
  have HZ : Hid (∀ i, i < N + 9 → bwAt N (ys.take 0) 0 i = 0) := by
    intro i hi
    unfold bwAt
    simp [tally_nil]
  have hlen : Hid (ys.length = m) := HS.out.1
  have hmN : Hid (ys.length ≤ N) := by show _ ≤ _; rw [hlen.out]; omega
  go_loopw [37] (fun i wr => ∃ k : Nat, i = .int .i64 k ∧ k ≤ m ∧ Hid (okChoices (ys.take k) = true) ∧ Hid (RowF wr w.heap.size g (N + 9) (bwAt N (ys.take k) 0)) ∧ Hid (Below w.heap.size w wr)) (fun i _ => (m - intOf i).toNat)
  case atStart => exact ⟨0, rfl, Nat.zero_le _, rfl, ⟨HRW.out.1, HRW.out.2.1, fun i hi => by rw [HZ.out i hi]; exact HRW.out.2.2 i hi⟩, HBW.out⟩
  case round =>
    obtain ⟨k, rfl, hk, HM, HN, HR⟩ := hrel
    by_cases hlt : (k : Int) < m
    · obtain ⟨b, off, rfl, hb, hc⟩ := HS.out.2.resolve_left (by omega)
      have hck := (HR.out.cell (p := ⟨b, off + k, none⟩) hb).trans (hc k (by omega))
      have hkl : Hid (k < ys.length) := by show _ < _; rw [hlen.out]; omega
      have hBad : Hid (¬ (0 ≤ ys.getD k 0 ∧ ys.getD k 0 ≤ 8) → okChoices ys = false) := ok_not hkl.out
      have hOk : Hid (0 ≤ ys.getD k 0 → ys.getD k 0 ≤ 8 → okChoices (ys.take (k + 1)) = true) := ok_take hkl.out HM.out
      have hV1 : Hid (∀ v, ys.getD k 0 = v → v = 0 → ∀ i, i < N + 9 → bwAt N (ys.take (k + 1)) 0 i = if i = 1 + k then v else bwAt N (ys.take k) 0 i) := fun v => bw_vote hkl.out hmN.out
      have hV2 : Hid (∀ U : Nat, ys.getD k 0 = ((U + 1 : Nat) : Int) → U < 8 → ∀ f : Nat → Int, (∀ i, i < N + 9 → f i = if i = 1 + k then ((U + 1 : Nat) : Int) else bwAt N (ys.take k) 0 i) →
        ∀ i, i < N + 9 → bwAt N (ys.take (k + 1)) 0 i = if i = 1 + N + U then tally (ys.take k) (U + 1) + 1 else f i) := fun U => bw_vote2 hkl.out hmN.out
      clear hc
      generalize ys.getD k 0 = v at *
      by_cases hv : 0 ≤ v ∧ v ≤ 8
      · obtain ⟨v0, v8⟩ := hv
        obtain ⟨V, rfl⟩ := Int.eq_ofNat_of_zero_le v0
        have hkN : (k : Int) < N := by omega
        have hkN2 : k < N := by omega
        have s1 := HN.out.2.2 (1 + k) (by omega)
        obtain ⟨s1, s2⟩ := s1
        cases V with
        | zero =>
          have HRN : Hid (RowF (wr.setCell ⟨g, 1 + k, none⟩ (.int .u64 0)) w.heap.size g (N + 9) (bwAt N (ys.take (k + 1)) 0)) := HN.out.set 0 (by omega) (hV1.out _ rfl rfl)
          have HOK : Hid _ := hOk.out v0 v8
          clear hV1 hV2 hBad hOk
          go_wp2_with fail
          go_roundw
          case rel => exact ⟨k + 1, by go_num, by omega, HOK.out, HRN.out, HR.out.setCell HRN.out.1 _⟩
          case measure => simp [intOf]; omega
        | succ U =>
          have hU : U < 8 := by omega
          have s3 := HN.out.2.2 (1 + N + U) (by omega)
          obtain ⟨s3, s4⟩ := s3
          have et : bwAt N (ys.take k) 0 (1 + N + U) = tally (ys.take k) (U + 1) := by
            unfold bwAt
            rw [if_neg (by omega), if_neg (by omega)]
            congr 1; omega
          rw [et] at s3
          have hset := HN.out.set (j := 1 + k) ((U + 1 : Nat) : Int) (f' := fun i => if i = 1 + k then ((U + 1 : Nat) : Int) else bwAt N (ys.take k) 0 i) (by omega) (fun _ _ => rfl)
          have HRN : Hid (RowF ((wr.setCell ⟨g, 1 + k, none⟩ (.int .u64 ((U + 1 : Nat) : Int))).setCell ⟨g, 1 + N + U, none⟩ (.int .u64 (tally (ys.take k) (U + 1) + 1))) w.heap.size g (N + 9) (bwAt N (ys.take (k + 1)) 0)) :=
            hset.set _ (by omega) (hV2.out U rfl hU _ (fun _ _ => rfl))
          have HOK : Hid _ := hOk.out v0 v8
          have tb := tally_bounds (ys.take k) (U + 1)
          have tl : ((ys.take k).length : Int) ≤ 256 := by
            have := List.length_take_le k ys
            omega
          obtain ⟨tb1, tb2⟩ := tb
          have hne : ¬ 1 + k = 1 + N + U := by omega
          clear hV1 hV2 hBad hOk hset et
          generalize tally (ys.take k) (U + 1) = c at *
          generalize (ys.take k).length = lt at *
          go_wp2_with fail
          go_roundw
          case rel => exact ⟨k + 1, by go_num, by omega, HOK.out, HRN.out, (HR.out.setCell HRN.out.1 _).setCell HRN.out.1 _⟩
          case measure => simp [intOf]; omega
      · have HF : Hid (okChoices ys = false) := hBad.out hv
        clear hV1 hV2 hBad hOk
        by_cases hv0 : v < 0
        · go_wp2_with fail
          go_ret2
          exact ⟨Or.inr ⟨HF.out, rfl⟩, HR.out⟩
        · have hv8 : 8 < v := by omega
          clear hv
          go_wp2_with fail
          go_ret2
          exact ⟨Or.inr ⟨HF.out, rfl⟩, HR.out⟩
    · have HA : Hid (ys.take k = ys) := List.take_of_length_le (by rw [hlen.out]; omega)
      have HM' : Hid (okChoices ys = true) := by have := HM.out; rw [HA.out] at this; exact this
      have HN' : Hid (RowF wr w.heap.size g (N + 9) (bwAt N ys 0)) := by have := HN.out; rw [HA.out] at this; exact this
      go_wp2_with fail
      go_ret2
      exact ⟨Or.inl ⟨HM'.out, g, N + 9, rfl, Nat.le_refl _, by omega, HN'.out⟩, HR.out⟩
end Go.Proofs.YtpjohbnnjhkjoaaDoor
