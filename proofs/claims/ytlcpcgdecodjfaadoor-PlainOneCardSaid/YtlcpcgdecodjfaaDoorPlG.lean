/- plain laws: ballots. -/
import Derived.Test.YtlcpcgdecodjfaaDoorPlF
namespace Go.Proofs.YtlcpcgdecodjfaaDoor
open Go.RowKit Go.Proofs.YtlcpcgdecodjfaaDoor.Am
set_option linter.unusedVariables false
set_option linter.unusedSimpArgs false

def pad (n : Nat) (l : List Int) : List Int := l ++ List.replicate (n - l.length) 0
theorem pad_len {n : Nat} {l : List Int} (h : l.length ≤ n) : (pad n l).length = n := by simp [pad]; omega
theorem pad_getD (n : Nat) (l : List Int) (q : Nat) : (pad n l).getD q 0 = l.getD q 0 := by
  unfold pad
  by_cases h : q < l.length
  · simp [List.getD, List.getElem?_append, h]
  · have h2 : l[q]? = none := List.getElem?_eq_none (by omega)
    by_cases h3 : q - l.length < n - l.length
    · simp [List.getD, List.getElem?_append, h, h2, List.getElem?_replicate, h3]
    · simp [List.getD, List.getElem?_append, h, h2, List.getElem?_replicate, h3]
theorem cnt_pad (n : Nat) (l : List Int) {k : Int} (hk : k ≠ 0) : cnt (pad n l) k = cnt l k := by
  unfold cnt pad
  rw [List.count_append, List.count_replicate]
  simp [Ne.symm hk]
theorem castW_pad (n : Nat) (l : List Int) : castW n (pad n l) = castW n l := by
  refine getD_ext (by simp [castW_len]) fun q hq => ?_
  rw [castW_len] at hq
  rw [castW_getD n _ hq, castW_getD n _ hq, pad_getD]
  by_cases q0 : q = 0
  · rw [if_pos q0, if_pos q0]
  rw [if_neg q0, if_neg q0]
  by_cases q1 : q ≤ n
  · rw [if_pos q1, if_pos q1]
  · rw [if_neg q1, if_neg q1, cnt_pad n l (by omega)]
theorem pad_snoc {n : Nat} {l : List Int} (v : Int) (h : l.length < n) : pad n (l ++ [v]) = (pad n l).set l.length v := by
  refine getD_ext (by simp [pad]; omega) fun q hq => ?_
  rw [pad_getD, getD_snoc, getD_set, pad_getD, pad_len (by omega)]
  rw [pad_len (by simp; omega)] at hq
  by_cases h2 : q = l.length
  · rw [if_pos h2, if_pos ⟨h2.symm, hq⟩]
  · rw [if_neg h2, if_neg (fun h3 => h2 h3.1.symm)]
theorem castW_votes {n : Nat} {vs : List Int} (h : vs.length = n) : votesW n (castW n vs) = vs := by
  refine getD_ext (by simp [votesW, castW_len]; omega) fun q hq => ?_
  have hq : q < n := by simp [votesW, castW_len] at hq; omega
  have e : (votesW n (castW n vs)).getD q 0 = (castW n vs).getD (1 + q) 0 := by
    unfold votesW
    rw [List.getD_eq_getElem?_getD, List.getD_eq_getElem?_getD, List.getElem?_take_of_lt hq, List.getElem?_drop]
  rw [e, castW_getD n _ (by omega), if_neg (by omega), if_pos (by omega)]
  congr 1; omega
theorem castW_told {n : Nat} {vs : List Int} (h : vs.length = n) : toldW n (castW n vs) = (tally9 vs).drop 1 := by
  refine getD_ext (by simp [toldW, castW_len, tally9]; omega) fun q hq => ?_
  simp [toldW, castW_len] at hq
  have e : (toldW n (castW n vs)).getD q 0 = (castW n vs).getD (1 + n + q) 0 := by simp [toldW, List.getD]
  rw [e, castW_getD n _ (by omega), if_neg (by omega), if_neg (by omega)]
  have : q = 0 ∨ q = 1 ∨ q = 2 ∨ q = 3 ∨ q = 4 ∨ q = 5 ∨ q = 6 ∨ q = 7 := by omega
  rcases this with rfl | rfl | rfl | rfl | rfl | rfl | rfl | rfl <;> simp [tally9] <;> (congr 1; omega)
theorem castW_head (n : Nat) (vs : List Int) : (castW n vs).getD 0 0 = 0 := by rw [castW_getD n _ (by omega), if_pos rfl]
theorem okV_le {vs : List Int} (h : okV vs = true) : allLe vs = true := by
  unfold okV at h; unfold allLe
  rw [List.all_eq_true] at h ⊢
  intro x hx
  have := of_decide_eq_true (h x hx)
  exact decide_eq_true this.2
theorem rightB_cast {n : Nat} {vs : List Int} (h : vs.length = n) (ho : okV vs = true) : rightB n (castW n vs) = true := by
  unfold rightB
  rw [castW_votes h, castW_told h, castW_head, okV_le ho]
  simp
theorem set_drop1 (w : List Int) (v : Int) : (w.set 0 v).drop 1 = w.drop 1 := by cases w <;> rfl
theorem votesW_set0 (n : Nat) (w : List Int) (v : Int) : votesW n (w.set 0 v) = votesW n w := by unfold votesW; rw [set_drop1]
theorem toldW_set0 (n : Nat) (w : List Int) (v : Int) : toldW n (w.set 0 v) = toldW n w := by
  unfold toldW; rw [← List.drop_drop, ← List.drop_drop, set_drop1]
theorem rightB_close {n : Nat} {vs : List Int} (h : vs.length = n) (ho : okV vs = true) : rightB n ((castW n vs).set 0 1) = true := by
  unfold rightB
  rw [votesW_set0, toldW_set0, castW_votes h, castW_told h, okV_le ho, getD_set, if_pos ⟨rfl, by rw [castW_len]; omega⟩]
  simp
theorem fits5 {n : Nat} (h1 : 1 ≤ n) (h2 : n ≤ 256) : fitsB 5 1 n = true := decide_eq_true ⟨by omega, by omega, by omega, by omega, by omega, by omega⟩
theorem cast_ok {n : Nat} {l : List Int} (h1 : 1 ≤ n) (h2 : n ≤ 256) (hl : l.length ≤ n) (ho : okV l = true) : castS 5 1 n l = (castW n l, 0) := by
  unfold castS; rw [if_pos ⟨fits5 h1 h2, rfl⟩, if_pos (by omega), if_pos ho]; rfl
/-- How many votes each choice has. -/
def talL (l : List Int) : List Int := [0, cnt l 1, cnt l 2, cnt l 3, cnt l 4, cnt l 5, cnt l 6, cnt l 7, cnt l 8]
def win (l : List Int) : Nat := bestN (talL l) 9
theorem tal_ok {l : List Int} (h : okV l = true) : tal l = talL l := by simp [tal, talL, tl, okV_le h]
theorem win_cast {n : Nat} {vs : List Int} (h1 : 1 ≤ n) (h2 : n ≤ 256) (h : vs.length = n) (ho : okV vs = true) : winS 5 1 n (castW n vs) = (((win vs : Nat) : Int), (0 : Int)) := by
  unfold winS
  rw [if_pos ⟨fits5 h1 h2, rfl⟩, Int.toNat_natCast, if_pos ⟨by rw [castW_len]; omega, rightB_cast h ho⟩, castW_votes h, tal_ok ho]; rfl
theorem win_close {n : Nat} {vs : List Int} (h1 : 1 ≤ n) (h2 : n ≤ 256) (h : vs.length = n) (ho : okV vs = true) : winS 5 1 n ((castW n vs).set 0 1) = (((win vs : Nat) : Int), (0 : Int)) := by
  unfold winS
  rw [if_pos ⟨fits5 h1 h2, rfl⟩, Int.toNat_natCast, if_pos ⟨by rw [List.length_set, castW_len]; omega, rightB_close h ho⟩, votesW_set0, castW_votes h, tal_ok ho]; rfl
theorem apply5 {n : Nat} {w : List Int} (h1 : 1 ≤ n) (h2 : n ≤ 256) (hl : w.length = n + 9) (hr : rightB n w = true) (code key v : Int) : applyS 5 1 n w code key v = ((balDo n w code key v).1, (balDo n w code key v).2.1, (balDo n w code key v).2.2, 0) := by
  unfold applyS
  rw [if_pos ⟨fits5 h1 h2, .inr rfl⟩, if_pos (by rw [hl]; show _ = 9 + (n : Int); omega), if_neg (by omega), Int.toNat_natCast, if_pos hr]
theorem apply_close {n : Nat} {vs : List Int} (h1 : 1 ≤ n) (h2 : n ≤ 256) (h : vs.length = n) (ho : okV vs = true) : applyS 5 1 n (castW n vs) 13 0 0 = ((castW n vs).set 0 1, 0, 1, 0) := by
  rw [apply5 h1 h2 (castW_len _ _) (rightB_cast h ho)]
  have e : balDo n (castW n vs) 13 0 0 = ((castW n vs).set 0 1, 0, 1) := by
    unfold balDo; rw [if_neg (by omega), if_pos rfl, castW_head]; rfl
  rw [e]
theorem cnt_set {vs : List Int} {k : Nat} {v j : Int} (hk : k < vs.length) (h0 : vs.getD k 0 = 0) (hj : j ≠ 0) : cnt (vs.set k v) j = cnt vs j + if v = j then 1 else 0 := by
  unfold cnt
  have h0' : vs[k] = 0 := by simpa [List.getD, hk] using h0
  rw [List.count_set hk, h0']
  by_cases h : v = j
  · simp [h, Ne.symm hj]
  · simp [h, Ne.symm hj]
theorem castW_set {n : Nat} {vs : List Int} {k : Nat} {v : Int} (hn : n ≤ 1000) (h : vs.length = n) (hk : k < n) (h0 : vs.getD k 0 = 0) (h1 : 1 ≤ v) (h8 : v ≤ 8) :
    ((castW n vs).set (1 + k) v).set (n + v.toNat) (IntKind.u64.wrap ((castW n vs).getD (n + v.toNat) 0 + 1)) = castW n (vs.set k v) := by
  refine getD_ext (by simp [castW_len]) fun q hq => ?_
  simp only [List.length_set, castW_len] at hq
  simp only [getD_set, List.length_set, castW_len]
  rw [castW_getD n _ hq, castW_getD n _ hq, castW_getD n _ (by omega), getD_set]
  have hc := cnt_le vs ((n + v.toNat - n : Nat) : Int)
  rw [if_neg (by omega : ¬ n + v.toNat = 0), if_neg (by omega : ¬ n + v.toNat ≤ n), wrapU (by omega) (by omega)]
  by_cases q0 : q = 0
  · subst q0; simp; omega
  rw [if_neg q0, if_neg q0]
  by_cases q1 : q ≤ n
  · rw [if_neg (by omega), if_pos q1, if_pos q1]
    by_cases q2 : 1 + k = q
    · rw [if_pos ⟨q2, hq⟩, if_pos ⟨by omega, by omega⟩]
    · rw [if_neg (fun h => q2 h.1), if_neg (by omega)]
  · rw [if_neg q1, if_neg q1, cnt_set (by omega) h0 (by omega)]
    by_cases q2 : n + v.toNat = q
    · subst q2; rw [if_pos ⟨rfl, hq⟩, if_pos (by omega)]
    · rw [if_neg (fun h => q2 h.1), if_neg (by omega), if_neg (by omega)]; omega
theorem apply_cast {n : Nat} {vs : List Int} {k : Nat} {v : Int} (h1 : 1 ≤ n) (h2 : n ≤ 256) (h : vs.length = n) (ho : okV vs = true) (hk : k < n) (h0 : vs.getD k 0 = 0) (hv : 1 ≤ v ∧ v ≤ 8) :
    applyS 5 1 n (castW n vs) 12 k v = (castW n (vs.set k v), 0, 0, 0) := by
  rw [apply5 h1 h2 (castW_len _ _) (rightB_cast h ho)]
  have e : balDo n (castW n vs) 12 k v = (castW n (vs.set k v), 0, 0) := by
    unfold balDo
    rw [if_pos rfl, if_pos ⟨by omega, hv⟩, if_neg (by rw [castW_head]; omega), Int.toNat_natCast, if_pos (by rw [castW_getD n _ (by omega), if_neg (by omega), if_pos (by omega)]; rw [show 1 + k - 1 = k by omega]; exact h0), castW_set (by omega) h hk h0 hv.1 hv.2]
  rw [e]
theorem apply_voted {n : Nat} {vs : List Int} {k : Nat} {v : Int} (h1 : 1 ≤ n) (h2 : n ≤ 256) (h : vs.length = n) (ho : okV vs = true) (hk : k < n) (h0 : vs.getD k 0 ≠ 0) (hv : 1 ≤ v ∧ v ≤ 8) :
    applyS 5 1 n (castW n vs) 12 k v = (castW n vs, 13, 0, 0) := by
  rw [apply5 h1 h2 (castW_len _ _) (rightB_cast h ho)]
  have e : balDo n (castW n vs) 12 k v = (castW n vs, 13, 0) := by
    unfold balDo
    rw [if_pos rfl, if_pos ⟨by omega, hv⟩, if_neg (by rw [castW_head]; omega), Int.toNat_natCast, if_neg (by rw [castW_getD n _ (by omega), if_neg (by omega), if_pos (by omega)]; rw [show 1 + k - 1 = k by omega]; exact h0)]
  rw [e]
theorem apply_closed {n : Nat} {vs : List Int} {k : Nat} {v : Int} (h1 : 1 ≤ n) (h2 : n ≤ 256) (h : vs.length = n) (ho : okV vs = true) (hk : k < n) (hv : 1 ≤ v ∧ v ≤ 8) :
    applyS 5 1 n ((castW n vs).set 0 1) 12 k v = ((castW n vs).set 0 1, 14, 0, 0) := by
  rw [apply5 h1 h2 (by rw [List.length_set, castW_len]) (rightB_close h ho)]
  have e : balDo n ((castW n vs).set 0 1) 12 k v = ((castW n vs).set 0 1, 14, 0) := by
    unfold balDo
    rw [if_pos rfl, if_pos ⟨by omega, hv⟩, if_pos (by rw [getD_set, if_pos ⟨rfl, by rw [castW_len]; omega⟩])]
  rw [e]
/-! ### the winner -/
theorem bestN_best (t : List Int) (i : Nat) : ∀ q, q < i → t.getD q 0 ≤ t.getD (bestN t i) 0 ∧ (q < bestN t i → t.getD q 0 < t.getD (bestN t i) 0) := by
  induction i with
  | zero => intro q hq; omega
  | succ i ih =>
    intro q hq
    simp only [bestN]
    split
    · rename_i h
      by_cases hqi : q = i
      · subst hqi; exact ⟨by omega, fun h => by omega⟩
      · have := (ih q (by omega)).1; exact ⟨by omega, fun _ => by omega⟩
    · rename_i h
      by_cases hqi : q = i
      · subst hqi
        refine ⟨by omega, fun h2 => ?_⟩
        by_cases h0 : q = 0
        · subst h0; simp [bestN] at h2
        · have := bestN_lt t q (by omega); omega
      · exact ih q (by omega)
theorem bestN_is {t : List Int} {i b : Nat} (hb : b < i) (h : ∀ q, q < i → t.getD q 0 ≤ t.getD b 0 ∧ (q < b → t.getD q 0 < t.getD b 0)) : bestN t i = b := by
  have h1 := bestN_best t i b hb
  have hl := bestN_lt t i (by omega)
  have h2 := h (bestN t i) hl
  by_cases e : bestN t i = b
  · exact e
  · by_cases e2 : b < bestN t i
    · have := h1.2 e2; omega
    · have := h2.2 (by omega); omega
theorem win_lt (l : List Int) : win l < 9 := bestN_lt _ 9 (by omega)
theorem talL_getD (l : List Int) {q : Nat} (h1 : 1 ≤ q) (h8 : q < 9) : (talL l).getD q 0 = cnt l q := by
  have : q = 1 ∨ q = 2 ∨ q = 3 ∨ q = 4 ∨ q = 5 ∨ q = 6 ∨ q = 7 ∨ q = 8 := by omega
  rcases this with rfl | rfl | rfl | rfl | rfl | rfl | rfl | rfl <;> rfl
theorem win_more {vs : List Int} {k : Nat} (hk : k < vs.length) (h0 : vs.getD k 0 = 0) (hw : win vs ≠ 0) : win (vs.set k (win vs)) = win vs := by
  have hl := win_lt vs
  have hb := bestN_best (talL vs) 9
  have g : ∀ q, 1 ≤ q → q < 9 → (talL (vs.set k (win vs))).getD q 0 = (talL vs).getD q 0 + if win vs = q then 1 else 0 := by
    intro q q1 q8
    rw [talL_getD _ q1 q8, talL_getD _ q1 q8, cnt_set hk h0 (by omega)]
    by_cases h : win vs = q
    · rw [if_pos h, if_pos (by omega)]
    · rw [if_neg h, if_neg (by omega)]
  refine bestN_is hl fun q hq => ?_
  have := hb q hq
  change (talL vs).getD q 0 ≤ (talL vs).getD (win vs) 0 ∧ (q < win vs → (talL vs).getD q 0 < (talL vs).getD (win vs) 0) at this
  rw [g (win vs) (by omega) hl, if_pos rfl]
  by_cases q0 : q = 0
  · subst q0
    have e1 : (talL (vs.set k (win vs))).getD 0 0 = 0 := rfl
    have e2 : (talL vs).getD 0 0 = 0 := rfl
    rw [e1]; rw [e2] at this; exact ⟨by omega, fun _ => by omega⟩
  · rw [g q (by omega) hq]
    by_cases e : win vs = q
    · rw [if_pos e, e]; exact ⟨by omega, fun h => by omega⟩
    · rw [if_neg e]; exact ⟨by omega, fun h => by have := this.2 h; omega⟩
theorem okV_set {vs : List Int} {k : Nat} {v : Int} (h : okV vs = true) (h1 : 0 ≤ v ∧ v ≤ 8) : okV (vs.set k v) = true := by
  unfold okV at h ⊢
  rw [List.all_eq_true] at h ⊢
  intro x hx
  rcases List.mem_or_eq_of_mem_set hx with h2 | rfl
  · exact h x h2
  · exact decide_eq_true h1
theorem okV_pad {n : Nat} {l : List Int} (h : okV l = true) : okV (pad n l) = true := by
  unfold okV pad at *
  rw [List.all_append, h, Bool.true_and, List.all_eq_true]
  intro x hx
  have := List.eq_of_mem_replicate hx
  subst this; rfl
theorem okV_chs (c : Int) (xs : List Int) : okV (chs c xs) = true := by
  unfold okV chs
  rw [List.all_eq_true]
  intro x hx
  obtain ⟨y, _, rfl⟩ := List.mem_map.1 hx
  have := ipick_bounds y (n := 9) (by omega)
  exact decide_eq_true (by omega)
theorem talL_pad (n : Nat) (l : List Int) : talL (pad n l) = talL l := by
  unfold talL; simp only [cnt_pad n l (k := 1) (by omega), cnt_pad n l (k := 2) (by omega), cnt_pad n l (k := 3) (by omega), cnt_pad n l (k := 4) (by omega), cnt_pad n l (k := 5) (by omega), cnt_pad n l (k := 6) (by omega), cnt_pad n l (k := 7) (by omega), cnt_pad n l (k := 8) (by omega)]
theorem win_pad (n : Nat) (l : List Int) : win (pad n l) = win l := by unfold win; rw [talL_pad]
theorem win_best (l : List Int) (q : Nat) (hq : q < 9) : (talL l).getD q 0 ≤ (talL l).getD (win l) 0 ∧ (q < win l → (talL l).getD q 0 < (talL l).getD (win l) 0) := bestN_best (talL l) 9 q hq
theorem okV_getD {l : List Int} (h : okV l = true) (j : Nat) : 0 ≤ l.getD j 0 ∧ l.getD j 0 ≤ 8 := by
  by_cases hj : j < l.length
  · unfold okV at h
    rw [List.all_eq_true] at h
    have e : l.getD j 0 = l[j] := by simp [List.getD, hj]
    rw [e]; exact of_decide_eq_true (h _ (List.getElem_mem hj))
  · have e : l.getD j 0 = 0 := by simp [List.getD, List.getElem?_eq_none (Nat.le_of_not_lt hj)]
    rw [e]; omega
theorem tally_stepI (ys : List Int) (v : Int) (h0 : 0 ≤ v) (h8 : v ≤ 8) (hl : ys.length ≤ 1000) : (tally9 ys).set v.toNat (IntKind.i64.wrap ((tally9 ys).getD v.toNat 0 + 1)) = tally9 (ys ++ [v]) := by
  have hw : ∀ k, IntKind.i64.wrap (cnt ys k + 1) = cnt ys k + 1 := fun k => by have := cnt_le ys k; exact wrap64 (by omega) (by omega)
  have : v = 0 ∨ v = 1 ∨ v = 2 ∨ v = 3 ∨ v = 4 ∨ v = 5 ∨ v = 6 ∨ v = 7 ∨ v = 8 := by omega
  rcases this with rfl | rfl | rfl | rfl | rfl | rfl | rfl | rfl | rfl <;> simp [tally9, cnt_snoc, hw]
theorem allU_cast {n : Nat} {vs : List Int} (ho : okV vs = true) (hl : vs.length ≤ 256) : AllU (castW n vs) := by
  intro x hx
  unfold castW at hx
  obtain ⟨q, _, rfl⟩ := List.mem_map.1 hx
  have hc := cnt_le vs ((q - n : Nat) : Int)
  have hg : 0 ≤ vs.getD (q - 1) 0 ∧ vs.getD (q - 1) 0 ≤ 8 := by
    by_cases h : q - 1 < vs.length
    · unfold okV at ho
      rw [List.all_eq_true] at ho
      have e : vs.getD (q - 1) 0 = vs[q - 1] := by simp [List.getD, h]
      rw [e]; exact of_decide_eq_true (ho _ (List.getElem_mem h))
    · have e : vs.getD (q - 1) 0 = 0 := by simp [List.getD, List.getElem?_eq_none (Nat.le_of_not_lt h)]
      rw [e]; omega
  split
  · exact ⟨by omega, by omega⟩
  · split
    · exact ⟨by omega, by omega⟩
    · exact ⟨by omega, by omega⟩
end Go.Proofs.YtlcpcgdecodjfaaDoor
