/- diff: writes, as lists of pairs: what is written last, what is put together. -/
import Derived.Test.YteinekidpokbpaaPrB
namespace Go.Proofs.Yteinekidpokbpaa.DfT
open Go.Proofs.Yteinekidpokbpaa.PrT
set_option linter.unusedVariables false
set_option linter.unusedSimpArgs false
/-- What is written last to a place. -/
def lst (l : List R) (k : Int) : Option Int := l.foldl (fun o w => if w.1 = k then some w.2 else o) none
theorem lst_nil (k : Int) : lst [] k = none := rfl
theorem lst_snoc (l : List R) (w : R) (k : Int) : lst (l ++ [w]) k = if w.1 = k then some w.2 else lst l k := by unfold lst; rw [List.foldl_append]; rfl
theorem snoc_ind {α : Type} {p : List α → Prop} (h0 : p []) (h1 : ∀ l a, p l → p (l ++ [a])) (l : List α) : p l := by
  have : ∀ n, ∀ l : List α, l.length = n → p l := by
    intro n
    induction n with
    | zero => intro l h; rw [List.eq_nil_of_length_eq_zero h]; exact h0
    | succ n ih =>
      intro l h
      have hne : l ≠ [] := fun e => by rw [e] at h; cases h
      rw [← List.dropLast_concat_getLast hne]
      exact h1 _ _ (ih _ (by rw [List.length_dropLast]; omega))
  exact this _ l rfl
theorem gR_app_left (l m : List R) {i : Nat} (h : i < l.length) : gR (l ++ m) i = gR l i := by
  unfold gR; rw [List.getD_eq_getElem?_getD, List.getD_eq_getElem?_getD, List.getElem?_append_left h]
theorem gR_app_at (l : List R) (w : R) : gR (l ++ [w]) l.length = w := by
  unfold gR; rw [List.getD_eq_getElem?_getD, List.getElem?_append_right (Nat.le_refl _), Nat.sub_self]; rfl
theorem kR_app_left (l m : List R) {i : Nat} (h : i < l.length) : kR (l ++ m) i = kR l i := by unfold kR; rw [gR_app_left l m h]
theorem lst_iff (l : List R) : ∀ k v, lst l k = some v ↔ ∃ i, i < l.length ∧ gR l i = (k, v) ∧ ∀ j, i < j → j < l.length → kR l j ≠ k := by
  refine snoc_ind (p := fun l => ∀ k v, lst l k = some v ↔ ∃ i, i < l.length ∧ gR l i = (k, v) ∧ ∀ j, i < j → j < l.length → kR l j ≠ k) ?_ ?_ l
  · intro k v
    exact ⟨fun h => (by cases h), fun ⟨i, h, _⟩ => absurd h (Nat.not_lt_zero _)⟩
  · intro l w ih k v
    rw [lst_snoc]
    by_cases hw : w.1 = k
    · rw [if_pos hw]
      constructor
      · intro h
        refine ⟨l.length, by simp, ?_, fun j h1 h2 => ?_⟩
        · rw [gR_app_at]; cases h; rw [← hw]
        · rw [List.length_append] at h2; simp at h2; omega
      · rintro ⟨i, h1, h2, h3⟩
        rw [List.length_append] at h1 h3
        replace h1 : i < l.length + 1 := h1
        by_cases hi : i < l.length
        · exact absurd (by unfold kR; rw [gR_app_at]; exact hw) (h3 l.length hi (Nat.lt_succ_self _))
        · have : i = l.length := by omega
          rw [this, gR_app_at] at h2
          rw [h2]
    · rw [if_neg hw, ih]
      constructor
      · rintro ⟨i, h1, h2, h3⟩
        refine ⟨i, by rw [List.length_append]; omega, by rw [gR_app_left _ _ h1]; exact h2, fun j hj1 hj2 => ?_⟩
        rw [List.length_append] at hj2
        replace hj2 : j < l.length + 1 := hj2
        by_cases hj : j < l.length
        · rw [kR_app_left _ _ hj]; exact h3 j hj1 hj
        · have : j = l.length := by omega
          rw [this]; unfold kR; rw [gR_app_at]; exact hw
      · rintro ⟨i, h1, h2, h3⟩
        rw [List.length_append] at h1 h3
        replace h1 : i < l.length + 1 := h1
        have hi : i < l.length := by
          rcases Nat.lt_or_ge i l.length with q | q
          · exact q
          · have : i = l.length := by omega
            rw [this, gR_app_at] at h2
            exact absurd (by rw [h2]) hw
        refine ⟨i, hi, by rw [← gR_app_left l [w] hi]; exact h2, fun j hj1 hj2 => ?_⟩
        have := h3 j hj1 (by simp; omega)
        rwa [kR_app_left _ _ hj2] at this
theorem lst_append (l m : List R) (k : Int) : lst (l ++ m) k = (lst m k).or (lst l k) := by
  refine snoc_ind (p := fun m => lst (l ++ m) k = (lst m k).or (lst l k)) ?_ ?_ m
  · rw [List.append_nil, lst_nil]; rfl
  · intro m w ih
    rw [← List.append_assoc, lst_snoc, lst_snoc, ih]
    split <;> rfl
theorem lst_none {l : List R} {k : Int} : lst l k = none ↔ ∀ w ∈ l, w.1 ≠ k := by
  refine snoc_ind (p := fun l => lst l k = none ↔ ∀ w ∈ l, w.1 ≠ k) ?_ ?_ l
  · exact ⟨fun _ w h => (by cases h), fun _ => rfl⟩
  · intro l w ih
    rw [lst_snoc]
    split
    · rename_i h
      exact ⟨fun q => (by cases q), fun q => absurd h (q w (by simp))⟩
    · rename_i h
      rw [ih]
      constructor
      · intro q x hx
        rcases List.mem_append.1 hx with hx | hx
        · exact q x hx
        · rw [List.mem_singleton.1 hx]; exact h
      · intro q x hx; exact q x (List.mem_append_left _ hx)
theorem lst_mem {l : List R} {k v : Int} (h : lst l k = some v) : (k, v) ∈ l := by
  obtain ⟨i, h1, h2, _⟩ := (lst_iff l k v).1 h
  rw [← h2]; exact gR_mem h1
/-- Places that are unlike. -/
abbrev Nd (l : List R) : Prop := l.Pairwise fun a b => a.1 ≠ b.1
theorem lst_nd {l : List R} (h : Nd l) {x : R} (hx : x ∈ l) : lst l x.1 = some x.2 := by
  obtain ⟨i, hi, rfl⟩ := List.getElem_of_mem hx
  refine (lst_iff l _ _).2 ⟨i, hi, ?_, fun j h1 h2 => ?_⟩
  · unfold gR; rw [List.getD_eq_getElem?_getD, List.getElem?_eq_getElem hi]; rfl
  · have := List.pairwise_iff_getElem.1 h i j hi h2 h1
    unfold kR gR
    rw [List.getD_eq_getElem?_getD, List.getElem?_eq_getElem h2]
    exact fun e => this e.symm
theorem lst_nd_iff {l : List R} (h : Nd l) {k v : Int} : lst l k = some v ↔ (k, v) ∈ l := ⟨lst_mem, fun q => lst_nd h q⟩
theorem lst_perm {l m : List R} (h : Nd l) (h' : Nd m) (hm : ∀ x, x ∈ l ↔ x ∈ m) (k : Int) : lst l k = lst m k := by
  cases e : lst m k with
  | none =>
    rw [lst_none] at e ⊢
    exact fun w hw => e w ((hm w).1 hw)
  | some v => rw [lst_nd_iff h, hm, ← lst_nd_iff h']; exact e
/-! ### words that are written -/
def ptL (base : Int) (l : List R) (a : List Int) : List Int := l.foldl (fun o w => o.set (w.1 - base).toNat w.2) a
theorem ptL_snoc (base : Int) (l : List R) (w : R) (a : List Int) : ptL base (l ++ [w]) a = (ptL base l a).set (w.1 - base).toNat w.2 := by unfold ptL; rw [List.foldl_append]; rfl
theorem ptL_len (base : Int) (l : List R) (a : List Int) : (ptL base l a).length = a.length := by
  refine snoc_ind (p := fun l => (ptL base l a).length = a.length) rfl (fun l w ih => ?_) l
  rw [ptL_snoc, List.length_set, ih]
/-- May they be written? -/
def Fit (base : Int) (n : Nat) (l : List R) : Prop := ∀ w ∈ l, base ≤ w.1 ∧ w.1 < base + n
theorem Fit.app {base : Int} {n : Nat} {l m : List R} : Fit base n (l ++ m) ↔ Fit base n l ∧ Fit base n m :=
  ⟨fun h => ⟨fun w hw => h w (List.mem_append_left _ hw), fun w hw => h w (List.mem_append_right _ hw)⟩, fun ⟨h1, h2⟩ w hw => (List.mem_append.1 hw).elim (h1 w) (h2 w)⟩
theorem ptL_get {base : Int} {a : List Int} {i : Nat} (hi : i < a.length) (l : List R) : Fit base a.length l → (ptL base l a).getD i 0 = (lst l (base + i)).getD (a.getD i 0) := by
  refine snoc_ind (p := fun l => Fit base a.length l → (ptL base l a).getD i 0 = (lst l (base + i)).getD (a.getD i 0)) (fun _ => rfl) (fun l w ih h => ?_) l
  obtain ⟨h1, h2⟩ := Fit.app.1 h
  have hw := h2 w (by simp)
  rw [ptL_snoc, lst_snoc, List.getD_eq_getElem?_getD, List.getElem?_set]
  by_cases e : w.1 = base + i
  · rw [if_pos (by omega), if_pos (by rw [ptL_len]; omega), if_pos e]; rfl
  · rw [if_neg (by omega), if_neg e, ← List.getD_eq_getElem?_getD, ih h1]
theorem list_ext {a b : List Int} (hl : a.length = b.length) (h : ∀ i, i < a.length → a.getD i 0 = b.getD i 0) : a = b := by
  refine List.ext_getElem? fun j => ?_
  by_cases hj : j < a.length
  · have := h j hj
    rw [List.getD_eq_getElem?_getD, List.getD_eq_getElem?_getD, List.getElem?_eq_getElem hj, List.getElem?_eq_getElem (by omega)] at this
    rw [List.getElem?_eq_getElem hj, List.getElem?_eq_getElem (by omega)]
    exact congrArg some this
  · rw [List.getElem?_eq_none (by omega), List.getElem?_eq_none (by omega)]
theorem ptL_ext {base : Int} {a : List Int} {l m : List R} (hl : Fit base a.length l) (hm : Fit base a.length m) (h : ∀ i, i < a.length → lst l (base + i) = lst m (base + i)) : ptL base l a = ptL base m a := by
  refine list_ext (by rw [ptL_len, ptL_len]) fun i hi => ?_
  rw [ptL_len] at hi
  rw [ptL_get hi _ hl, ptL_get hi _ hm, h i hi]
theorem ptL_app (base : Int) (l m : List R) (a : List Int) : ptL base (l ++ m) a = ptL base m (ptL base l a) := by unfold ptL; rw [List.foldl_append]
/-! ### what makes words others -/
def dfs (a b : List Int) (base : Int) (n : Nat) : List R := ((List.range n).filter fun i => a.getD i 0 != b.getD i 0).map fun i => (base + (i : Nat), b.getD i 0)
theorem dfs_zero (a b : List Int) (base : Int) : dfs a b base 0 = [] := rfl
theorem dfs_succ (a b : List Int) (base : Int) (n : Nat) : dfs a b base (n + 1) = if a.getD n 0 = b.getD n 0 then dfs a b base n else dfs a b base n ++ [(base + (n : Nat), b.getD n 0)] := by
  unfold dfs
  rw [List.range_succ, List.filter_append, List.map_append]
  split
  · rename_i h; rw [List.filter_cons_of_neg (by simpa using h)]; simp
  · rename_i h; rw [List.filter_cons_of_pos (by simpa using h)]; rfl
theorem dfs_len_le (a b : List Int) (base : Int) (n : Nat) : (dfs a b base n).length ≤ n := by
  unfold dfs; rw [List.length_map]; exact Nat.le_trans (List.length_filter_le _ _) (by simp)
theorem dfs_mem {a b : List Int} {base : Int} {n : Nat} {x : R} : x ∈ dfs a b base n ↔ ∃ i, i < n ∧ a.getD i 0 ≠ b.getD i 0 ∧ x = (base + (i : Nat), b.getD i 0) := by
  unfold dfs
  rw [List.mem_map]
  constructor
  · rintro ⟨i, hi, rfl⟩
    rw [List.mem_filter, List.mem_range] at hi
    exact ⟨i, hi.1, by simpa using hi.2, rfl⟩
  · rintro ⟨i, h1, h2, rfl⟩
    exact ⟨i, by rw [List.mem_filter, List.mem_range]; exact ⟨h1, by simpa using h2⟩, rfl⟩
theorem dfs_lt (a b : List Int) (base : Int) (n : Nat) : (dfs a b base n).Pairwise fun x y => x.1 < y.1 := by
  unfold dfs
  rw [List.pairwise_map]
  refine (List.pairwise_lt_range.filter _).imp fun {i j} h => ?_
  show base + (i : Nat) < base + (j : Nat)
  omega
theorem dfs_nd (a b : List Int) (base : Int) (n : Nat) : Nd (dfs a b base n) := (dfs_lt a b base n).imp fun {x y} h => by omega
theorem dfs_fit (a b : List Int) (base : Int) (n : Nat) : Fit base n (dfs a b base n) := by
  intro x hx
  obtain ⟨i, h1, _, rfl⟩ := dfs_mem.1 hx
  exact ⟨by dsimp only; omega, by dsimp only; omega⟩
theorem dfs_lst {a b : List Int} {base : Int} {n i : Nat} (hi : i < n) : lst (dfs a b base n) (base + i) = if a.getD i 0 = b.getD i 0 then none else some (b.getD i 0) := by
  split
  · rename_i h
    rw [lst_none]
    intro w hw e
    obtain ⟨j, h1, h2, rfl⟩ := dfs_mem.1 hw
    have : j = i := by dsimp only at e; omega
    subst this; exact h2 h
  · rename_i h
    rw [lst_nd_iff (dfs_nd _ _ _ _)]
    exact dfs_mem.2 ⟨i, hi, h, rfl⟩
theorem dfs_back {a b : List Int} {base : Int} (hl : b.length = a.length) : ptL base (dfs a b base a.length) a = b := by
  refine list_ext (by rw [ptL_len, hl]) fun i hi => ?_
  rw [ptL_len] at hi
  rw [ptL_get hi _ (dfs_fit _ _ _ _), dfs_lst hi]
  split
  · rename_i h; exact h
  · rfl
theorem dfs_twice {a b : List Int} {base : Int} (hl : b.length = a.length) : ptL base (dfs a b base a.length) b = b := by
  refine list_ext (by rw [ptL_len]) fun i hi => ?_
  rw [ptL_len] at hi
  rw [ptL_get hi _ (by rw [hl]; exact dfs_fit _ _ _ _), dfs_lst (by omega)]
  split <;> rfl
theorem dfs_nil_iff {a b : List Int} {base : Int} (hl : b.length = a.length) : dfs a b base a.length = [] ↔ a = b := by
  constructor
  · intro h
    have := dfs_back (base := base) hl
    rw [h] at this
    exact this
  · rintro rfl
    rw [List.eq_nil_iff_forall_not_mem]
    intro x hx
    obtain ⟨i, _, h, _⟩ := dfs_mem.1 hx
    exact h rfl
/-- No write may be left out. -/
theorem dfs_less {a b : List Int} {base : Int} (hl : b.length = a.length) {p : Nat} (hp : p < (dfs a b base a.length).length) : ptL base ((dfs a b base a.length).take p ++ (dfs a b base a.length).drop (p + 1)) a ≠ b := by
  have hx : (dfs a b base a.length)[p] ∈ dfs a b base a.length := List.getElem_mem hp
  obtain ⟨i, h1, h2, h3⟩ := dfs_mem.1 hx
  intro h
  have hf := dfs_fit a b base a.length
  have hfit : Fit base a.length ((dfs a b base a.length).take p ++ (dfs a b base a.length).drop (p + 1)) := fun w hw => by
    rcases List.mem_append.1 hw with q | q
    · exact hf w (List.mem_of_mem_take q)
    · exact hf w (List.mem_of_mem_drop q)
  have e : (ptL base ((dfs a b base a.length).take p ++ (dfs a b base a.length).drop (p + 1)) a).getD i 0 = b.getD i 0 := by rw [h]
  have hn : lst ((dfs a b base a.length).take p ++ (dfs a b base a.length).drop (p + 1)) (base + i) = none := by
    rw [lst_none]
    have hnd := List.pairwise_iff_getElem.1 (dfs_nd a b base a.length)
    intro w hw
    have hk : ((dfs a b base a.length)[p]).1 = base + (i : Nat) := by rw [h3]
    rw [← hk]
    rcases List.mem_append.1 hw with q | q
    · obtain ⟨j, hj, rfl⟩ := List.getElem_of_mem q
      rw [List.length_take] at hj
      rw [List.getElem_take]
      exact hnd j p (by omega) hp (by omega)
    · obtain ⟨j, hj, rfl⟩ := List.getElem_of_mem q
      rw [List.length_drop] at hj
      rw [List.getElem_drop]
      exact fun e => hnd p (p + 1 + j) hp (by omega) (by omega) e.symm
  rw [ptL_get h1 _ hfit, hn] at e
  exact h2 e
/-- There and back are the same places. -/
theorem dfs_swap (a b : List Int) (base : Int) (n : Nat) : (dfs b a base n).length = (dfs a b base n).length ∧ ∀ j, j < (dfs a b base n).length → ∃ i, i < n ∧ a.getD i 0 ≠ b.getD i 0 ∧ gR (dfs a b base n) j = (base + (i : Nat), b.getD i 0) ∧ gR (dfs b a base n) j = (base + (i : Nat), a.getD i 0) := by
  have e : ((List.range n).filter fun i => b.getD i 0 != a.getD i 0) = (List.range n).filter fun i => a.getD i 0 != b.getD i 0 := by
    refine List.filter_congr fun i _ => ?_
    rw [Bool.eq_iff_iff]; simp; exact ⟨fun h e => h e.symm, fun h e => h e.symm⟩
  unfold dfs
  rw [e, List.length_map, List.length_map]
  refine ⟨rfl, fun j hj => ?_⟩
  have hm : ((List.range n).filter fun i => a.getD i 0 != b.getD i 0)[j] ∈ (List.range n).filter fun i => a.getD i 0 != b.getD i 0 := List.getElem_mem hj
  rw [List.mem_filter, List.mem_range] at hm
  refine ⟨_, hm.1, by simpa using hm.2, ?_, ?_⟩
  all_goals (unfold gR; rw [List.getD_eq_getElem?_getD, List.getElem?_map, List.getElem?_eq_getElem hj]; rfl)
/-! ### writes behind others -/
/-- Is a write the last one of its place? -/
def lastI (all : List R) (i : Nat) : Bool := (List.range all.length).all fun k => !(decide (i < k) && kR all k == kR all i)
theorem lastI_iff {all : List R} {i : Nat} : lastI all i = true ↔ ∀ k, i < k → k < all.length → kR all k ≠ kR all i := by
  unfold lastI
  rw [List.all_eq_true]
  constructor
  · intro h k h1 h2 e
    have := h k (List.mem_range.2 h2)
    simp [h1, e] at this
  · intro h k hk
    have hk := List.mem_range.1 hk
    by_cases h1 : i < k
    · have := h k h1 hk
      simp [this]
    · simp [h1]
/-- Of the first j writes those that are the last of their places. -/
def lasts (all : List R) (j : Nat) : List R := ((List.range j).filter (lastI all)).map (gR all)
theorem lasts_zero (all : List R) : lasts all 0 = [] := rfl
theorem lasts_succ (all : List R) (j : Nat) : lasts all (j + 1) = if lastI all j = true then lasts all j ++ [gR all j] else lasts all j := by
  unfold lasts
  rw [List.range_succ, List.filter_append, List.map_append]
  split
  · rename_i h; rw [List.filter_cons_of_pos h]; rfl
  · rename_i h; rw [List.filter_cons_of_neg h]; simp
theorem lasts_len_le (all : List R) (j : Nat) : (lasts all j).length ≤ j := by
  unfold lasts; rw [List.length_map]; exact Nat.le_trans (List.length_filter_le _ _) (by simp)
theorem lasts_mem {all : List R} {x : R} : x ∈ lasts all all.length ↔ lst all x.1 = some x.2 := by
  unfold lasts
  rw [List.mem_map, lst_iff]
  constructor
  · rintro ⟨i, hi, rfl⟩
    rw [List.mem_filter, List.mem_range, lastI_iff] at hi
    exact ⟨i, hi.1, rfl, hi.2⟩
  · rintro ⟨i, h1, h2, h3⟩
    refine ⟨i, ?_, h2⟩
    rw [List.mem_filter, List.mem_range, lastI_iff]
    exact ⟨h1, fun k q1 q2 => by rw [show kR all i = x.1 by unfold kR; rw [h2]]; exact h3 k q1 q2⟩
theorem lasts_nd (all : List R) : Nd (lasts all all.length) := by
  unfold lasts
  rw [Nd, List.pairwise_map]
  refine List.Pairwise.imp_of_mem (R := fun i j => i < j) ?_ (List.pairwise_lt_range.filter _)
  intro i j hi hj hij
  rw [List.mem_filter, List.mem_range, lastI_iff] at hi hj
  exact fun e => hi.2 j hij hj.1 e.symm
/-- Writes behind others, as one. -/
def thn (l m : List R) : List R := sortI byK (lasts (l ++ m) (l ++ m).length)
theorem thn_mem {l m : List R} {x : R} : x ∈ thn l m ↔ lst (l ++ m) x.1 = some x.2 := by unfold thn; rw [sortI_mem, lasts_mem]
theorem thn_lt (l m : List R) : (thn l m).Pairwise fun a b => a.1 < b.1 := sortI_sorted (f := fun r => r.1) (fun a b => rfl) (lasts_nd _)
theorem thn_nd (l m : List R) : Nd (thn l m) := (thn_lt l m).imp fun {x y} h => by omega
theorem thn_len (l m : List R) : (thn l m).length ≤ l.length + m.length := by
  unfold thn; rw [sortI_len]; exact Nat.le_trans (lasts_len_le _ _) (by rw [List.length_append]; omega)
theorem thn_ext {l m t : List R} (ht : t.Pairwise fun a b => a.1 < b.1) (h : ∀ x, x ∈ t ↔ lst (l ++ m) x.1 = some x.2) : t = thn l m :=
  sorted_ext (f := fun r => r.1) ht (thn_lt l m) fun x => (h x).trans thn_mem.symm
theorem thn_lst (l m : List R) (k : Int) : lst (thn l m) k = lst (l ++ m) k := by
  cases e : lst (l ++ m) k with
  | none =>
    rw [lst_none]
    intro w hw q
    have := thn_mem.1 hw
    rw [q, e] at this; cases this
  | some v => rw [lst_nd_iff (thn_nd l m), thn_mem]; exact e
theorem thn_fit {base : Int} {n : Nat} {l m : List R} (hl : Fit base n l) (hm : Fit base n m) : Fit base n (thn l m) := fun w hw => Fit.app.2 ⟨hl, hm⟩ w (lst_mem (thn_mem.1 hw))
/-- To patch by Then is to patch by the first ones, and then by the others. -/
theorem thn_patch {base : Int} {a : List Int} {l m : List R} (hl : Fit base a.length l) (hm : Fit base a.length m) : ptL base (thn l m) a = ptL base m (ptL base l a) := by
  rw [← ptL_app]
  exact ptL_ext (thn_fit hl hm) (Fit.app.2 ⟨hl, hm⟩) fun i _ => thn_lst l m _
theorem thn_self {t : List R} (h : t.Pairwise fun a b => a.1 < b.1) : thn t [] = t ∧ thn [] t = t := by
  have hn : Nd t := h.imp fun {x y} h => by omega
  refine ⟨(thn_ext h fun x => ?_).symm, (thn_ext h fun x => ?_).symm⟩
  · rw [List.append_nil]; exact (lst_nd_iff hn).symm
  · rw [List.nil_append]; exact (lst_nd_iff hn).symm
theorem fit_len {base : Int} {n : Nat} {t : List R} (h : Nd t) (hf : Fit base n t) : t.length ≤ n := by
  have h1 : (t.map fun x => (x.1 - base).toNat).Nodup := by
    refine List.pairwise_map.2 (h.imp_of_mem fun {a b} ha hb hne e => hne ?_)
    have := hf a ha; have := hf b hb; omega
  have h2 := nodup_sub_len (l' := List.range n) h1 fun x hx => by
    obtain ⟨w, hw, rfl⟩ := List.mem_map.1 hx
    have := hf w hw
    rw [List.mem_range]; omega
  simpa using h2
/-- Writes to unlike places may be turned round. -/
theorem turn_patch {base : Int} {a : List Int} {l : List R} (h : Nd l) (hf : Fit base a.length l) (t : Nat) : ptL base (l.drop t ++ l.take t) a = ptL base l a := by
  have hp : (l.drop t ++ l.take t).Perm l := List.perm_append_comm.trans (by rw [List.take_append_drop])
  exact ptL_ext (fun w hw => hf w (hp.mem_iff.1 hw)) hf fun i _ => lst_perm (hp.symm.pairwise h fun h e => h e.symm) h (fun x => hp.mem_iff) _
end Go.Proofs.Yteinekidpokbpaa.DfT
