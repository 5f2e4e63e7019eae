/- Tables of records: rows of words, sorts, what is built. -/
import Derived.Test.YteinekidpokbpaaPrA
namespace Go.Proofs.Yteinekidpokbpaa.PrT
set_option linter.unusedVariables false
set_option linter.unusedSimpArgs false

/-! ### rows of words -/
def wd (w : Nat) (r : R) : List Int := if w = 1 then [r.1] else [r.1, r.2]
def flat (w : Nat) (T : List R) : List Int := T.flatMap (wd w)
def recs (n w : Nat) (ws : List Int) : List R := (List.range n).map fun i => (ws.getD (i * w) 0, if w = 1 then 0 else ws.getD (i * w + 1) 0)
theorem wd_len {w : Nat} (hw : w = 1 ∨ w = 2) (r : R) : (wd w r).length = w := by rcases hw with rfl | rfl <;> rfl
theorem flat_nil (w : Nat) : flat w [] = [] := rfl
theorem flat_cons (w : Nat) (r : R) (T : List R) : flat w (r :: T) = wd w r ++ flat w T := by simp [flat]
theorem flat_append (w : Nat) (T U : List R) : flat w (T ++ U) = flat w T ++ flat w U := by simp [flat]
theorem flat_len {w : Nat} (hw : w = 1 ∨ w = 2) (T : List R) : (flat w T).length = T.length * w := by
  induction T with
  | nil => simp [flat]
  | cons r T ih => rw [flat_cons, List.length_append, ih, wd_len hw, List.length_cons, Nat.succ_mul]; omega
theorem flat_split {w : Nat} (T : List R) {i : Nat} (h : i < T.length) : flat w T = flat w (T.take i) ++ (wd w (gR T i) ++ flat w (T.drop (i + 1))) := by
  have e : T = T.take i ++ (gR T i :: T.drop (i + 1)) := by
    unfold gR; rw [List.getD_eq_getElem?_getD, List.getElem?_eq_getElem h]
    show T = T.take i ++ (T[i] :: T.drop (i + 1))
    rw [← List.drop_eq_getElem_cons h, List.take_append_drop]
  rw [show flat w T = flat w (T.take i ++ (gR T i :: T.drop (i + 1))) by rw [← e], flat_append, flat_cons]
theorem flat_get {w : Nat} (hw : w = 1 ∨ w = 2) (T : List R) {i c : Nat} (h : i < T.length) (hc : c < w) : (flat w T).getD (i * w + c) 0 = (wd w (gR T i)).getD c 0 := by
  have hl : (flat w (T.take i)).length = i * w := by rw [flat_len hw, List.length_take, Nat.min_eq_left (by omega)]
  rw [flat_split T h, List.getD_eq_getElem?_getD, List.getElem?_append_right (by omega), hl, show i * w + c - i * w = c by omega, List.getElem?_append_left (by rw [wd_len hw]; exact hc), ← List.getD_eq_getElem?_getD]
theorem flat_key {w : Nat} (hw : w = 1 ∨ w = 2) (T : List R) {i : Nat} (h : i < T.length) : (flat w T).getD (i * w) 0 = kR T i := by
  have := flat_get hw T h (c := 0) (by omega)
  rw [Nat.add_zero] at this
  rw [this]; rcases hw with rfl | rfl <;> rfl
theorem flat_val (T : List R) {i : Nat} (h : i < T.length) : (flat 2 T).getD (i * 2 + 1) 0 = (gR T i).2 := by
  rw [flat_get (.inr rfl) T h (by omega)]; rfl
theorem flat_set {w : Nat} (hw : w = 1 ∨ w = 2) (T : List R) {i : Nat} (h : i < T.length) (r : R) : flat w (T.set i r) = (flat w T).take (i * w) ++ (wd w r ++ (flat w T).drop (i * w + w)) := by
  have hl : (flat w (T.take i)).length = i * w := by rw [flat_len hw, List.length_take, Nat.min_eq_left (by omega)]
  have e1 : gR (T.set i r) i = r := by rw [gR_set h, if_pos rfl]
  rw [flat_split (T.set i r) (by rw [List.length_set]; exact h), e1, List.take_set_of_le (Nat.le_refl _), List.drop_set_of_lt (Nat.lt_succ_self _)]
  have t1 : (flat w T).take (i * w) = flat w (T.take i) := by
    rw [flat_split T h, ← hl, List.take_left]
  have t2 : (flat w T).drop (i * w + w) = flat w (T.drop (i + 1)) := by
    rw [flat_split T h, ← List.append_assoc, show i * w + w = (flat w (T.take i) ++ wd w (gR T i)).length by rw [List.length_append, hl, wd_len hw], List.drop_left]
  rw [t1, t2]
theorem recs_len (n w : Nat) (ws : List Int) : (recs n w ws).length = n := by simp [recs]
theorem recs_get {n w : Nat} (ws : List Int) {i : Nat} (h : i < n) : gR (recs n w ws) i = (ws.getD (i * w) 0, if w = 1 then 0 else ws.getD (i * w + 1) 0) := by
  unfold gR recs
  rw [List.getD_eq_getElem?_getD, List.getElem?_map, List.getElem?_range h]; rfl
theorem flat_recs {n w : Nat} (hw : w = 1 ∨ w = 2) {ws : List Int} (hl : ws.length = n * w) : flat w (recs n w ws) = ws := by
  refine List.ext_getElem? fun q => ?_
  have hfl : (flat w (recs n w ws)).length = n * w := by rw [flat_len hw, recs_len]
  by_cases hq : q < n * w
  · have hlt : q / w < n := Nat.div_lt_of_lt_mul (by rw [Nat.mul_comm]; exact hq)
    have hm : q % w < w := Nat.mod_lt _ (by omega)
    have hqe : q = q / w * w + q % w := by rw [Nat.mul_comm]; exact (Nat.div_add_mod q w).symm
    have h1 : (flat w (recs n w ws)).getD q 0 = ws.getD q 0 := by
      rw [hqe, flat_get hw _ (by rw [recs_len]; exact hlt) hm, recs_get ws hlt]
      rcases hw with rfl | rfl
      · have : q % 1 = 0 := Nat.mod_one q
        rw [this]; rfl
      · rcases Nat.mod_two_eq_zero_or_one q with e | e <;> rw [e] <;> rfl
    rw [List.getD_eq_getElem?_getD, List.getD_eq_getElem?_getD, List.getElem?_eq_getElem (by omega), List.getElem?_eq_getElem (by omega)] at h1
    rw [List.getElem?_eq_getElem (by omega), List.getElem?_eq_getElem (by omega)]
    exact congrArg some h1
  · rw [List.getElem?_eq_none (by omega), List.getElem?_eq_none (by omega)]
/-- Records of one word have no value. -/
def Nv (w : Nat) (T : List R) : Prop := w = 1 → ∀ r ∈ T, r.2 = 0
theorem recs_nv (n w : Nat) (ws : List Int) : Nv w (recs n w ws) := by
  intro hw r hr
  obtain ⟨i, _, rfl⟩ := List.mem_map.1 hr
  simp [hw]
theorem gR_ext {T U : List R} (hl : T.length = U.length) (h : ∀ j, j < T.length → gR T j = gR U j) : T = U := by
  refine List.ext_getElem? fun j => ?_
  by_cases hj : j < T.length
  · have := h j hj
    unfold gR at this
    rw [List.getD_eq_getElem?_getD, List.getD_eq_getElem?_getD, List.getElem?_eq_getElem hj, List.getElem?_eq_getElem (by omega)] at this
    rw [List.getElem?_eq_getElem hj, List.getElem?_eq_getElem (by omega)]
    exact congrArg some this
  · rw [List.getElem?_eq_none (by omega), List.getElem?_eq_none (by omega)]
theorem gR_mem {T : List R} {j : Nat} (h : j < T.length) : gR T j ∈ T := by
  unfold gR; rw [List.getD_eq_getElem?_getD, List.getElem?_eq_getElem h]; exact List.getElem_mem h
theorem recs_flat {n w : Nat} (hw : w = 1 ∨ w = 2) {T : List R} (hl : T.length = n) (hv : Nv w T) : recs n w (flat w T) = T := by
  refine gR_ext (by rw [recs_len, hl]) fun j hj => ?_
  rw [recs_len] at hj
  rw [recs_get _ hj, flat_key hw T (by omega)]
  rcases hw with rfl | rfl
  · have := hv rfl _ (gR_mem (T := T) (j := j) (by omega))
    rw [if_pos rfl, ← this]; rfl
  · rw [if_neg (by omega), flat_val T (by omega)]; rfl
theorem flat_inj {w : Nat} (hw : w = 1 ∨ w = 2) {T U : List R} (hv : Nv w T) (hv' : Nv w U) (h : flat w T = flat w U) : T = U := by
  have hl : T.length = U.length := by
    have := congrArg List.length h
    rw [flat_len hw, flat_len hw] at this
    exact Nat.eq_of_mul_eq_mul_right (by omega) this
  rw [← recs_flat (n := T.length) hw rfl hv, ← recs_flat (n := T.length) hw hl.symm hv', h]

/-! ### sorting -/
section
variable (p : R → R → Bool)
def insA (out : List R) (x : R) : Nat → Nat
  | 0 => 0
  | a + 1 => if p x (gR out a) = true then insA out x a else a + 1
def insL (out : List R) (x : R) : List R := out.take (insA p out x out.length) ++ x :: out.drop (insA p out x out.length)
def sortI (l : List R) : List R := l.foldl (insL p) []
theorem insA_le (out : List R) (x : R) : ∀ a, insA p out x a ≤ a
  | 0 => Nat.le_refl _
  | a + 1 => by
    have := insA_le out x a
    unfold insA; split <;> omega
theorem insL_len (out : List R) (x : R) : (insL p out x).length = out.length + 1 := by
  unfold insL; have := insA_le p out x out.length; simp; omega
theorem insL_mem (out : List R) (x y : R) : y ∈ insL p out x ↔ y = x ∨ y ∈ out := by
  unfold insL
  rw [List.mem_append, List.mem_cons]
  have : y ∈ out ↔ y ∈ out.take (insA p out x out.length) ∨ y ∈ out.drop (insA p out x out.length) := by
    rw [← List.mem_append, List.take_append_drop]
  rw [this]
  constructor
  · rintro (h | h | h)
    · exact .inr (.inl h)
    · exact .inl h
    · exact .inr (.inr h)
  · rintro (h | h | h)
    · exact .inr (.inl h)
    · exact .inl h
    · exact .inr (.inr h)
theorem sortI_mem (l : List R) (y : R) : y ∈ sortI p l ↔ y ∈ l := by
  have : ∀ (l out : List R), y ∈ l.foldl (insL p) out ↔ y ∈ out ∨ y ∈ l := by
    intro l
    induction l with
    | nil => intro out; simp
    | cons a l ih => intro out; rw [List.foldl_cons, ih, insL_mem, List.mem_cons, or_comm (a := y = a), or_assoc]
  unfold sortI; rw [this]; simp
theorem sortI_len (l : List R) : (sortI p l).length = l.length := by
  have : ∀ (l out : List R), (l.foldl (insL p) out).length = out.length + l.length := by
    intro l
    induction l with
    | nil => intro out; simp
    | cons a l ih => intro out; rw [List.foldl_cons, ih, insL_len, List.length_cons]; omega
  unfold sortI; rw [this]; simp
theorem sortI_snoc (l : List R) (x : R) : sortI p (l ++ [x]) = insL p (sortI p l) x := by unfold sortI; rw [List.foldl_append]; rfl
end
theorem insA_spec {p : R → R → Bool} {f : R → Int} (hp : ∀ a b, p a b = decide (f a < f b)) (out : List R) (x : R) : ∀ a, (∀ j, insA p out x a ≤ j → j < a → f x < f (gR out j)) ∧ (0 < insA p out x a → f (gR out (insA p out x a - 1)) ≤ f x)
  | 0 => ⟨fun j _ h => absurd h (Nat.not_lt_zero _), fun h => absurd h (Nat.lt_irrefl _)⟩
  | a + 1 => by
    obtain ⟨h1, h2⟩ := insA_spec hp out x a
    unfold insA
    split
    · rename_i h
      have h : f x < f (gR out a) := of_decide_eq_true ((hp _ _).symm.trans h)
      refine ⟨fun j g1 g2 => ?_, h2⟩
      by_cases e : j = a
      · subst e; exact h
      · exact h1 j g1 (by omega)
    · rename_i h
      have h : ¬ f x < f (gR out a) := fun q => h ((hp _ _).trans (decide_eq_true q))
      exact ⟨fun j g1 g2 => by omega, fun _ => by rw [Nat.add_sub_cancel]; omega⟩
theorem insL_sorted {p : R → R → Bool} {f : R → Int} (hp : ∀ a b, p a b = decide (f a < f b)) {out : List R} {x : R} (h : out.Pairwise fun a b => f a < f b) (hx : ∀ y ∈ out, f y ≠ f x) : (insL p out x).Pairwise fun a b => f a < f b := by
  obtain ⟨h1, h2⟩ := insA_spec hp out x out.length
  have hle := insA_le p out x out.length
  unfold insL
  generalize insA p out x out.length = a at *
  have hs : out = out.take a ++ out.drop a := (List.take_append_drop _ _).symm
  have hpw := h
  rw [hs, List.pairwise_append] at hpw
  obtain ⟨g1, g2, g3⟩ := hpw
  have gd : ∀ y ∈ out.drop a, f x < f y := by
    intro y hy
    obtain ⟨q, hq, rfl⟩ := List.getElem_of_mem hy
    rw [List.length_drop] at hq
    have := h1 (a + q) (by omega) (by omega)
    unfold gR at this
    rw [List.getD_eq_getElem?_getD, List.getElem?_eq_getElem (by omega)] at this
    rw [List.getElem_drop]
    exact this
  have gt : ∀ y ∈ out.take a, f y < f x := by
    intro y hy
    obtain ⟨q, hq, rfl⟩ := List.getElem_of_mem hy
    rw [List.length_take] at hq
    rw [List.getElem_take]
    have h0 := h2 (by omega)
    unfold gR at h0
    rw [List.getD_eq_getElem?_getD, List.getElem?_eq_getElem (by omega)] at h0
    have h0 : f (out[a - 1]'(by omega)) ≤ f x := h0
    have hne := hx _ (List.getElem_mem (show q < out.length by omega))
    by_cases e : q = a - 1
    · subst e; omega
    · have := (List.pairwise_iff_getElem.1 h) q (a - 1) (by omega) (by omega) (by omega)
      omega
  rw [List.pairwise_append]
  refine ⟨g1, List.pairwise_cons.2 ⟨gd, g2⟩, fun a ha b hb => ?_⟩
  rcases List.mem_cons.1 hb with rfl | hb
  · exact gt a ha
  · exact g3 a ha b hb
theorem sortI_sorted {p : R → R → Bool} {f : R → Int} (hp : ∀ a b, p a b = decide (f a < f b)) {l : List R} (h : l.Pairwise fun a b => f a ≠ f b) : (sortI p l).Pairwise fun a b => f a < f b := by
  have : ∀ (l out : List R), (out.Pairwise fun a b => f a < f b) → (l.Pairwise fun a b => f a ≠ f b) → (∀ y ∈ out, ∀ x ∈ l, f y ≠ f x) → (l.foldl (insL p) out).Pairwise fun a b => f a < f b := by
    intro l
    induction l with
    | nil => intro out h _ _; exact h
    | cons a l ih =>
      intro out h1 h2 h3
      obtain ⟨g1, g2⟩ := List.pairwise_cons.1 h2
      rw [List.foldl_cons]
      refine ih _ (insL_sorted hp h1 (fun y hy => h3 y hy a (List.mem_cons_self ..))) g2 (fun y hy x hx => ?_)
      rcases (insL_mem p out a y).1 hy with rfl | hy
      · exact g1 x hx
      · exact h3 y hy x (List.mem_cons_of_mem _ hx)
  exact this l [] List.Pairwise.nil h (fun y hy => by cases hy)
theorem sorted_ext {f : R → Int} : ∀ {l m : List R}, (l.Pairwise fun a b => f a < f b) → (m.Pairwise fun a b => f a < f b) → (∀ x, x ∈ l ↔ x ∈ m) → l = m
  | [], [], _, _, _ => rfl
  | [], b :: m, _, _, h => by have := (h b).2 (List.mem_cons_self ..); cases this
  | a :: l, [], _, _, h => by have := (h a).1 (List.mem_cons_self ..); cases this
  | a :: l, b :: m, h1, h2, h => by
    obtain ⟨a1, a2⟩ := List.pairwise_cons.1 h1
    obtain ⟨b1, b2⟩ := List.pairwise_cons.1 h2
    have e : a = b := by
      rcases List.mem_cons.1 ((h a).1 (List.mem_cons_self ..)) with e | e
      · exact e
      · rcases List.mem_cons.1 ((h b).2 (List.mem_cons_self ..)) with e' | e'
        · exact e'.symm
        · have := b1 _ e; have := a1 _ e'; omega
    subst e
    rw [sorted_ext a2 b2 fun x => ?_]
    constructor
    · intro hx
      rcases List.mem_cons.1 ((h x).1 (List.mem_cons_of_mem _ hx)) with e | e
      · subst e; have := a1 _ hx; omega
      · exact e
    · intro hx
      rcases List.mem_cons.1 ((h x).2 (List.mem_cons_of_mem _ hx)) with e | e
      · subst e; have := b1 _ hx; omega
      · exact e

/-! ### what is built -/
theorem nodup_sub_len {α : Type} [DecidableEq α] : ∀ {l l' : List α}, l.Nodup → (∀ x ∈ l, x ∈ l') → l.length ≤ l'.length
  | [], _, _, _ => Nat.zero_le _
  | a :: l, l', h, hs => by
    obtain ⟨h1, h2⟩ := List.nodup_cons.1 h
    have ha := hs a (List.mem_cons_self ..)
    have := nodup_sub_len (l' := l'.erase a) h2 (fun x hx => (List.mem_erase_of_ne (fun e => h1 (by rw [← e]; exact hx))).2 (hs x (List.mem_cons_of_mem _ hx)))
    rw [List.length_erase_of_mem ha] at this
    have hp : 0 < l'.length := List.length_pos_of_mem ha
    rw [List.length_cons]; omega
theorem Ok.keys_nodup {S : Hs} {n : Nat} {T : List R} (h : Ok S n T) (hf : ∀ j, j < n → kR T j ≠ 0) : ((List.range n).map (gR T)).Nodup := by
  unfold List.Nodup
  rw [List.pairwise_map]
  refine List.Pairwise.imp_of_mem ?_ (List.pairwise_lt_range (n := n))
  intro a b ha hb hlt e
  have := h.nd a b (List.mem_range.1 ha) (List.mem_range.1 hb) (hf a (List.mem_range.1 ha)) (by unfold kR; rw [e])
  omega
theorem Ok.free {S : Hs} {n : Nat} {T : List R} (h : Ok S n T) {l : List R} (hl : l.length < n) (hin : ∀ x, In n T x → x ∈ l) : ∃ e, e < n ∧ kR T e = 0 := by
  by_cases hf : ∃ e, e < n ∧ kR T e = 0
  · exact hf
  · have hf : ∀ j, j < n → kR T j ≠ 0 := fun j hj e => hf ⟨j, hj, e⟩
    have := nodup_sub_len (h.keys_nodup hf) (l' := l) (fun x hx => by
      obtain ⟨j, hj, rfl⟩ := List.mem_map.1 hx
      have hj := List.mem_range.1 hj
      exact hin _ (In.of hj (hf j hj)))
    rw [List.length_map, List.length_range] at this
    omega
/-- Records that may be laid. -/
structure Recs (S : Hs) (l : List R) : Prop where
  u : ∀ r ∈ l, S.U r.1
  nz : ∀ r ∈ l, r.1 ≠ 0
  nd : l.Pairwise fun a b => a.1 ≠ b.1
def putA (S : Hs) (n : Nat) (T : List R) (r : R) : List R := putF S n n (S.hm n r.1) T r
def placeA (S : Hs) (n : Nat) (T : List R) (r : R) : List R := placeF n n (S.hm n r.1) T r
theorem dist_self (n h : Nat) : dist n h h = 0 := by unfold dist; rw [if_pos (Nat.le_refl _)]; omega
theorem dist_lt {n h s : Nat} (h1 : h < n) (h2 : s < n) : dist n h s < n := by have := dist_c n h s; omega
theorem putA_ok {S : Hs} {n : Nat} {T : List R} (h : Ok S n T) {r : R} (hu : S.U r.1) (h0 : r.1 ≠ 0) (hn : ∀ j, j < n → kR T j ≠ r.1) (hf : ∃ e, e < n ∧ kR T e = 0) : Ok S n (putA S n T r) ∧ ∀ x, In n (putA S n T r) x ↔ In n T x ∨ x = r := by
  obtain ⟨e, he, he0⟩ := hf
  have hh := S.hlt n r.1 (by omega)
  exact putF_ok n _ T r h hu h0 hn hh (fun s hs hd => by rw [dist_self] at hd; omega) ⟨e, he, he0, dist_lt hh he⟩
theorem fold_put {S : Hs} {n : Nat} : ∀ (l done T : List R), Ok S n T → (∀ x, In n T x ↔ x ∈ done) → Recs S (done ++ l) → done.length + l.length ≤ n → Ok S n (l.foldl (putA S n) T) ∧ ∀ x, In n (l.foldl (putA S n) T) x ↔ x ∈ done ++ l
  | [], done, T, h, hin, _, _ => ⟨h, fun x => by rw [List.append_nil]; exact hin x⟩
  | a :: l, done, T, h, hin, hr, hl => by
    have ham : a ∈ done ++ a :: l := List.mem_append.2 (.inr (List.mem_cons_self ..))
    have hnd := List.pairwise_append.1 hr.nd
    rw [List.length_cons] at hl
    obtain ⟨g1, g2⟩ := putA_ok h (hr.u a ham) (hr.nz a ham) (fun j hj e => by
      have hk : kR T j ≠ 0 := by rw [e]; exact hr.nz a ham
      exact hnd.2.2 _ ((hin _).1 (In.of hj hk)) a (List.mem_cons_self ..) e) (h.free (l := done) (by omega) (fun x hx => (hin x).1 hx))
    have e : done ++ a :: l = done ++ [a] ++ l := by simp
    rw [List.foldl_cons, e]
    refine fold_put l (done ++ [a]) _ g1 (fun x => ?_) (by rw [← e]; exact hr) (by simp; omega)
    rw [g2, hin]; simp
theorem fold_place {S : Hs} {n : Nat} : ∀ (l done T : List R), Ok S n T → (∀ x, In n T x ↔ x ∈ done) → Recs S (done ++ l) → done.length + l.length ≤ n → ((done ++ l).Pairwise fun a b => S.wt b.1 < S.wt a.1) → Ok S n (l.foldl (placeA S n) T) ∧ ∀ x, In n (l.foldl (placeA S n) T) x ↔ x ∈ done ++ l
  | [], done, T, h, hin, _, _, _ => ⟨h, fun x => by rw [List.append_nil]; exact hin x⟩
  | a :: l, done, T, h, hin, hr, hl, hw => by
    have ham : a ∈ done ++ a :: l := List.mem_append.2 (.inr (List.mem_cons_self ..))
    have hws := List.pairwise_append.1 hw
    rw [List.length_cons] at hl
    obtain ⟨e, he, he0⟩ := h.free (l := done) (by omega) (fun x hx => (hin x).1 hx)
    have hh := S.hlt n a.1 (by omega)
    obtain ⟨g1, g2⟩ := placeF_ok h (hr.u a ham) (hr.nz a ham) (fun j hj hk => hws.2.2 _ ((hin _).1 (In.of hj hk)) a (List.mem_cons_self ..)) he he0 n (S.hm n a.1) hh (fun s hs hd => by rw [dist_self] at hd; omega) (dist_lt hh he)
    have e : done ++ a :: l = done ++ [a] ++ l := by simp
    rw [List.foldl_cons, e]
    refine fold_place l (done ++ [a]) _ g1 (fun x => ?_) (by rw [← e]; exact hr) (by simp; omega) (by rw [← e]; exact hw)
    show In n (placeF n n (S.hm n a.1) T a) x ↔ _
    rw [g2, hin]; simp
def byW (S : Hs) (a b : R) : Bool := S.bf a.1 b.1
def byK (a b : R) : Bool := decide (a.1 < b.1)
/-- The table of records, as the document lays it. -/
def laid (S : Hs) (n : Nat) (l : List R) : List R := (sortI (byW S) l).foldl (placeA S n) (List.replicate n (0, 0))
/-- .. and as they are put one by one. -/
def built (S : Hs) (n : Nat) (l : List R) : List R := l.foldl (putA S n) (List.replicate n (0, 0))
theorem Recs.of_mem {S : Hs} {l m : List R} (h : Recs S l) (hm : ∀ x, x ∈ m → x ∈ l) (hn : m.Pairwise fun a b => a.1 ≠ b.1) : Recs S m := ⟨fun r hr => h.u r (hm r hr), fun r hr => h.nz r (hm r hr), hn⟩
theorem built_ok {S : Hs} {n : Nat} {l : List R} (hr : Recs S l) (hl : l.length ≤ n) : Ok S n (built S n l) ∧ ∀ x, In n (built S n l) x ↔ x ∈ l := by
  obtain ⟨h1, h2⟩ := fold_put l [] _ (Ok.nil S n) (fun x => ⟨fun h => absurd h In.nil, fun h => by cases h⟩) (by simpa using hr) (by simpa using hl)
  exact ⟨h1, fun x => (h2 x).trans (by rw [List.nil_append])⟩
theorem laid_ok {S : Hs} {n : Nat} {l : List R} (hr : Recs S l) (hl : l.length ≤ n) : Ok S n (laid S n l) ∧ ∀ x, In n (laid S n l) x ↔ x ∈ l := by
  have hpw : l.Pairwise fun a b => -S.wt a.1 ≠ -S.wt b.1 := by
    refine List.Pairwise.imp_of_mem ?_ hr.nd
    intro a b ha hb hne e
    exact hne (S.inj _ _ (hr.u a ha) (hr.u b hb) (by omega))
  have hs := sortI_sorted (p := byW S) (f := fun r => -S.wt r.1) (fun a b => by
    unfold byW; rw [S.hbf]; congr 1; exact propext ⟨fun h => by omega, fun h => by omega⟩) hpw
  have hr2 : Recs S (sortI (byW S) l) := hr.of_mem (fun x hx => (sortI_mem _ l x).1 hx) (hs.imp fun h e => by rw [e] at h; omega)
  obtain ⟨h1, h2⟩ := fold_place (sortI (byW S) l) [] _ (Ok.nil S n) (fun x => ⟨fun h => absurd h In.nil, fun h => by cases h⟩) (by simpa using hr2) (by rw [sortI_len]; simpa using hl) (by
    show List.Pairwise _ (sortI (byW S) l)
    exact hs.imp fun h => by omega)
  exact ⟨h1, fun x => (h2 x).trans (by rw [List.nil_append]; exact sortI_mem _ l x)⟩
/-- There is one table of the same records. -/
theorem laid_is {S : Hs} {n : Nat} {l T : List R} (hr : Recs S l) (hl : l.length ≤ n) (h : Ok S n T) (hin : ∀ x, In n T x ↔ x ∈ l) : laid S n l = T :=
  (laid_ok hr hl).1.uniq h fun x => ((laid_ok hr hl).2 x).trans (hin x).symm
theorem built_laid {S : Hs} {n : Nat} {l : List R} (hr : Recs S l) (hl : l.length ≤ n) : built S n l = laid S n l :=
  (laid_is hr hl (built_ok hr hl).1 (built_ok hr hl).2).symm
/-- The records of a table, as they lie. -/
def nzs (T : List R) : List R := T.filter fun r => r.1 != 0
theorem nzs_mem {T : List R} {x : R} : x ∈ nzs T ↔ x ∈ T ∧ x.1 ≠ 0 := by unfold nzs; rw [List.mem_filter]; simp
theorem In_nzs {n : Nat} {T : List R} (hl : T.length = n) (x : R) : In n T x ↔ x ∈ nzs T := by
  rw [nzs_mem]
  constructor
  · rintro ⟨h1, j, h2, rfl⟩; exact ⟨gR_mem (by omega), h1⟩
  · rintro ⟨h1, h2⟩
    obtain ⟨j, hj, rfl⟩ := List.getElem_of_mem h1
    refine ⟨h2, j, by omega, ?_⟩
    unfold gR; rw [List.getD_eq_getElem?_getD, List.getElem?_eq_getElem hj]; rfl
theorem nzs_len (T : List R) : (nzs T).length ≤ T.length := List.length_filter_le _ _
theorem pw_of {T : List R} (h : ∀ i j, i < j → j < T.length → kR T i ≠ 0 → kR T i ≠ kR T j) : (nzs T).Pairwise fun a b => a.1 ≠ b.1 := by
  unfold nzs
  rw [List.pairwise_filter]
  rw [List.pairwise_iff_getElem]
  intro i j hi hj hij a1 a2
  have := h i j hij hj
  unfold kR gR at this
  rw [List.getD_eq_getElem?_getD, List.getD_eq_getElem?_getD, List.getElem?_eq_getElem hi, List.getElem?_eq_getElem hj] at this
  exact this (by simpa using a1)
theorem Ok.recs {S : Hs} {n : Nat} {T : List R} (h : Ok S n T) : Recs S (nzs T) := by
  refine ⟨fun r hr => ?_, fun r hr => (nzs_mem.1 hr).2, pw_of fun i j hij hj hk e => ?_⟩
  · obtain ⟨h1, j, h2, rfl⟩ := (In_nzs h.len r).2 hr
    exact h.uk j h2 h1
  · rw [h.len] at hj
    have := h.nd i j (by omega) hj hk e; omega
theorem Ok.laid_nzs {S : Hs} {n : Nat} {T : List R} (h : Ok S n T) : laid S n (nzs T) = T :=
  laid_is h.recs (by have := nzs_len T; rw [h.len] at this; exact this) h (In_nzs h.len)
end Go.Proofs.Yteinekidpokbpaa.PrT
