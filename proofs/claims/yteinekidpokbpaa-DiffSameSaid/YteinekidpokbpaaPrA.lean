/- Tables of keys and what belongs to them, by their weights: there is one of the same records; putting, finding, taking out. -/
import Derived.Test.YteinekidpokbpaaAmU
namespace Go.Proofs.Yteinekidpokbpaa.PrT
set_option linter.unusedVariables false
set_option linter.unusedSimpArgs false

abbrev R := Int × Int
/-- How a table's keys go: homes among n slots, weights, which of two goes first. -/
structure Hs where
  hm : Nat → Int → Nat
  wt : Int → Int
  bf : Int → Int → Bool
  U : Int → Prop
  hlt : ∀ n k, 0 < n → hm n k < n
  hbf : ∀ a b, bf a b = decide (wt b < wt a)
  inj : ∀ a b, U a → U b → wt a = wt b → a = b
  lo : ∀ a, U a → 0 ≤ wt a
  hi : ∀ a, U a → wt a < 18446744073709551616

def dist (n h s : Nat) : Nat := if h ≤ s then s - h else s + n - h
def nxt (n i : Nat) : Nat := if i + 1 = n then 0 else i + 1
theorem dist_c (n h s : Nat) : (h ≤ s ∧ dist n h s = s - h) ∨ (s < h ∧ dist n h s = s + n - h) := by
  unfold dist; split
  · exact .inl ⟨by assumption, rfl⟩
  · exact .inr ⟨by omega, rfl⟩
theorem nxt_c (n i : Nat) : (i + 1 = n ∧ nxt n i = 0) ∨ (i + 1 ≠ n ∧ nxt n i = i + 1) := by
  unfold nxt; split
  · exact .inl ⟨by assumption, rfl⟩
  · exact .inr ⟨by assumption, rfl⟩
def gR (T : List R) (j : Nat) : R := T.getD j (0, 0)
def kR (T : List R) (j : Nat) : Int := (gR T j).1

theorem gR_set {T : List R} {i : Nat} (h : i < T.length) (r : R) (j : Nat) : gR (T.set i r) j = if j = i then r else gR T j := by
  unfold gR
  rw [List.getD_eq_getElem?_getD, List.getElem?_set]
  by_cases e : i = j
  · subst e; rw [if_pos rfl, if_pos h, if_pos rfl]; rfl
  · rw [if_neg e, if_neg (fun e' => e e'.symm), ← List.getD_eq_getElem?_getD]
theorem kR_set {T : List R} {i : Nat} (h : i < T.length) (r : R) (j : Nat) : kR (T.set i r) j = if j = i then r.1 else kR T j := by
  unfold kR; rw [gR_set h]; split <;> rfl

/-- A table: each key is as far behind its home as there are keys that go first. -/
structure Ok (S : Hs) (n : Nat) (T : List R) : Prop where
  len : T.length = n
  zer : ∀ j, j < n → kR T j = 0 → gR T j = (0, 0)
  uk : ∀ j, j < n → kR T j ≠ 0 → S.U (kR T j)
  nd : ∀ i j, i < n → j < n → kR T i ≠ 0 → kR T i = kR T j → i = j
  way : ∀ j, j < n → kR T j ≠ 0 → ∀ s, s < n → dist n (S.hm n (kR T j)) s < dist n (S.hm n (kR T j)) j → kR T s ≠ 0 ∧ S.wt (kR T j) < S.wt (kR T s)
/-- What is in a table. -/
def In (n : Nat) (T : List R) (x : R) : Prop := x.1 ≠ 0 ∧ ∃ j, j < n ∧ gR T j = x
theorem In.key {n : Nat} {T : List R} {x : R} (h : In n T x) : ∃ j, j < n ∧ kR T j = x.1 ∧ gR T j = x := by
  obtain ⟨h1, j, h2, h3⟩ := h; exact ⟨j, h2, by unfold kR; rw [h3], h3⟩
theorem In.of {n : Nat} {T : List R} {j : Nat} (h : j < n) (hk : kR T j ≠ 0) : In n T (gR T j) := ⟨hk, j, h, rfl⟩

theorem Ok.uniq {n : Nat} {S : Hs} {T T' : List R} (h : Ok S n T) (h' : Ok S n T') (hin : ∀ x, In n T x ↔ In n T' x) : T = T' := by
  have key : ∀ (m : Nat) (j j' : Nat), j < n → j' < n → kR T j ≠ 0 → kR T j = kR T' j' → (18446744073709551616 - S.wt (kR T j)).toNat < m → j = j' := by
    intro m
    induction m with
    | zero => intro j j' _ _ _ _ hm; exact absurd hm (Nat.not_lt_zero _)
    | succ m ih =>
      intro j j' hj hj' hk he hm
      have hu := S.hi _ (h.uk j hj hk)
      have hh := S.hlt n (kR T j) (by omega)
      rcases Nat.lt_trichotomy (dist n (S.hm n (kR T j)) j) (dist n (S.hm n (kR T j)) j') with hd | hd | hd
      · rw [he] at hd hk hu hm
        obtain ⟨a1, a2⟩ := h'.way j' hj' hk j hj hd
        obtain ⟨j2, b1, b2, b3⟩ := ((hin _).2 (In.of hj a1)).key
        have := ih j2 j b1 hj (by rw [b2]; exact a1) b2 (by rw [b2]; show (18446744073709551616 - S.wt (kR T' j)).toNat < m; omega)
        subst this
        have : kR T j2 = kR T' j2 := b2
        rw [← this, he] at a2
        omega
      · have d1 := dist_c n (S.hm n (kR T j)) j; have d2 := dist_c n (S.hm n (kR T j)) j'; omega
      · obtain ⟨a1, a2⟩ := h.way j hj hk j' hj' hd
        obtain ⟨j3, b1, b2, b3⟩ := ((hin _).1 (In.of hj' a1)).key
        have b2 : kR T' j3 = kR T j' := b2
        have := ih j' j3 hj' b1 a1 b2.symm (by omega)
        subst this
        rw [← b2, he] at a2
        omega
  have one : ∀ j, j < n → kR T j ≠ 0 → gR T' j = gR T j := fun j hj hk => by
    obtain ⟨j', a1, a2, a3⟩ := ((hin _).1 (In.of hj hk)).key
    have := key _ j j' hj a1 hk a2.symm (Nat.lt_succ_self _)
    subst this; exact a3
  have two : ∀ j, j < n → kR T j = 0 → gR T' j = (0, 0) := fun j hj hk => by
    by_cases hk' : kR T' j = 0
    · exact h'.zer j hj hk'
    · obtain ⟨j', a1, a2, a3⟩ := ((hin _).2 (In.of hj hk')).key
      have a2 : kR T j' = kR T' j := a2
      have := key _ j' j a1 hj (by rw [a2]; exact hk') a2 (Nat.lt_succ_self _)
      subst this
      exact absurd (a2.symm.trans hk) hk'
  refine List.ext_getElem? fun j => ?_
  by_cases hj : j < n
  · have e : gR T j = gR T' j := by
      by_cases hk : kR T j = 0
      · rw [two j hj hk, h.zer j hj hk]
      · exact (one j hj hk).symm
    unfold gR at e
    rw [List.getD_eq_getElem?_getD, List.getD_eq_getElem?_getD, List.getElem?_eq_getElem (by rw [h.len]; exact hj), List.getElem?_eq_getElem (by rw [h'.len]; exact hj)] at e
    rw [List.getElem?_eq_getElem (by rw [h.len]; exact hj), List.getElem?_eq_getElem (by rw [h'.len]; exact hj)]
    exact congrArg some e
  · rw [List.getElem?_eq_none (by rw [h.len]; omega), List.getElem?_eq_none (by rw [h'.len]; omega)]

/-- Nothing is in it. -/
theorem Ok.nil (S : Hs) (n : Nat) : Ok S n (List.replicate n (0, 0)) := by
  have z : ∀ j, gR (List.replicate n ((0 : Int), (0 : Int))) j = (0, 0) := fun j => by
    unfold gR; rw [List.getD_eq_getElem?_getD, List.getElem?_replicate]; split <;> rfl
  have zk : ∀ j, kR (List.replicate n ((0 : Int), (0 : Int))) j = 0 := fun j => by unfold kR; rw [z]
  exact ⟨by simp, fun j _ _ => z j, fun j _ h => absurd (zk j) h, fun i j _ _ h => absurd (zk i) h, fun j _ h => absurd (zk j) h⟩
theorem In.nil {n : Nat} {x : R} : ¬ In n (List.replicate n (0, 0)) x := fun ⟨h1, j, h2, h3⟩ => by
  unfold gR at h3; rw [List.getD_eq_getElem?_getD, List.getElem?_replicate, if_pos h2] at h3
  exact h1 (by rw [← h3]; rfl)

/-- A record into its place, none being moved. -/
def placeF (n : Nat) : Nat → Nat → List R → R → List R
  | 0, _, T, _ => T
  | f + 1, i, T, r => if kR T i = 0 then T.set i r else placeF n f (nxt n i) T r
theorem placeF_ok {n : Nat} {S : Hs} {T : List R} (h : Ok S n T) {r : R} (hr : S.U r.1) (hr0 : r.1 ≠ 0) (hw : ∀ j, j < n → kR T j ≠ 0 → S.wt r.1 < S.wt (kR T j)) {e : Nat} (he : e < n) (he0 : kR T e = 0) :
    ∀ (f i : Nat), i < n → (∀ s, s < n → dist n (S.hm n r.1) s < dist n (S.hm n r.1) i → kR T s ≠ 0) → dist n i e < f → Ok S n (placeF n f i T r) ∧ ∀ x, In n (placeF n f i T r) x ↔ In n T x ∨ x = r := by
  intro f
  induction f with
  | zero => intro i _ _ hf; exact absurd hf (Nat.not_lt_zero _)
  | succ f ih =>
    intro i hi hs hf
    have hh := S.hlt n r.1 (by omega)
    simp only [placeF]
    split
    · rename_i hz
      have hil : i < T.length := by rw [h.len]; exact hi
      refine ⟨⟨by rw [List.length_set]; exact h.len, fun j hj => ?_, fun j hj => ?_, fun a b ha hb => ?_, fun j hj => ?_⟩, fun x => ?_⟩
      · rw [kR_set hil, gR_set hil]; split
        · intro e; exact absurd e hr0
        · exact h.zer j hj
      · rw [kR_set hil]; split
        · intro _; exact hr
        · exact h.uk j hj
      · rw [kR_set hil, kR_set hil]
        by_cases e1 : a = i <;> by_cases e2 : b = i
        · intro _ _; omega
        · rw [if_pos e1, if_neg e2]; intro _ e3
          have := hw b hb (by rw [← e3]; exact hr0)
          rw [← e3] at this; omega
        · rw [if_neg e1, if_pos e2]; intro q e3
          have := hw a ha q
          rw [e3] at this; omega
        · rw [if_neg e1, if_neg e2]; exact h.nd a b ha hb
      · rw [kR_set hil]
        split
        · rename_i e; subst e
          intro _ s hsn hd
          have : s ≠ j := fun e => by subst e; omega
          rw [kR_set hil, if_neg this]
          have q := hs s hsn hd
          exact ⟨q, hw s hsn q⟩
        · rename_i e
          intro hk s hsn hd
          have q := h.way j hj hk s hsn hd
          have : s ≠ i := fun e => by subst e; exact q.1 hz
          rw [kR_set hil, if_neg this]; exact q
      · constructor
        · rintro ⟨h1, j, h2, h3⟩
          rw [gR_set hil] at h3
          split at h3
          · exact .inr h3.symm
          · exact .inl ⟨h1, j, h2, h3⟩
        · rintro (⟨h1, j, h2, h3⟩ | rfl)
          · refine ⟨h1, j, h2, ?_⟩
            rw [gR_set hil]
            split
            · rename_i e; subst e; exact absurd (by rw [← h3]; exact hz) h1
            · exact h3
          · exact ⟨hr0, i, hi, by rw [gR_set hil, if_pos rfl]⟩
    · rename_i hz
      have hie : i ≠ e := fun q => by subst q; exact hz he0
      refine ih (nxt n i) (by unfold nxt; split <;> omega) (fun s hsn hd => ?_) (by have d1 := dist_c n i e; have d2 := dist_c n (nxt n i) e; have d3 := nxt_c n i; omega)
      by_cases q : s = i
      · subst q; exact hz
      · exact hs s hsn (by have d1 := dist_c n (S.hm n r.1) s; have d2 := dist_c n (S.hm n r.1) (nxt n i); have d3 := dist_c n (S.hm n r.1) i; have d4 := nxt_c n i; omega)

/-- A record into a table, others being moved. -/
def putF (S : Hs) (n : Nat) : Nat → Nat → List R → R → List R
  | 0, _, T, _ => T
  | f + 1, i, T, r => if gR T i = (0, 0) then T.set i r else if S.bf r.1 (kR T i) = true then putF S n f (nxt n i) (T.set i r) (gR T i) else putF S n f (nxt n i) T r
theorem putF_ok {n : Nat} {S : Hs} : ∀ (f i : Nat) (T : List R) (r : R), Ok S n T → S.U r.1 → r.1 ≠ 0 → (∀ j, j < n → kR T j ≠ r.1) → i < n → (∀ s, s < n → dist n (S.hm n r.1) s < dist n (S.hm n r.1) i → kR T s ≠ 0 ∧ S.wt r.1 < S.wt (kR T s)) →
    (∃ e, e < n ∧ kR T e = 0 ∧ dist n i e < f) → Ok S n (putF S n f i T r) ∧ ∀ x, In n (putF S n f i T r) x ↔ In n T x ∨ x = r := by
  intro f
  induction f with
  | zero => rintro i T r _ _ _ _ _ _ ⟨e, _, _, h⟩; exact absurd h (Nat.not_lt_zero _)
  | succ f ih =>
    rintro i T r h hr hr0 hn hi hs ⟨e, he, he0, hf⟩
    have hh := S.hlt n r.1 (by omega)
    have hil : i < T.length := by rw [h.len]; exact hi
    have inset : ∀ x, kR T i = 0 → (In n (T.set i r) x ↔ In n T x ∨ x = r) := fun x hz => by
      constructor
      · rintro ⟨h1, j, h2, h3⟩
        rw [gR_set hil] at h3
        split at h3
        · exact .inr h3.symm
        · exact .inl ⟨h1, j, h2, h3⟩
      · rintro (⟨h1, j, h2, h3⟩ | rfl)
        · refine ⟨h1, j, h2, ?_⟩
          rw [gR_set hil]
          split
          · rename_i e; subst e; exact absurd (by rw [← h3]; exact hz) h1
          · exact h3
        · exact ⟨hr0, i, hi, by rw [gR_set hil, if_pos rfl]⟩
    have okset : (∀ s, s < n → s ≠ i → dist n (S.hm n r.1) s < dist n (S.hm n r.1) i → kR T s ≠ 0 ∧ S.wt r.1 < S.wt (kR T s)) → (∀ j, j < n → j ≠ i → kR T j ≠ 0 → dist n (S.hm n (kR T j)) i < dist n (S.hm n (kR T j)) j → S.wt (kR T j) < S.wt r.1) → Ok S n (T.set i r) := by
      intro g1 g2
      refine ⟨by rw [List.length_set]; exact h.len, fun j hj => ?_, fun j hj => ?_, fun a b ha hb => ?_, fun j hj => ?_⟩
      · rw [kR_set hil, gR_set hil]; split
        · intro e; exact absurd e hr0
        · exact h.zer j hj
      · rw [kR_set hil]; split
        · intro _; exact hr
        · exact h.uk j hj
      · rw [kR_set hil, kR_set hil]
        by_cases e1 : a = i <;> by_cases e2 : b = i
        · intro _ _; omega
        · rw [if_pos e1, if_neg e2]; intro _ e3; exact absurd e3.symm (hn b hb)
        · rw [if_neg e1, if_pos e2]; intro q e3; exact absurd e3 (hn a ha)
        · rw [if_neg e1, if_neg e2]; exact h.nd a b ha hb
      · rw [kR_set hil]
        split
        · rename_i e; subst e
          intro _ s hsn hd
          have : s ≠ j := fun e => by subst e; omega
          rw [kR_set hil, if_neg this]
          exact g1 s hsn this hd
        · rename_i e
          intro hk s hsn hd
          have q := h.way j hj hk s hsn hd
          rw [kR_set hil]
          split
          · rename_i e2; subst e2; exact ⟨hr0, g2 j hj e hk hd⟩
          · exact q
    simp only [putF]
    split
    · rename_i hz
      have hz : kR T i = 0 := by unfold kR; rw [hz]
      exact ⟨okset (fun s hsn _ hd => hs s hsn hd) (fun j hj _ hk hd => absurd hz (h.way j hj hk i hi hd).1), fun x => inset x hz⟩
    · rename_i hz
      have hz : kR T i ≠ 0 := fun e => hz (h.zer i hi e)
      have hie : i ≠ e := fun q => by subst q; exact hz he0
      have hdn : dist n (nxt n i) e < f := by have d1 := dist_c n i e; have d2 := dist_c n (nxt n i) e; have d3 := nxt_c n i; omega
      have hni : nxt n i < n := by unfold nxt; split <;> omega
      have step : ∀ (H s : Nat), H < n → s < n → dist n H s < dist n H (nxt n i) → s = i ∨ dist n H s < dist n H i := fun H s hH hsn hd => by
        by_cases q : s = i
        · exact .inl q
        · right; have d1 := dist_c n H s; have d2 := dist_c n H (nxt n i); have d3 := dist_c n H i; have d4 := nxt_c n i; omega
      split
      · rename_i hb
        have hb : S.wt (kR T i) < S.wt r.1 := of_decide_eq_true ((S.hbf _ _).symm.trans hb)
        have ok2 := okset (fun s hsn _ hd => hs s hsn hd) (fun j hj _ hk hd => by
          have := (h.way j hj hk i hi hd).2
          omega)
        obtain ⟨q1, q2⟩ := ih (nxt n i) (T.set i r) (gR T i) ok2 (h.uk i hi hz) hz (fun j hj => by
          rw [kR_set hil]
          split
          · rename_i e; exact fun e2 => hn i hi e2.symm
          · rename_i e; exact fun e2 => e (h.nd j i hj hi (by rw [e2]; exact hz) e2)) hni (fun s hsn hd => by
          rw [kR_set hil]
          rcases step _ s (S.hlt n _ (by omega)) hsn hd with e | e
          · rw [if_pos e]; exact ⟨hr0, hb⟩
          · have q := h.way i hi hz s hsn e
            have : s ≠ i := fun e2 => by rw [e2] at e; exact Nat.lt_irrefl _ e
            rw [if_neg this]; exact q) ⟨e, he, by rw [kR_set hil, if_neg (Ne.symm hie)]; exact he0, hdn⟩
        refine ⟨q1, fun x => (q2 x).trans ?_⟩
        constructor
        · rintro (⟨h1, j, h2, h3⟩ | rfl)
          · rw [gR_set hil] at h3
            split at h3
            · exact .inr h3.symm
            · exact .inl ⟨h1, j, h2, h3⟩
          · exact .inl (In.of hi hz)
        · rintro (⟨h1, j, h2, h3⟩ | rfl)
          · by_cases e : j = i
            · subst e; exact .inr h3.symm
            · exact .inl ⟨h1, j, h2, by rw [gR_set hil, if_neg e]; exact h3⟩
          · exact .inl ⟨hr0, i, hi, by rw [gR_set hil, if_pos rfl]⟩
      · rename_i hb
        have hb : ¬ S.wt (kR T i) < S.wt r.1 := fun h => hb ((S.hbf _ _).trans (decide_eq_true h))
        have hne := hn i hi
        have hlt : S.wt r.1 < S.wt (kR T i) := by
          rcases Int.lt_trichotomy (S.wt r.1) (S.wt (kR T i)) with q | q | q
          · exact q
          · exact absurd (S.inj _ _ hr (h.uk i hi hz) q).symm hne
          · exact absurd q hb
        exact ih (nxt n i) T r h hr hr0 hn hni (fun s hsn hd => by
          rcases step _ s hh hsn hd with e | e
          · rw [e]; exact ⟨hz, hlt⟩
          · exact hs s hsn e) ⟨e, he, he0, hdn⟩

/-- Where a key is; below 0: it is not there. -/
def findF (S : Hs) (n : Nat) (T : List R) (key : Int) : Nat → Nat → Int
  | 0, _ => -1
  | f + 1, i => if kR T i = key then (i : Int) else if kR T i = 0 ∨ S.bf key (kR T i) = true then -1 else findF S n T key f (nxt n i)
theorem findF_in {n : Nat} {S : Hs} {T : List R} (h : Ok S n T) {key : Int} {p : Nat} (hp : p < n) (hk : kR T p = key) (h0 : key ≠ 0) : ∀ (f i : Nat), i < n → dist n (S.hm n key) i ≤ dist n (S.hm n key) p → dist n i p < f → findF S n T key f i = p := by
  intro f
  induction f with
  | zero => intro i _ _ hf; exact absurd hf (Nat.not_lt_zero _)
  | succ f ih =>
    intro i hi hd hf
    have hh := S.hlt n key (by omega)
    simp only [findF]
    by_cases e : i = p
    · subst e; rw [if_pos hk]
    · have hlt : dist n (S.hm n key) i < dist n (S.hm n key) p := by
        have d1 := dist_c n (S.hm n key) i; have d2 := dist_c n (S.hm n key) p; omega
      have q := h.way p hp (by rw [hk]; exact h0) i hi (by rw [hk]; exact hlt)
      rw [hk] at q
      rw [if_neg (fun e2 => by rw [e2] at q; omega), if_neg (fun e2 => by
        rcases e2 with e2 | e2
        · exact q.1 e2
        · have : S.wt (kR T i) < S.wt key := of_decide_eq_true ((S.hbf _ _).symm.trans e2)
          omega)]
      refine ih (nxt n i) (by unfold nxt; split <;> omega) ?_ ?_
      · have d1 := dist_c n (S.hm n key) i; have d2 := dist_c n (S.hm n key) p; have d3 := dist_c n (S.hm n key) (nxt n i); have d4 := nxt_c n i; omega
      · have d1 := dist_c n i p; have d2 := dist_c n (nxt n i) p; have d4 := nxt_c n i; omega
theorem findF_out {n : Nat} {S : Hs} {T : List R} {key : Int} (hn : ∀ j, j < n → kR T j ≠ key) : ∀ (f i : Nat), i < n → findF S n T key f i = -1 := by
  intro f
  induction f with
  | zero => intro i _; rfl
  | succ f ih =>
    intro i hi
    simp only [findF]
    rw [if_neg (hn i hi)]
    split
    · rfl
    · exact ih _ (by unfold nxt; split <;> omega)

/-- A hole is filled by those that would have been there; so many steps at most. -/
def delF (S : Hs) (n : Nat) : Nat → Nat → Nat → List R → Option (List R)
  | 0, _, _, _ => none
  | f + 1, hole, i, T => if i = hole then some T else if gR T i = (0, 0) then some T else if dist n hole i ≤ dist n (S.hm n (kR T i)) i then delF S n f i (nxt n i) ((T.set hole (gR T i)).set i (0, 0)) else delF S n f hole (nxt n i) T
def atN (n h c : Nat) : Nat := if h + c < n then h + c else h + c - n
theorem atN_c (n h c : Nat) : (h + c < n ∧ atN n h c = h + c) ∨ (n ≤ h + c ∧ atN n h c = h + c - n) := by
  unfold atN; split
  · exact .inl ⟨by assumption, rfl⟩
  · exact .inr ⟨by omega, rfl⟩
structure Hol (S : Hs) (n : Nat) (T : List R) (h c : Nat) (w : Int) : Prop where
  len : T.length = n
  hn : h < n
  c1 : 1 ≤ c
  cn : c ≤ n
  h0 : gR T h = (0, 0)
  zer : ∀ j, j < n → kR T j = 0 → gR T j = (0, 0)
  uk : ∀ j, j < n → kR T j ≠ 0 → S.U (kR T j)
  nd : ∀ i j, i < n → j < n → kR T i ≠ 0 → kR T i = kR T j → i = j
  way : ∀ j, j < n → kR T j ≠ 0 → ∀ s, s < n → s ≠ h → dist n (S.hm n (kR T j)) s < dist n (S.hm n (kR T j)) j → kR T s ≠ 0 ∧ S.wt (kR T j) < S.wt (kR T s)
  past : ∀ j, j < n → kR T j ≠ 0 → dist n (S.hm n (kR T j)) h < dist n (S.hm n (kR T j)) j → c ≤ dist n h j ∧ S.wt (kR T j) < w
theorem Hol.ok {n : Nat} {S : Hs} {T : List R} {h c : Nat} {w : Int} (H : Hol S n T h c w) (hp : ∀ j, j < n → kR T j ≠ 0 → dist n (S.hm n (kR T j)) h < dist n (S.hm n (kR T j)) j → c ≤ dist n h j → False) : Ok S n T :=
  ⟨H.len, H.zer, H.uk, H.nd, fun j hj hk s hs hd => by
    by_cases e : s = h
    · subst e; exact (hp j hj hk hd (H.past j hj hk hd).1).elim
    · exact H.way j hj hk s hs e hd⟩
theorem delF_ok {n : Nat} {S : Hs} : ∀ (f h c : Nat) (T : List R) (w : Int), Hol S n T h c w → w.toNat * (n + 1) + (n - c) < f → ∃ T', delF S n f h (atN n h c) T = some T' ∧ Ok S n T' ∧ ∀ x, In n T' x ↔ In n T x := by
  intro f
  induction f with
  | zero => intro h c T w _ hf; exact absurd hf (Nat.not_lt_zero _)
  | succ f ih =>
    intro h c T w H hf
    have hn := H.hn
    have c1 := H.c1
    have cn := H.cn
    have hi : atN n h c < n := by unfold atN; split <;> omega
    have hil : atN n h c < T.length := by rw [H.len]; exact hi
    simp only [delF]
    split
    · rename_i e
      have hat := atN_c n h c
      have hc : c = n := by omega
      refine ⟨T, rfl, H.ok (fun j hj hk _ hd => ?_), fun x => Iff.rfl⟩
      have d1 := dist_c n h j; omega
    · rename_i e
      have hc : c < n := by
        rcases Nat.lt_or_ge c n with q | q
        · exact q
        · exfalso; apply e; have hat := atN_c n h c; omega
      have hat := atN_c n h c
      have hdi : dist n h (atN n h c) = c := by have d1 := dist_c n h (atN n h c); omega
      have hne : atN n h c ≠ h := e
      split
      · rename_i hz
        have hz : kR T (atN n h c) = 0 := by unfold kR; rw [hz]
        refine ⟨T, rfl, H.ok (fun j hj hk hd hcj => ?_), fun x => Iff.rfl⟩
        have hji : j ≠ atN n h c := fun e => by rw [e] at hk; exact hk hz
        have hh := S.hlt n (kR T j) (by omega)
        refine (H.way j hj hk (atN n h c) hi hne ?_).1 hz
        generalize atN n h c = i at *
        have d1 := dist_c n (S.hm n (kR T j)) h; have d2 := dist_c n (S.hm n (kR T j)) j; have d3 := dist_c n (S.hm n (kR T j)) i; have d4 := dist_c n h j; have d5 := dist_c n h i
        omega
      · rename_i hz
        have hz : kR T (atN n h c) ≠ 0 := fun q => hz (H.zer _ hi q)
        have hnx : nxt n (atN n h c) = atN n h (c + 1) := by have d1 := nxt_c n (atN n h c); have d2 := atN_c n h (c + 1); omega
        have hh := S.hlt n (kR T (atN n h c)) (by omega)
        split
        · rename_i hmv
          rw [hdi] at hmv
          have hpass : dist n (S.hm n (kR T (atN n h c))) h < dist n (S.hm n (kR T (atN n h c))) (atN n h c) := by
            generalize atN n h c = i at *
            have d1 := dist_c n (S.hm n (kR T i)) h; have d2 := dist_c n (S.hm n (kR T i)) i; have d5 := dist_c n h i
            omega
          have hpw := (H.past _ hi hz hpass).2
          have hlo := S.lo _ (H.uk _ hi hz)
          have hnx2 : nxt n (atN n h c) = atN n (atN n h c) 1 := by have d1 := nxt_c n (atN n h c); have d2 := atN_c n (atN n h c) 1; omega
          generalize hI : atN n h c = i at *
          have hhl : h < T.length := by rw [H.len]; exact hn
          have hl2 : i < (T.set h (gR T i)).length := by rw [List.length_set]; exact hil
          have g2 : ∀ j, gR ((T.set h (gR T i)).set i (0, 0)) j = if j = i then (0, 0) else if j = h then gR T i else gR T j := fun j => by rw [gR_set hl2, gR_set hhl]
          have k2 : ∀ j, kR ((T.set h (gR T i)).set i (0, 0)) j = if j = i then 0 else if j = h then kR T i else kR T j := fun j => by
            unfold kR; rw [g2]; split
            · rfl
            · split <;> rfl
          have H2 : Hol S n ((T.set h (gR T i)).set i (0, 0)) i 1 (S.wt (kR T i)) := by
            refine ⟨by simp [H.len], hi, Nat.le_refl _, by omega, by rw [g2, if_pos rfl], fun j hj => ?_, fun j hj => ?_, fun a b ha hb => ?_, fun j hj => ?_, fun j hj => ?_⟩
            · rw [k2, g2]
              by_cases e1 : j = i
              · rw [if_pos e1, if_pos e1]; intro _; rfl
              · rw [if_neg e1, if_neg e1]
                by_cases e2 : j = h
                · rw [if_pos e2, if_pos e2]; exact fun q => absurd q hz
                · rw [if_neg e2, if_neg e2]; exact H.zer j hj
            · rw [k2]
              split
              · intro q; exact absurd rfl q
              · split
                · intro _; exact H.uk i hi hz
                · exact H.uk j hj
            · rw [k2, k2]
              by_cases a1 : a = i
              · rw [if_pos a1]; intro q; exact absurd rfl q
              · rw [if_neg a1]
                by_cases b1 : b = i
                · rw [if_pos b1]; intro q q2; exact absurd q2 q
                · rw [if_neg b1]
                  by_cases a2 : a = h <;> by_cases b2 : b = h
                  · intro _ _; omega
                  · rw [if_pos a2, if_neg b2]; intro q q2
                    exact absurd (H.nd i b hi hb q q2).symm b1
                  · rw [if_neg a2, if_pos b2]; intro q q2
                    exact absurd (H.nd a i ha hi q q2) a1
                  · rw [if_neg a2, if_neg b2]; exact H.nd a b ha hb
            · rw [k2]
              by_cases e1 : j = i
              · rw [if_pos e1]; intro q; exact absurd rfl q
              · rw [if_neg e1]
                by_cases e2 : j = h
                · rw [if_pos e2]
                  intro _ s hs hsi hd
                  subst e2
                  have hsj : s ≠ j := fun q => by subst q; exact Nat.lt_irrefl _ hd
                  rw [k2, if_neg hsi, if_neg hsj]
                  exact H.way i hi hz s hs hsj (Nat.lt_trans hd hpass)
                · rw [if_neg e2]
                  intro hk s hs hsi hd
                  rw [k2, if_neg hsi]
                  by_cases e3 : s = h
                  · rw [if_pos e3]
                    subst e3
                    have hcj := (H.past j hj hk hd).1
                    have hjh := S.hlt n (kR T j) (by omega)
                    exact ⟨hz, (H.way j hj hk i hi hne (by
                      have d1 := dist_c n (S.hm n (kR T j)) s; have d2 := dist_c n (S.hm n (kR T j)) j; have d3 := dist_c n (S.hm n (kR T j)) i; have d4 := dist_c n s j; have d5 := dist_c n s i
                      omega)).2⟩
                  · rw [if_neg e3]
                    exact H.way j hj hk s hs e3 hd
            · rw [k2]
              by_cases e1 : j = i
              · rw [if_pos e1]; intro q; exact absurd rfl q
              · rw [if_neg e1]
                by_cases e2 : j = h
                · rw [if_pos e2]
                  intro _ hd
                  subst e2
                  exfalso
                  exact absurd hd (Nat.not_lt.2 (Nat.le_of_lt hpass))
                · rw [if_neg e2]
                  intro hk hd
                  refine ⟨?_, (H.way j hj hk i hi hne hd).2⟩
                  have d1 := dist_c n i j; omega
          rw [hnx2]
          obtain ⟨T', q1, q2, q3⟩ := ih i 1 _ _ H2 (by
            have e1 : (S.wt (kR T i)).toNat < w.toNat := by omega
            have e2 : (S.wt (kR T i)).toNat * (n + 1) + (n + 1) ≤ w.toNat * (n + 1) := by
              have := Nat.mul_le_mul_right (n + 1) (Nat.succ_le_of_lt e1)
              rw [Nat.succ_mul] at this; exact this
            omega)
          refine ⟨T', q1, q2, fun x => (q3 x).trans ?_⟩
          constructor
          · rintro ⟨h1, j, h2, h3⟩
            rw [g2] at h3
            split at h3
            · exact absurd (by rw [← h3]) h1
            · split at h3
              · exact ⟨h1, i, hi, h3⟩
              · exact ⟨h1, j, h2, h3⟩
          · rintro ⟨h1, j, h2, h3⟩
            by_cases e1 : j = i
            · exact ⟨h1, h, hn, by rw [g2, if_neg (Ne.symm hne), if_pos rfl, ← e1]; exact h3⟩
            · refine ⟨h1, j, h2, ?_⟩
              rw [g2, if_neg e1]
              split
              · rename_i e2; subst e2; exact absurd (by rw [← h3, H.h0]) h1
              · exact h3
        · rename_i hmv
          rw [hdi] at hmv
          rw [hnx]
          refine ih h (c + 1) T w ⟨H.len, hn, by omega, by omega, H.h0, H.zer, H.uk, H.nd, H.way, fun j hj hk hd => ?_⟩ (by omega)
          obtain ⟨p1, p2⟩ := H.past j hj hk hd
          refine ⟨?_, p2⟩
          rcases Nat.lt_or_ge c (dist n h j) with q | q
          · exact q
          · exfalso
            have ej : j = atN n h c := by
              generalize atN n h c = i at *
              have d4 := dist_c n h j; have d5 := dist_c n h i
              omega
            subst ej
            generalize atN n h c = i at *
            have d1 := dist_c n (S.hm n (kR T i)) h; have d2 := dist_c n (S.hm n (kR T i)) i; have d5 := dist_c n h i
            omega
/-- A record is taken out. -/
theorem del_ok {n : Nat} {S : Hs} {T : List R} (h : Ok S n T) {p : Nat} (hp : p < n) (hk : kR T p ≠ 0) : ∃ f T', delF S n f p (nxt n p) (T.set p (0, 0)) = some T' ∧ Ok S n T' ∧ ∀ x, In n T' x ↔ In n T x ∧ x ≠ gR T p := by
  have hpl : p < T.length := by rw [h.len]; exact hp
  have e : nxt n p = atN n p 1 := by unfold nxt atN; split <;> split <;> omega
  have H : Hol S n (T.set p (0, 0)) p 1 (S.wt (kR T p)) := by
    refine ⟨by simp [h.len], hp, Nat.le_refl _, by omega, by rw [gR_set hpl, if_pos rfl], fun j hj => ?_, fun j hj => ?_, fun a b ha hb => ?_, fun j hj => ?_, fun j hj => ?_⟩
    · rw [kR_set hpl, gR_set hpl]; split
      · intro _; rfl
      · exact h.zer j hj
    · rw [kR_set hpl]; split
      · intro q; exact absurd rfl q
      · exact h.uk j hj
    · rw [kR_set hpl, kR_set hpl]
      by_cases a1 : a = p
      · rw [if_pos a1]; intro q; exact absurd rfl q
      · rw [if_neg a1]
        by_cases b1 : b = p
        · rw [if_pos b1]; intro q q2; exact absurd q2 q
        · rw [if_neg b1]; exact h.nd a b ha hb
    · rw [kR_set hpl]
      by_cases a1 : j = p
      · rw [if_pos a1]; intro q; exact absurd rfl q
      · rw [if_neg a1]; intro hk s hs hsp hd
        rw [kR_set hpl, if_neg hsp]; exact h.way j hj hk s hs hd
    · rw [kR_set hpl]
      by_cases a1 : j = p
      · rw [if_pos a1]; intro q; exact absurd rfl q
      · rw [if_neg a1]; intro hk hd
        refine ⟨by have d1 := dist_c n p j; omega, (h.way j hj hk p hp hd).2⟩
  obtain ⟨T', q1, q2, q3⟩ := delF_ok _ p 1 _ _ H (Nat.lt_succ_self _)
  refine ⟨_, T', by rw [e]; exact q1, q2, fun x => (q3 x).trans ?_⟩
  constructor
  · rintro ⟨h1, j, h2, h3⟩
    rw [gR_set hpl] at h3
    split at h3
    · exact absurd (by rw [← h3]) h1
    · rename_i ne
      refine ⟨⟨h1, j, h2, h3⟩, fun e => ne (h.nd j p h2 hp (by unfold kR; rw [h3]; exact h1) (by unfold kR; rw [h3, e]))⟩
  · rintro ⟨⟨h1, j, h2, h3⟩, ne⟩
    refine ⟨h1, j, h2, ?_⟩
    rw [gR_set hpl]
    split
    · rename_i e; subst e; exact absurd h3.symm ne
    · exact h3
end Go.Proofs.Yteinekidpokbpaa.PrT
