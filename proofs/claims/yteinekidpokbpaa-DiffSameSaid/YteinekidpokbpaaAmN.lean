/- Whatever order is drawn. -/
import Derived.Test.YteinekidpokbpaaAmM
namespace Go.Proofs.Yteinekidpokbpaa.Am
set_option linter.unusedVariables false
set_option linter.unusedSimpArgs false
open Go.RowKit

def atR : List Rec → Nat → Option Rec
  | [], _ => none
  | r :: rs, j => if j = rs.length then some r else atR rs j
/-- What is known of slots, and the machine's memory, when the operations of D are done. -/
def tsD (n : Nat) (D : Nat → Bool) (ts0 : Sl) : List Rec → Sl
  | [] => ts0
  | r :: rs => if D rs.length then putT n (tsD n D ts0 rs) r.d r.t else tsD n D ts0 rs
def hD (D : Nat → Bool) (H0 : Hp) : List Rec → Hp
  | [] => H0
  | r :: rs => if D rs.length then r.up ++ hD D H0 rs else hD D H0 rs

theorem atR_lt {rs : List Rec} {j : Nat} {r : Rec} (h : atR rs j = some r) : j < rs.length := by
  induction rs with
  | nil => cases h
  | cons a rs ih =>
    simp only [atR] at h
    split at h
    · simp; omega
    · have := ih h; simp; omega
theorem atR_some {rs : List Rec} {j : Nat} (h : j < rs.length) : ∃ r, atR rs j = some r := by
  induction rs with
  | nil => simp at h
  | cons a rs ih =>
    simp only [atR]
    split
    · exact ⟨_, rfl⟩
    · simp at h; exact ih (by omega)
theorem tget_put {n : Nat} {ts : Sl} {d : Option Tmp} {t : T} {s : Nat} : tget (putT n ts d t) s = if d = some s ∧ s < n then t else tget ts s := by
  cases d with
  | none => simp [putT]
  | some d =>
    simp only [putT]
    cases e : Nat.blt d n
    · have : ¬ d < n := fun h => by rw [← Nat.blt_eq] at h; rw [h] at e; cases e
      rw [if_neg]; rintro ⟨h1, h2⟩; cases h1; exact this h2
    · have hd : d < n := by rwa [Nat.blt_eq] at e
      simp only [tget]
      cases e2 : Nat.beq d s
      · have : ¬ d = s := fun h => by subst h; rw [Nat.beq_refl] at e2; cases e2
        rw [if_neg]; rintro ⟨h1, -⟩; cases h1; exact this rfl
      · have := Nat.eq_of_beq_eq_true e2; subst this; rw [if_pos ⟨rfl, hd⟩]
theorem upKeys_mem {up : List (Nat × Blk)} {q : Nat} : q ∈ upKeys up ↔ ∃ b, (q, b) ∈ up := by
  induction up with
  | nil => simp [upKeys]
  | cons p up ih => obtain ⟨k, b⟩ := p; simp [upKeys, ih]; constructor
                    · rintro (rfl | ⟨b', h⟩)
                      · exact ⟨b, .inl ⟨rfl, rfl⟩⟩
                      · exact ⟨b', .inr h⟩
                    · rintro ⟨b', ⟨h1, h2⟩ | h⟩
                      · exact .inl h1
                      · exact .inr ⟨b', h⟩
theorem get_up_not {up : List (Nat × Blk)} {H : Hp} {q : Nat} (h : q ∉ upKeys up) : Hp.get (up ++ H) q = Hp.get H q := by
  induction up with
  | nil => rfl
  | cons p up ih =>
    obtain ⟨k, b⟩ := p
    simp only [upKeys, List.mem_cons, not_or] at h
    simp only [List.cons_append, Hp.get]
    have : Nat.beq k q = false := by
      cases e : Nat.beq k q
      · rfl
      · exact absurd (Nat.eq_of_beq_eq_true e).symm h.1
    rw [this]; exact ih h.2
theorem get_up_in {up : List (Nat × Blk)} {H H' : Hp} {q : Nat} (h : q ∈ upKeys up) : Hp.get (up ++ H) q = Hp.get (up ++ H') q := by
  induction up with
  | nil => simp [upKeys] at h
  | cons p up ih =>
    obtain ⟨k, b⟩ := p
    simp only [List.cons_append, Hp.get]
    cases e : Nat.beq k q
    · simp only [upKeys, List.mem_cons] at h
      rcases h with h | h
      · subst h; rw [Nat.beq_refl] at e; cases e
      · exact ih h
    · rfl

theorem tsD_congr {n : Nat} {D E : Nat → Bool} {ts0 : Sl} {s : Nat} : ∀ {rs : List Rec}, (∀ j r, atR rs j = some r → r.d = some s → D j = E j) → tget (tsD n D ts0 rs) s = tget (tsD n E ts0 rs) s := by
  intro rs
  induction rs with
  | nil => intro _; rfl
  | cons a rs ih =>
    intro h
    have ih' := ih (fun j r hj hd => h j r (by simp only [atR]; rw [if_neg (by have := atR_lt hj; omega)]; exact hj) hd)
    simp only [tsD]
    by_cases hd : a.d = some s
    · have := h rs.length a (by simp [atR]) hd
      rw [this]
      split
      · rw [tget_put, tget_put, ih']
      · exact ih'
    · split <;> split <;> simp only [tget_put, hd, false_and, if_false, ih']
theorem hD_congr {D E : Nat → Bool} {H0 : Hp} {q : Nat} : ∀ {rs : List Rec}, (∀ j r, atR rs j = some r → q ∈ upKeys r.up → D j = E j) → Hp.get (hD D H0 rs) q = Hp.get (hD E H0 rs) q := by
  intro rs
  induction rs with
  | nil => intro _; rfl
  | cons a rs ih =>
    intro h
    have ih' := ih (fun j r hj hd => h j r (by simp only [atR]; rw [if_neg (by have := atR_lt hj; omega)]; exact hj) hd)
    simp only [hD]
    by_cases hd : q ∈ upKeys a.up
    · have := h rs.length a (by simp [atR]) hd
      rw [this]
      split
      · exact get_up_in hd
      · exact ih'
    · split <;> split <;> simp only [get_up_not hd, ih']

/-- One operation more. -/
def plus (D : Nat → Bool) (i : Nat) (j : Nat) : Bool := if j = i then true else D j
theorem tsD_plus {n : Nat} {D : Nat → Bool} {ts0 : Sl} {s i : Nat} {r : Rec} : ∀ {rs : List Rec}, atR rs i = some r → (∀ j r', atR rs j = some r' → j ≠ i → r.d = some s → r'.d ≠ some s) →
    tget (tsD n (plus D i) ts0 rs) s = tget (putT n (tsD n D ts0 rs) r.d r.t) s := by
  intro rs h hu
  rw [tget_put]
  by_cases hd : r.d = some s
  · by_cases hs : s < n
    · rw [if_pos ⟨hd, hs⟩]
      have key : ∀ {rs : List Rec}, atR rs i = some r → (∀ j r', atR rs j = some r' → j ≠ i → r'.d ≠ some s) → tget (tsD n (plus D i) ts0 rs) s = r.t := by
        intro rs
        induction rs with
        | nil => intro h; cases h
        | cons a rs ih =>
          intro h hu
          simp only [atR] at h
          split at h
          · rename_i e; cases h; simp only [tsD, plus, e, if_true, tget_put]; rw [if_pos ⟨hd, hs⟩]
          · rename_i e
            have ha := hu rs.length a (by simp [atR]) (fun e' => e e'.symm)
            have ih' := ih h (fun j r' hj => hu j r' (by simp only [atR]; rw [if_neg (by have := atR_lt hj; omega)]; exact hj))
            simp only [tsD]
            split
            · rw [tget_put, if_neg (by rintro ⟨h1, _⟩; exact ha h1)]; exact ih'
            · exact ih'
      exact key h (fun j r' hj hji => hu j r' hj hji hd)
    · rw [if_neg (fun hh => hs hh.2)]
      have key : ∀ {D : Nat → Bool} {rs : List Rec}, tget (tsD n D ts0 rs) s = tget ts0 s := by
        intro D rs
        induction rs with
        | nil => rfl
        | cons a rs ih =>
          simp only [tsD]
          split
          · rw [tget_put, if_neg (fun hh => hs hh.2)]; exact ih
          · exact ih
      rw [key, key]
  · rw [if_neg (fun hh => hd hh.1)]
    refine tsD_congr (fun j r' hj hd' => ?_)
    unfold plus
    rw [if_neg]
    rintro rfl
    rw [h] at hj; cases hj; exact hd hd'
theorem hD_plus {D : Nat → Bool} {H0 : Hp} {q i : Nat} {r : Rec} : ∀ {rs : List Rec}, atR rs i = some r → (∀ j r', atR rs j = some r' → i < j → q ∈ upKeys r.up → q ∈ upKeys r'.up → D j = false) →
    Hp.get (hD (plus D i) H0 rs) q = Hp.get (r.up ++ hD D H0 rs) q := by
  intro rs h hu
  by_cases hd : q ∈ upKeys r.up
  · have key : ∀ {rs : List Rec}, atR rs i = some r → (∀ j r', atR rs j = some r' → i < j → q ∈ upKeys r'.up → D j = false) → ∀ H', Hp.get (hD (plus D i) H0 rs) q = Hp.get (r.up ++ H') q := by
      intro rs
      induction rs with
      | nil => intro h; cases h
      | cons a rs ih =>
        intro h hu H'
        simp only [atR] at h
        split at h
        · rename_i e; cases h; simp only [hD, plus, e, if_true]; exact get_up_in hd
        · rename_i e
          have hlt := atR_lt h
          have ih' := ih h (fun j r' hj => hu j r' (by simp only [atR]; rw [if_neg (by have := atR_lt hj; omega)]; exact hj)) H'
          simp only [hD]
          by_cases ha : q ∈ upKeys a.up
          · have := hu rs.length a (by simp [atR]) hlt ha
            have hp : plus D i rs.length = false := by unfold plus; rw [if_neg (by omega)]; exact this
            rw [hp]; exact ih'
          · split
            · rw [get_up_not ha]; exact ih'
            · exact ih'
    exact key h (fun j r' hj hij => hu j r' hj hij hd) _
  · rw [get_up_not hd]
    refine hD_congr (fun j r' hj hd' => ?_)
    unfold plus
    rw [if_neg]
    rintro rfl
    rw [h] at hj; cases hj; exact hd hd'

/-! ### who waits for whom -/
theorem ancOne_spec {acc : List Nat} {j : Nat} : ∀ {es : List Edge} {s : Nat}, (ancOne acc es s).testBit j = true → s.testBit j = true ∨ ∃ e ∈ es, Region.binds .any e = true ∧ (e.on = j ∨ (acc.getD e.on 0).testBit j = true) := by
  intro es
  induction es with
  | nil => intro s h; exact .inl h
  | cons e es ih =>
    intro s h
    simp only [ancOne] at h
    split at h
    · rename_i hb
      rcases ih h with h1 | ⟨e', h1, h2⟩
      · rw [Nat.testBit_or, Nat.testBit_or, Bool.or_eq_true, Bool.or_eq_true] at h1
        rcases h1 with (h1 | h1) | h1
        · exact .inl h1
        · rw [Nat.testBit_two_pow] at h1; exact .inr ⟨e, List.mem_cons_self .., hb, .inl (by simpa using h1)⟩
        · exact .inr ⟨e, List.mem_cons_self .., hb, .inr h1⟩
      · exact .inr ⟨e', List.mem_cons_of_mem _ h1, h2⟩
    · rcases ih h with h1 | ⟨e', h1, h2⟩
      · exact .inl h1
      · exact .inr ⟨e', List.mem_cons_of_mem _ h1, h2⟩
theorem ancs_spec : ∀ {l : List Oper} {acc : List Nat} {i : Nat} {o : Oper}, l[i]? = some o → ∀ j, ((ancs l acc).getD (acc.length + i) 0).testBit j = true →
    ∃ e ∈ o.after.toList, Region.binds .any e = true ∧ (e.on = j ∨ (e.on < acc.length + i ∧ ((ancs l acc).getD e.on 0).testBit j = true)) := by
  have pre : ∀ (l : List Oper) (acc : List Nat), ∃ tl, ancs l acc = acc ++ tl := by
    intro l
    induction l with
    | nil => intro acc; exact ⟨[], by simp [ancs]⟩
    | cons o l ih => intro acc; obtain ⟨tl, h⟩ := ih (acc ++ [ancOne acc o.after.toList 0]); exact ⟨ancOne acc o.after.toList 0 :: tl, by simp only [ancs]; rw [h, List.append_assoc]; rfl⟩
  intro l
  induction l with
  | nil => intro acc i o h; simp at h
  | cons a l ih =>
    intro acc i o h j hj
    simp only [ancs] at hj ⊢
    cases i with
    | zero =>
      simp at h; subst h
      obtain ⟨tl, htl⟩ := pre l (acc ++ [ancOne acc a.after.toList 0])
      have e1 : (ancs l (acc ++ [ancOne acc a.after.toList 0])).getD (acc.length + 0) 0 = ancOne acc a.after.toList 0 := by
        rw [htl, List.getD_eq_getElem?_getD]; simp
      rw [e1] at hj
      rcases ancOne_spec hj with h1 | ⟨e, h1, h2, h3⟩
      · simp at h1
      · refine ⟨e, h1, h2, h3.imp id (fun h4 => ?_)⟩
        have hlt : e.on < acc.length := by
          rcases Nat.lt_or_ge e.on acc.length with h5 | h5
          · exact h5
          · rw [List.getD_eq_getElem?_getD, List.getElem?_eq_none h5] at h4; simp at h4
        refine ⟨by omega, ?_⟩
        rw [htl, List.getD_eq_getElem?_getD, List.append_assoc, List.getElem?_append_left hlt, ← List.getD_eq_getElem?_getD]
        exact h4
    | succ i =>
      simp at h
      have := ih (acc := acc ++ [ancOne acc a.after.toList 0]) h j (by rw [List.length_append, List.length_singleton, show acc.length + 1 + i = acc.length + (i + 1) by omega]; exact hj)
      rw [List.length_append, List.length_singleton, show acc.length + 1 + i = acc.length + (i + 1) by omega] at this
      exact this
end Go.Proofs.Yteinekidpokbpaa.Am
