/- Arguments of flat types (structs and arrays of whole numbers and truth values), and slices of such, opened. -/
import Derived.Test.YteinekidpokbpaaSliceR
import Derived.Test.YteinekidpokbpaaAmT
import Derived.Deep.Slices
import Derived.WideShapes
namespace Go.Proofs.Yteinekidpokbpaa
open Go.ChangeShapes Go.WideShapes Go.ChangeAt Go.RowKit Go.Deep
set_option linter.unusedVariables false
set_option linter.unusedSimpArgs false

/-- A leaf of a flat type. -/
inductive Lf | i (k : IntKind) | b
  deriving DecidableEq
def LfOk : Lf → Value → Prop
  | .i k, v => ∃ n, v = .int k n ∧ (Lit.int k n).wf = true
  | .b, v => ∃ b, v = .bool b
def LfsOk : List Lf → List Value → Prop
  | [], vs => vs = []
  | l :: ls, vs => ∃ v r, vs = v :: r ∧ LfOk l v ∧ LfsOk ls r
/-- Has this type these leaves? -/
def flatB (P : Program) : Nat → TypeId → List Lf → Bool
  | 0, _, _ => false
  | n + 1, t, ls => match P.underlying t with
    | some (.int k) => decide (ls = [.i k])
    | some .bool => decide (ls = [.b])
    | some (.array m e) => Nat.beq (P.cellsOf t) ls.length && (Nat.beq (m * P.cellsOf e) ls.length && ((List.range m).all fun i => flatB P n e ((ls.drop (i * P.cellsOf e)).take (P.cellsOf e))))
    | some (.struct fs) => Nat.beq (P.cellsOf t) ls.length && (((List.range ls.length).all fun j => fs.toList.any fun f => Nat.ble f.offset j && Nat.blt j (f.offset + P.cellsOf f.type)) && (fs.toList.all fun f => flatB P n f.type ((ls.drop f.offset).take (P.cellsOf f.type))))
    | _ => false
theorem lfsOk_of : ∀ {ls : List Lf} {cs : List Value}, cs.length = ls.length → (∀ (j : Nat) l, ls[j]? = some l → ∃ v, cs[j]? = some v ∧ LfOk l v) → LfsOk ls cs
  | [], cs, h, _ => List.eq_nil_of_length_eq_zero h
  | l :: ls, [], h, _ => by simp at h
  | l :: ls, c :: cs, h, hj => by
    obtain ⟨v, hv, ho⟩ := hj 0 l rfl
    obtain rfl : c = v := by simpa using hv
    exact ⟨c, cs, rfl, ho, lfsOk_of (by simpa using h) fun j l hl => hj (j + 1) l hl⟩
theorem LfsOk.len : ∀ {ls : List Lf} {cs : List Value}, LfsOk ls cs → cs.length = ls.length
  | [], cs, h => by rw [show cs = [] from h]; rfl
  | l :: ls, cs, h => by obtain ⟨v, r, rfl, _, h⟩ := h; simp [h.len]
theorem LfsOk.at : ∀ {ls : List Lf} {cs : List Value}, LfsOk ls cs → ∀ {j : Nat} {l : Lf}, ls[j]? = some l → ∃ v, cs[j]? = some v ∧ LfOk l v
  | l :: ls, cs, h, 0, k, hk => by
    obtain ⟨v, r, rfl, ho, _⟩ := h
    obtain rfl : l = k := by simpa using hk
    exact ⟨v, rfl, ho⟩
  | l :: ls, cs, h, j + 1, k, hk => by
    obtain ⟨v, r, rfl, _, h⟩ := h
    exact h.at (j := j) (by simpa using hk)
section
variable {H : Type} {enc : TypeId × Value → H} {P : Program} {w : World} {base : Nat} {spare : Nat → Bool} {held : Bool}
theorem flat_cells : ∀ (n : Nat) {t : TypeId} {ls : List Lf} {fuel : Nat} {cs : List Value} {x : DataW H × List MemPlace}, flatB P n t ls = true → DataW.trod enc P w base spare held fuel t cs = some x → LfsOk ls cs
  | 0, _, _, _, _, _, h, _ => by simp [flatB] at h
  | n + 1, t, ls, fuel, cs, x, h, ht => by
    unfold flatB at h
    split at h
    · rename_i k hu
      obtain rfl := of_decide_eq_true h
      obtain ⟨m, rfl, _, hw⟩ := DataW.trod_int hu ht
      exact ⟨_, _, rfl, ⟨m, rfl, hw⟩, rfl⟩
    · rename_i hu
      obtain rfl := of_decide_eq_true h
      obtain ⟨m, rfl, _⟩ := DataW.trod_bool hu ht
      exact ⟨_, _, rfl, ⟨m, rfl⟩, rfl⟩
    · rename_i m e hu
      simp only [Bool.and_eq_true] at h
      obtain ⟨h1, h2, h3⟩ := h
      have h1 := Nat.eq_of_beq_eq_true h1
      have h2 := Nat.eq_of_beq_eq_true h2
      obtain ⟨xs, m', -, -, hl, hx, hel⟩ := DataW.trod_array hu ht
      refine lfsOk_of (by omega) fun j l hj => ?_
      have hjl : j < ls.length := (List.getElem?_eq_some_iff.1 hj).1
      have hc : 0 < P.cellsOf e := by rcases Nat.eq_zero_or_pos (P.cellsOf e) with h0 | h0; rw [h0] at h2; omega; exact h0
      have hi : j / P.cellsOf e < m := (Nat.div_lt_iff_lt_mul hc).2 (by omega)
      have hE := hel _ hi
      rw [List.getElem?_eq_getElem (by omega)] at hE
      have hm := Nat.mod_lt j hc
      have hd := Nat.div_add_mod j (P.cellsOf e)
      obtain ⟨v, hv, ho⟩ := (flat_cells n (List.all_eq_true.1 h3 _ (List.mem_range.2 hi)) hE).at (j := j % P.cellsOf e) (l := l) (by rw [List.getElem?_take_of_lt hm, List.getElem?_drop, Nat.mul_comm, hd]; exact hj)
      rw [List.getElem?_take_of_lt hm, List.getElem?_drop, Nat.mul_comm, hd] at hv
      exact ⟨v, hv, ho⟩
    · rename_i fs hu
      simp only [Bool.and_eq_true] at h
      obtain ⟨h1, h2, h3⟩ := h
      have h1 := Nat.eq_of_beq_eq_true h1
      obtain ⟨xs, m', -, -, hl, hx, hel⟩ := DataW.trod_struct hu ht
      refine lfsOk_of (by omega) fun j l hj => ?_
      have hjl : j < ls.length := (List.getElem?_eq_some_iff.1 hj).1
      obtain ⟨f, hf, hfj⟩ := List.any_eq_true.1 (List.all_eq_true.1 h2 _ (List.mem_range.2 hjl))
      simp only [Bool.and_eq_true] at hfj
      have g1 := Nat.le_of_ble_eq_true hfj.1
      have g2 : j < f.offset + P.cellsOf f.type := Nat.le_of_ble_eq_true hfj.2
      obtain ⟨i, hi, hfi⟩ := List.getElem_of_mem hf
      have hi' : i < fs.size := by simpa using hi
      have hE := hel i f (by rw [← Array.getElem?_toList, List.getElem?_eq_getElem hi, hfi])
      rw [List.getElem?_eq_getElem (by omega)] at hE
      have hm : j - f.offset < P.cellsOf f.type := by omega
      have hd : f.offset + (j - f.offset) = j := by omega
      obtain ⟨v, hv, ho⟩ := (flat_cells n (List.all_eq_true.1 h3 _ hf) hE).at (j := j - f.offset) (l := l) (by rw [List.getElem?_take_of_lt hm, List.getElem?_drop, hd]; exact hj)
      rw [List.getElem?_take_of_lt hm, List.getElem?_drop, hd] at hv
      exact ⟨v, hv, ho⟩
    · exact absurd h Bool.false_ne_true
/-- An argument of a flat type of many cells. -/
theorem open_agg {n : Nat} {r : Reach} {b0 : Nat} {t : TypeId} {ls : List Lf} {v : Value} {d : DataW H} {ps : List MemPlace} (hf : flatB P n t ls = true) (hk : (∃ fs, P.underlying t = some (.struct fs)) ∨ ∃ m e, P.underlying t = some (.array m e)) (hval : Value.okWide P w r b0 t v) (h : DataW.Trod enc P w base spare held t v d ps) :
    ∃ vs, v = .agg ⟨vs⟩ ∧ LfsOk ls vs := by
  obtain ⟨fuel, h⟩ := h
  have hv : ∃ cs, v = .agg cs := by
    rcases hk with ⟨fs, hu⟩ | ⟨m, e, hu⟩
    · obtain ⟨cs, rfl, _⟩ := okWide_struct hu hval; exact ⟨cs, rfl⟩
    · simp only [Value.okWide, hu] at hval
      obtain ⟨cs, h1, _⟩ := hval
      exact ⟨cs, h1⟩
  obtain ⟨⟨cs⟩, rfl⟩ := hv
  exact ⟨cs, rfl, flat_cells n hf h⟩
end
/-- What the walks ask of a slice, of elements that are rows of whole numbers, that came in. -/
def SlFl (ks : List IntKind) (w : World) (a : Option Addr) (len cap : Nat) (xs : List Int) : Prop :=
  Am.TV w (fun _ => True) Am.noM Am.noL (.fl ks len xs) (.slice a len cap) ∧ xs.length = len * ks.length ∧ ∀ i x, xs[i]? = some x → (Lit.int (Am.kc ks i) x).wf = true
section
variable {H : Type} {enc : TypeId × Value → H} {P : Program} {w : World} {held : Bool}
theorem row_ints {ks : List IntKind} {cs : List Value} (h : LfsOk (ks.map Lf.i) cs) : ∃ xs : List Int, xs.length = ks.length ∧ cs.length = ks.length ∧ ∀ (j : Nat) x, xs[j]? = some x → cs[j]? = some (.int (ks.getD j .i64) x) ∧ (Lit.int (ks.getD j .i64) x).wf = true := by
  induction ks generalizing cs with
  | nil => obtain rfl := (show cs = [] from h); exact ⟨[], rfl, rfl, fun j x hx => by cases hx⟩
  | cons k ks ih =>
    obtain ⟨v, r, rfl, ⟨n, rfl, hw⟩, h⟩ := h
    obtain ⟨xs, h1, h2, h3⟩ := ih h
    refine ⟨n :: xs, by simp [h1], by simp [h2], fun j x hx => ?_⟩
    cases j with
    | zero => cases hx; exact ⟨rfl, hw⟩
    | succ j => exact h3 j x hx
theorem rows_ints {ks : List IntKind} (hk : 0 < ks.length) (f : Nat → Option Value) : ∀ (m : Nat), (∀ i, i < m → ∃ cs, LfsOk (ks.map Lf.i) cs ∧ ∀ j, j < ks.length → f (i * ks.length + j) = cs[j]?) →
    ∃ xs : List Int, xs.length = m * ks.length ∧ ∀ (j : Nat) x, xs[j]? = some x → f j = some (.int (Am.kc ks j) x) ∧ (Lit.int (Am.kc ks j) x).wf = true
  | 0, _ => ⟨[], by simp, fun j x hx => by cases hx⟩
  | m + 1, h => by
    obtain ⟨xs, h1, h2⟩ := rows_ints hk f m fun i hi => h i (by omega)
    obtain ⟨cs, hc, hf⟩ := h m (by omega)
    obtain ⟨ys, g1, g2, g3⟩ := row_ints hc
    refine ⟨xs ++ ys, by rw [List.length_append, h1, g1, Nat.succ_mul], fun j x hx => ?_⟩
    by_cases hj : j < xs.length
    · rw [List.getElem?_append_left hj] at hx; exact h2 j x hx
    · rw [List.getElem?_append_right (by omega)] at hx
      have hl : j - xs.length < ks.length := by have := (List.getElem?_eq_some_iff.1 hx).1; omega
      obtain ⟨e1, e2⟩ := g3 _ _ hx
      have ej : m * ks.length + (j - xs.length) = j := by rw [← h1]; omega
      have em : j % ks.length = j - xs.length := by conv => lhs; rw [← ej, Nat.mul_comm, Nat.mul_add_mod, Nat.mod_eq_of_lt hl]
      unfold Am.kc
      rw [em]
      exact ⟨by rw [← ej, hf _ hl, ej]; exact e1, e2⟩
theorem open_rows {n : Nat} {t e : TypeId} {ks : List IntKind} {a : Option Addr} {len cap : Nat} {d : DataW H} {ps : List MemPlace} (hu : P.underlying t = some (.slice e)) (hf : flatB P n e (ks.map Lf.i) = true) (hc : P.cellsOf e = ks.length) (hk : 0 < ks.length)
    (h : DataW.Trod enc P w 0 (fun _ => true) held t (.slice a len cap) d ps) : ∃ xs, SlFl ks w a len cap xs := by
  obtain ⟨fuel, h⟩ := h
  have hne : ks ≠ [] := by intro h0; rw [h0] at hk; exact absurd hk (Nat.lt_irrefl 0)
  rcases open_slice hu h with ⟨hcs, -⟩ | ⟨x, l, c, m, n', D, Pl, hcs, -, hl, hm, hmm, -, hel⟩
  · simp [Value.cells] at hcs
    obtain ⟨rfl, rfl, rfl⟩ := hcs
    exact ⟨[], .fl0, by simp, fun i x hx => by cases hx⟩
  · simp [Value.cells] at hcs
    obtain ⟨rfl, rfl, rfl⟩ := hcs
    simp at hmm
    subst hmm
    rcases Nat.eq_zero_or_pos len with hz | hz
    · subst hz; exact ⟨[], .fl0, by simp, fun i x hx => by cases hx⟩
    obtain ⟨xs, h1, h2⟩ := rows_ints hk (fun j => w.cell? (x.add j)) len fun i hi => by
      obtain ⟨cs, g1, g2⟩ := hel i (by omega)
      obtain ⟨-, g3, g4⟩ := World.cells?_some g1
      refine ⟨cs, flat_cells n hf g2, fun j hj => ?_⟩
      have := g4 j (by omega)
      rw [add_add, hc] at this
      exact this
    have hp : 0 < xs.length := by rw [h1]; exact Nat.mul_pos hz hk
    have c0 := (h2 0 xs[0] (by rw [List.getElem?_eq_getElem hp])).1
    have hx0 : x.add 0 = x := by simp [Addr.add]
    rw [hx0] at c0
    obtain ⟨b, off, sp⟩ := x
    have hsp : sp = none := by simpa using World.cell?_spot c0
    subst hsp
    have hb : b < w.heap.size := by
      rcases Nat.lt_or_ge b w.heap.size with hb | hb
      · exact hb
      · unfold World.cell? at c0; rw [Array.getElem?_eq_none hb] at c0; cases c0
    have hmx : (len : Int) ≤ 9223372036854775807 := by unfold maxLen at hm; omega
    refine ⟨xs, .fl trivial hb hne h1 ⟨hl, by omega⟩ hz (fun i y hy => ?_), h1, fun i y hy => (h2 i y hy).2⟩
    have g := (h2 i y hy).1
    have ea : (⟨b, off, none⟩ : Addr).add i = ⟨b, off + i, none⟩ := by
      unfold Addr.add
      by_cases hi0 : i = 0
      · subst hi0; simp
      · rw [if_neg hi0]
    rw [ea] at g
    exact g
end
end Go.Proofs.Yteinekidpokbpaa
