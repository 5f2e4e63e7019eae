/- Texts put together: FlatR, Gl, MixW, PrA, PrB. -/
import Derived.Test.YtnplgklnkcjmnaaGreatDoorDictUpdateM5
import Derived.Deep.Slices
import Derived.WideShapes
namespace Go.Proofs.YtnplgklnkcjmnaaGreatDoor
open Go.ChangeShapes Go.WideShapes Go.ChangeAt Go.RowKit Go.Deep
set_option linter.unusedVariables false
set_option linter.unusedSimpArgs false

/-- A leaf of a flat type. -/
inductive Lf | i (k : IntKind) | b
  deriving DecidableEq
def LfOk : Lf → Value → Prop
  | .i k, v => ∃ n, v = .int k n ∧ (Lit.int k n).wf = true
  | .b, v => ∃ b, v = .bool b
def LfsOk : List Lf → List Value → Prop
  | [], vs => vs = []
  | l :: ls, vs => ∃ v r, vs = v :: r ∧ LfOk l v ∧ LfsOk ls r
/-- Has this type these leaves? -/
def flatB (P : Program) : Nat → TypeId → List Lf → Bool
  | 0, _, _ => false
  | n + 1, t, ls => match P.underlying t with
    | some (.int k) => decide (ls = [.i k])
    | some .bool => decide (ls = [.b])
    | some (.array m e) => Nat.beq (P.cellsOf t) ls.length && (Nat.beq (m * P.cellsOf e) ls.length && ((List.range m).all fun i => flatB P n e ((ls.drop (i * P.cellsOf e)).take (P.cellsOf e))))
    | some (.struct fs) => Nat.beq (P.cellsOf t) ls.length && (((List.range ls.length).all fun j => fs.toList.any fun f => Nat.ble f.offset j && Nat.blt j (f.offset + P.cellsOf f.type)) && (fs.toList.all fun f => flatB P n f.type ((ls.drop f.offset).take (P.cellsOf f.type))))
    | _ => false
theorem lfsOk_of : ∀ {ls : List Lf} {cs : List Value}, cs.length = ls.length → (∀ (j : Nat) l, ls[j]? = some l → ∃ v, cs[j]? = some v ∧ LfOk l v) → LfsOk ls cs
  | [], cs, h, _ => List.eq_nil_of_length_eq_zero h
  | l :: ls, [], h, _ => by simp at h
  | l :: ls, c :: cs, h, hj => by
    obtain ⟨v, hv, ho⟩ := hj 0 l rfl
    obtain rfl : c = v := by simpa using hv
    exact ⟨c, cs, rfl, ho, lfsOk_of (by simpa using h) fun j l hl => hj (j + 1) l hl⟩
theorem LfsOk.len : ∀ {ls : List Lf} {cs : List Value}, LfsOk ls cs → cs.length = ls.length
  | [], cs, h => by rw [show cs = [] from h]; rfl
  | l :: ls, cs, h => by obtain ⟨v, r, rfl, _, h⟩ := h; simp [h.len]
theorem LfsOk.at : ∀ {ls : List Lf} {cs : List Value}, LfsOk ls cs → ∀ {j : Nat} {l : Lf}, ls[j]? = some l → ∃ v, cs[j]? = some v ∧ LfOk l v
  | l :: ls, cs, h, 0, k, hk => by
    obtain ⟨v, r, rfl, ho, _⟩ := h
    obtain rfl : l = k := by simpa using hk
    exact ⟨v, rfl, ho⟩
  | l :: ls, cs, h, j + 1, k, hk => by
    obtain ⟨v, r, rfl, _, h⟩ := h
    exact h.at (j := j) (by simpa using hk)
section
variable {H : Type} {enc : TypeId × Value → H} {P : Program} {w : World} {base : Nat} {spare : Nat → Bool} {held : Bool}
theorem flat_cells : ∀ (n : Nat) {t : TypeId} {ls : List Lf} {fuel : Nat} {cs : List Value} {x : DataW H × List MemPlace}, flatB P n t ls = true → DataW.trod enc P w base spare held fuel t cs = some x → LfsOk ls cs
  | 0, _, _, _, _, _, h, _ => by simp [flatB] at h
  | n + 1, t, ls, fuel, cs, x, h, ht => by
    unfold flatB at h
    split at h
    · rename_i k hu
      obtain rfl := of_decide_eq_true h
      obtain ⟨m, rfl, _, hw⟩ := DataW.trod_int hu ht
      exact ⟨_, _, rfl, ⟨m, rfl, hw⟩, rfl⟩
    · rename_i hu
      obtain rfl := of_decide_eq_true h
      obtain ⟨m, rfl, _⟩ := DataW.trod_bool hu ht
      exact ⟨_, _, rfl, ⟨m, rfl⟩, rfl⟩
    · rename_i m e hu
      simp only [Bool.and_eq_true] at h
      obtain ⟨h1, h2, h3⟩ := h
      have h1 := Nat.eq_of_beq_eq_true h1
      have h2 := Nat.eq_of_beq_eq_true h2
      obtain ⟨xs, m', -, -, hl, hx, hel⟩ := DataW.trod_array hu ht
      refine lfsOk_of (by omega) fun j l hj => ?_
      have hjl : j < ls.length := (List.getElem?_eq_some_iff.1 hj).1
      have hc : 0 < P.cellsOf e := by rcases Nat.eq_zero_or_pos (P.cellsOf e) with h0 | h0; rw [h0] at h2; omega; exact h0
      have hi : j / P.cellsOf e < m := (Nat.div_lt_iff_lt_mul hc).2 (by omega)
      have hE := hel _ hi
      rw [List.getElem?_eq_getElem (by omega)] at hE
      have hm := Nat.mod_lt j hc
      have hd := Nat.div_add_mod j (P.cellsOf e)
      obtain ⟨v, hv, ho⟩ := (flat_cells n (List.all_eq_true.1 h3 _ (List.mem_range.2 hi)) hE).at (j := j % P.cellsOf e) (l := l) (by rw [List.getElem?_take_of_lt hm, List.getElem?_drop, Nat.mul_comm, hd]; exact hj)
      rw [List.getElem?_take_of_lt hm, List.getElem?_drop, Nat.mul_comm, hd] at hv
      exact ⟨v, hv, ho⟩
    · rename_i fs hu
      simp only [Bool.and_eq_true] at h
      obtain ⟨h1, h2, h3⟩ := h
      have h1 := Nat.eq_of_beq_eq_true h1
      obtain ⟨xs, m', -, -, hl, hx, hel⟩ := DataW.trod_struct hu ht
      refine lfsOk_of (by omega) fun j l hj => ?_
      have hjl : j < ls.length := (List.getElem?_eq_some_iff.1 hj).1
      obtain ⟨f, hf, hfj⟩ := List.any_eq_true.1 (List.all_eq_true.1 h2 _ (List.mem_range.2 hjl))
      simp only [Bool.and_eq_true] at hfj
      have g1 := Nat.le_of_ble_eq_true hfj.1
      have g2 : j < f.offset + P.cellsOf f.type := Nat.le_of_ble_eq_true hfj.2
      obtain ⟨i, hi, hfi⟩ := List.getElem_of_mem hf
      have hi' : i < fs.size := by simpa using hi
      have hE := hel i f (by rw [← Array.getElem?_toList, List.getElem?_eq_getElem hi, hfi])
      rw [List.getElem?_eq_getElem (by omega)] at hE
      have hm : j - f.offset < P.cellsOf f.type := by omega
      have hd : f.offset + (j - f.offset) = j := by omega
      obtain ⟨v, hv, ho⟩ := (flat_cells n (List.all_eq_true.1 h3 _ hf) hE).at (j := j - f.offset) (l := l) (by rw [List.getElem?_take_of_lt hm, List.getElem?_drop, hd]; exact hj)
      rw [List.getElem?_take_of_lt hm, List.getElem?_drop, hd] at hv
      exact ⟨v, hv, ho⟩
    · exact absurd h Bool.false_ne_true
end
/-- What the walks ask of a slice, of elements that are rows of whole numbers, that came in. -/
def SlFl (ks : List IntKind) (w : World) (a : Option Addr) (len cap : Nat) (xs : List Int) : Prop :=
  Am.TV w (fun _ => True) Am.noM Am.noL (.fl ks len xs) (.slice a len cap) ∧ xs.length = len * ks.length ∧ ∀ i x, xs[i]? = some x → (Lit.int (Am.kc ks i) x).wf = true
section
variable {H : Type} {enc : TypeId × Value → H} {P : Program} {w : World} {held : Bool}
theorem row_ints {ks : List IntKind} {cs : List Value} (h : LfsOk (ks.map Lf.i) cs) : ∃ xs : List Int, xs.length = ks.length ∧ cs.length = ks.length ∧ ∀ (j : Nat) x, xs[j]? = some x → cs[j]? = some (.int (ks.getD j .i64) x) ∧ (Lit.int (ks.getD j .i64) x).wf = true := by
  induction ks generalizing cs with
  | nil => obtain rfl := (show cs = [] from h); exact ⟨[], rfl, rfl, fun j x hx => by cases hx⟩
  | cons k ks ih =>
    obtain ⟨v, r, rfl, ⟨n, rfl, hw⟩, h⟩ := h
    obtain ⟨xs, h1, h2, h3⟩ := ih h
    refine ⟨n :: xs, by simp [h1], by simp [h2], fun j x hx => ?_⟩
    cases j with
    | zero => cases hx; exact ⟨rfl, hw⟩
    | succ j => exact h3 j x hx
theorem rows_ints {ks : List IntKind} (hk : 0 < ks.length) (f : Nat → Option Value) : ∀ (m : Nat), (∀ i, i < m → ∃ cs, LfsOk (ks.map Lf.i) cs ∧ ∀ j, j < ks.length → f (i * ks.length + j) = cs[j]?) →
    ∃ xs : List Int, xs.length = m * ks.length ∧ ∀ (j : Nat) x, xs[j]? = some x → f j = some (.int (Am.kc ks j) x) ∧ (Lit.int (Am.kc ks j) x).wf = true
  | 0, _ => ⟨[], by simp, fun j x hx => by cases hx⟩
  | m + 1, h => by
    obtain ⟨xs, h1, h2⟩ := rows_ints hk f m fun i hi => h i (by omega)
    obtain ⟨cs, hc, hf⟩ := h m (by omega)
    obtain ⟨ys, g1, g2, g3⟩ := row_ints hc
    refine ⟨xs ++ ys, by rw [List.length_append, h1, g1, Nat.succ_mul], fun j x hx => ?_⟩
    by_cases hj : j < xs.length
    · rw [List.getElem?_append_left hj] at hx; exact h2 j x hx
    · rw [List.getElem?_append_right (by omega)] at hx
      have hl : j - xs.length < ks.length := by have := (List.getElem?_eq_some_iff.1 hx).1; omega
      obtain ⟨e1, e2⟩ := g3 _ _ hx
      have ej : m * ks.length + (j - xs.length) = j := by rw [← h1]; omega
      have em : j % ks.length = j - xs.length := by conv => lhs; rw [← ej, Nat.mul_comm, Nat.mul_add_mod, Nat.mod_eq_of_lt hl]
      unfold Am.kc
      rw [em]
      exact ⟨by rw [← ej, hf _ hl, ej]; exact e1, e2⟩
theorem open_rows {n : Nat} {t e : TypeId} {ks : List IntKind} {a : Option Addr} {len cap : Nat} {d : DataW H} {ps : List MemPlace} (hu : P.underlying t = some (.slice e)) (hf : flatB P n e (ks.map Lf.i) = true) (hc : P.cellsOf e = ks.length) (hk : 0 < ks.length)
    (h : DataW.Trod enc P w 0 (fun _ => true) held t (.slice a len cap) d ps) : ∃ xs, SlFl ks w a len cap xs := by
  obtain ⟨fuel, h⟩ := h
  have hne : ks ≠ [] := by intro h0; rw [h0] at hk; exact absurd hk (Nat.lt_irrefl 0)
  rcases open_slice hu h with ⟨hcs, -⟩ | ⟨x, l, c, m, n', D, Pl, hcs, -, hl, hm, hmm, -, hel⟩
  · simp [Value.cells] at hcs
    obtain ⟨rfl, rfl, rfl⟩ := hcs
    exact ⟨[], .fl0, by simp, fun i x hx => by cases hx⟩
  · simp [Value.cells] at hcs
    obtain ⟨rfl, rfl, rfl⟩ := hcs
    simp at hmm
    subst hmm
    rcases Nat.eq_zero_or_pos len with hz | hz
    · subst hz; exact ⟨[], .fl0, by simp, fun i x hx => by cases hx⟩
    obtain ⟨xs, h1, h2⟩ := rows_ints hk (fun j => w.cell? (x.add j)) len fun i hi => by
      obtain ⟨cs, g1, g2⟩ := hel i (by omega)
      obtain ⟨-, g3, g4⟩ := World.cells?_some g1
      refine ⟨cs, flat_cells n hf g2, fun j hj => ?_⟩
      have := g4 j (by omega)
      rw [add_add, hc] at this
      exact this
    have hp : 0 < xs.length := by rw [h1]; exact Nat.mul_pos hz hk
    have c0 := (h2 0 xs[0] (by rw [List.getElem?_eq_getElem hp])).1
    have hx0 : x.add 0 = x := by simp [Addr.add]
    rw [hx0] at c0
    obtain ⟨b, off, sp⟩ := x
    have hsp : sp = none := by simpa using World.cell?_spot c0
    subst hsp
    have hb : b < w.heap.size := by
      rcases Nat.lt_or_ge b w.heap.size with hb | hb
      · exact hb
      · unfold World.cell? at c0; rw [Array.getElem?_eq_none hb] at c0; cases c0
    have hmx : (len : Int) ≤ 9223372036854775807 := by unfold maxLen at hm; omega
    refine ⟨xs, .fl trivial hb hne h1 ⟨hl, by omega⟩ hz (fun i y hy => ?_), h1, fun i y hy => (h2 i y hy).2⟩
    have g := (h2 i y hy).1
    have ea : (⟨b, off, none⟩ : Addr).add i = ⟨b, off + i, none⟩ := by
      unfold Addr.add
      by_cases hi0 : i = 0
      · subst hi0; simp
      · rw [if_neg hi0]
    rw [ea] at g
    exact g
end
end Go.Proofs.YtnplgklnkcjmnaaGreatDoor
namespace Go.Proofs.YtnplgklnkcjmnaaGreatDoor
open Go.RowKit Go.Proofs.YtnplgklnkcjmnaaGreatDoor.Am
set_option linter.unusedVariables false
set_option linter.unusedSimpArgs false

def bodyOf (f : Func) : Code := match f.body with | some c => c | none => .skip
def objX : List Int := [0, 0, 1, 0, 1, 2, 1, 4, 2, 4, 9, 1]
def mixX : List Int := [30, 13787848793156543929, 27, 10723151780598845931, 31, 1]
/-- What the rows of the plain laws lay; and with it what is laid for mixing. -/
def glR (g : Nat) : T := match g with
  | 0 => .fp [.i64] objX 0 0 0 12
  | _ => .dead
def glM (g : Nat) : T := match g with
  | 0 => .fp [.i64] objX 0 0 0 12
  | 1 => .fp [.u64] mixX 0 0 0 6
  | _ => .dead
theorem glR_two : ∀ g, glR g = .dead ∨ ∃ ks xs b st i e, glR g = .fp ks xs b st i e := by
  intro g; unfold glR
  first | exact .inl rfl | (split <;> first | exact .inr ⟨_, _, _, _, _, _, rfl⟩ | exact .inl rfl)
theorem glM_two : ∀ g, glM g = .dead ∨ ∃ ks xs b st i e, glM g = .fp ks xs b st i e := by
  intro g; unfold glM
  first | exact .inl rfl | (split <;> first | exact .inr ⟨_, _, _, _, _, _, rfl⟩ | exact .inl rfl)
theorem glR_glM (g : Nat) : glR g = .dead ∨ glR g = glM g := by
  unfold glR
  first | exact .inl rfl | (split <;> first | exact .inr rfl | exact .inl rfl)
theorem pure_lift {P : Program} {f : FuncId} {args : List T} {t : T} {bs : Hp} (h : Pure P glR f args t bs) : Pure P glM f args t bs := fun w vs hg ha =>
  h w vs (fun g => by rcases glR_glM g with e | e <;> rw [e]; exact .dead; exact hg g) ha
theorem entry_lift {P : Program} {e : Entry} (h : e.ok P glR) : e.ok P glM := ⟨h.enters, fun args c t bs hs hc => pure_lift (h.calls args c t bs hs hc)⟩
theorem wrap64 {a : Int} (h1 : -9223372036854775808 ≤ a) (h2 : a ≤ 9223372036854775807) : IntKind.i64.wrap a = a := by
  rw [IntKind.wrap_i64]; omega
theorem wrapU {a : Int} (h1 : 0 ≤ a) (h2 : a < 18446744073709551616) : IntKind.u64.wrap a = a := by
  rw [IntKind.wrap_u64]; omega
theorem wsucc {j n : Nat} (h : j < n) (hn : n ≤ 9223372036854775807) : IntKind.i64.wrap ((j : Int) + 1) = ((j + 1 : Nat) : Int) := by rw [wrap64 (by omega) (by omega)]; rfl
theorem take_snoc {xs : List Int} {j : Nat} (h : j < xs.length) : xs.take (j + 1) = xs.take j ++ [xs.getD j 0] := by
  rw [List.take_add_one, List.getD_eq_getElem?_getD]
  rw [List.getElem?_eq_getElem h]; rfl
theorem take_same {xs ys : List Int} {j : Nat} (h1 : j < xs.length) (h2 : j < ys.length) (h : xs.take j = ys.take j) (e : xs.getD j 0 = ys.getD j 0) : xs.take (j + 1) = ys.take (j + 1) := by
  rw [take_snoc h1, take_snoc h2, h, e]
theorem noEq (P : Program) : ∀ t, hasN [] t = true → P.stoodInHeld t = false := fun t h => by cases h
/-- A closed setting: no table, no functions walked where they are called. -/
def ctx0 (P : Program) : Ctx := ctx P glR [] [] (noEq P) [] (fun _ h => by cases h)
theorem ctx0_good : (ctx0 Tryz.prog).good := ctx_good (by kernel_rfl) (fun _ h => by cases h) glR_two
/-- The same, with what is laid for mixing. -/
def ctx0M (P : Program) : Ctx := ctx P glM [] [] (noEq P) [] (fun _ h => by cases h)
theorem ctx0M_good : (ctx0M Tryz.prog).good := ctx_good (by kernel_rfl) (fun _ h => by cases h) glM_two
theorem allU_getD {xs : List Int} (h : AllU xs) (i : Nat) : U64 (xs.getD i 0) := by
  by_cases hi : i < xs.length
  · exact h.at hi
  · have : xs.getD i 0 = 0 := by simp [List.getD, List.getElem?_eq_none (Nat.le_of_not_lt hi)]
    rw [this]; exact ⟨by omega, by omega⟩
theorem allU_set {xs : List Int} (h : AllU xs) (i : Nat) {v : Int} (hv : U64 v) : AllU (xs.set i v) := by
  intro x hx
  rcases List.mem_or_eq_of_mem_set hx with h1 | rfl
  · exact h x h1
  · exact hv
end Go.Proofs.YtnplgklnkcjmnaaGreatDoor

namespace Go.Proofs.YtnplgklnkcjmnaaGreatDoor
open Go.RowKit Go.Proofs.YtnplgklnkcjmnaaGreatDoor.Am
set_option linter.unusedVariables false
set_option linter.unusedSimpArgs false


def mixF (w f : Int) : Int := bits .xor .u64 w (w.fdiv (2 ^ (min f.toNat IntKind.u64.bits)))
def mixR (w f c : Int) : Int := IntKind.u64.wrap (mixF w f * c)
def iMix (w : Int) : Int := mixR (mixR (mixR w 30 13787848793156543929) 27 10723151780598845931) 31 1
def bBefore (a b : Int) : Bool := decide (iMix a > iMix b)
set_option maxRecDepth 100000 in
theorem mix_pure (a : Int) : Pure Tryz.prog glM 174 [.v (.int .u64 a)] (.v (.int .u64 (iMix a))) := by
  refine pure_of (C := ctx0M Tryz.prog) ctx0M_good Tryz.func174 (c := bodyOf Tryz.f174) (by rfl) (Nat.le_of_ble_eq_true (by rfl)) 4 0 [0, 2, 4, 5, 6, 7] ?_
  conv => whnf
  refine TW.roundsV ctx0M_good 0 (base := 0) (lv := [0, 2, 4, 5, 6, 7]) 4 ?_
  conv => whnf
  repeat' (first | (refine ifB_t (by assumption) ?_; conv => whnf) | (refine ifB_f (by assumption) ?_; conv => whnf) | (refine ifB_dec (fun h => ?_) (fun h => ?_) <;> (first | (exfalso; omega) | (conv => whnf))) | (refine ifB_eq (fun h => ?_) (fun h => ?_) <;> (first | (exfalso; omega) | (conv => whnf))) | (refine ifB_ne (fun h => ?_) (fun h => ?_) <;> (first | (exfalso; omega) | (conv => whnf))) | (refine ifB_not ?_; conv => whnf) | (refine ifB_and ?_; conv => whnf) | (refine ifB_or ?_; conv => whnf) | (refine And.intro ?_ ?_; (first | omega | assumption | (exact allU_getD (by assumption) _) | (simp only [cutL]; omega) | (refine And.intro ?_ ?_ <;> first | assumption | exact allU_getD (by assumption) _) | (simp only [cutL, IntKind.wrap_u64, IntKind.wrap_i64] at *; omega) | decide); conv => whnf))
  refine ⟨⟨[0, 2, 5, 6], [], []⟩, rfl, ?_⟩
  conv => whnf
  repeat' (first | (refine ifB_t (by assumption) ?_; conv => whnf) | (refine ifB_f (by assumption) ?_; conv => whnf) | (refine ifB_dec (fun h => ?_) (fun h => ?_) <;> (first | (exfalso; omega) | (conv => whnf))) | (refine ifB_eq (fun h => ?_) (fun h => ?_) <;> (first | (exfalso; omega) | (conv => whnf))) | (refine ifB_ne (fun h => ?_) (fun h => ?_) <;> (first | (exfalso; omega) | (conv => whnf))) | (refine ifB_not ?_; conv => whnf) | (refine ifB_and ?_; conv => whnf) | (refine ifB_or ?_; conv => whnf) | (refine And.intro ?_ ?_; (first | omega | assumption | (exact allU_getD (by assumption) _) | (simp only [cutL]; omega) | (refine And.intro ?_ ?_ <;> first | assumption | exact allU_getD (by assumption) _) | (simp only [cutL, IntKind.wrap_u64, IntKind.wrap_i64] at *; omega) | decide); conv => whnf))
  refine ⟨⟨[0, 2, 5, 6], [], []⟩, rfl, ?_⟩
  conv => whnf
  repeat' (first | (refine ifB_t (by assumption) ?_; conv => whnf) | (refine ifB_f (by assumption) ?_; conv => whnf) | (refine ifB_dec (fun h => ?_) (fun h => ?_) <;> (first | (exfalso; omega) | (conv => whnf))) | (refine ifB_eq (fun h => ?_) (fun h => ?_) <;> (first | (exfalso; omega) | (conv => whnf))) | (refine ifB_ne (fun h => ?_) (fun h => ?_) <;> (first | (exfalso; omega) | (conv => whnf))) | (refine ifB_not ?_; conv => whnf) | (refine ifB_and ?_; conv => whnf) | (refine ifB_or ?_; conv => whnf) | (refine And.intro ?_ ?_; (first | omega | assumption | (exact allU_getD (by assumption) _) | (simp only [cutL]; omega) | (refine And.intro ?_ ?_ <;> first | assumption | exact allU_getD (by assumption) _) | (simp only [cutL, IntKind.wrap_u64, IntKind.wrap_i64] at *; omega) | decide); conv => whnf))
  refine ⟨⟨[0, 2, 5, 6], [], []⟩, rfl, ?_⟩
  conv => whnf
  rfl
def eMix : Entry := ⟨174, 4, fun l => match l with | [.v (.int .u64 a)] => some (none, .v (.int .u64 (iMix a)), []) | _ => none⟩
theorem eMix_ok : eMix.ok Tryz.prog glM := ⟨Am.enters_of Tryz.func174 (by kernel_rfl) (by kernel_rfl), by
  intro args c t bs h hc
  simp only [eMix] at h
  split at h <;> cases h
  exact mix_pure _⟩
def ctxMix (P : Program) : Ctx := ctx P glM [eMix] [] (noEq P) [] (fun _ h => by cases h)
theorem ctxMix_good : (ctxMix Tryz.prog).good := ctx_good (by kernel_rfl) (AllOk.mem ⟨eMix_ok, trivial⟩) glM_two
set_option maxRecDepth 100000 in
theorem before_pure (a b : Int) : Pure Tryz.prog glM 153 [.v (.int .u64 a), .v (.int .u64 b)] (.v (.bool (bBefore a b))) := by
  refine pure_of (C := ctxMix Tryz.prog) ctxMix_good Tryz.func153 (c := bodyOf Tryz.f153) (by rfl) (Nat.le_of_ble_eq_true (by rfl)) 4 0 [] ?_
  conv => whnf
  rfl
set_option maxRecDepth 100000 in
theorem rfolded_pure (a n : Int) (hn : 0 ≤ n) : Pure Tryz.prog glR 182 [.v (.int .u64 a), .v (.int .i64 n)] (.v (.int .u64 (mixF a n))) := by
  refine pure_of (C := ctx0 Tryz.prog) ctx0_good Tryz.func182 (c := bodyOf Tryz.f182) (by rfl) (Nat.le_of_ble_eq_true (by rfl)) 4 0 [] ?_
  conv => whnf
  repeat' (first | (refine ifB_t (by assumption) ?_; conv => whnf) | (refine ifB_f (by assumption) ?_; conv => whnf) | (refine ifB_dec (fun h => ?_) (fun h => ?_) <;> (first | (exfalso; omega) | (conv => whnf))) | (refine ifB_eq (fun h => ?_) (fun h => ?_) <;> (first | (exfalso; omega) | (conv => whnf))) | (refine ifB_ne (fun h => ?_) (fun h => ?_) <;> (first | (exfalso; omega) | (conv => whnf))) | (refine ifB_not ?_; conv => whnf) | (refine ifB_and ?_; conv => whnf) | (refine ifB_or ?_; conv => whnf) | (refine And.intro ?_ ?_; (first | omega | assumption | (exact allU_getD (by assumption) _) | (simp only [cutL]; omega) | (refine And.intro ?_ ?_ <;> first | assumption | exact allU_getD (by assumption) _) | (simp only [cutL, IntKind.wrap_u64, IntKind.wrap_i64] at *; omega) | decide); conv => whnf))
  rfl
def eRFolded : Entry := ⟨182, 4, fun l => match l with | [.v (.int .u64 a), .v (.int .i64 n)] => some (some (0 ≤ n), .v (.int .u64 (mixF a n)), []) | _ => none⟩
theorem eRFolded_ok : eRFolded.ok Tryz.prog glR := ⟨Am.enters_of Tryz.func182 (by kernel_rfl) (by kernel_rfl), by
  intro args c t bs h hc
  simp only [eRFolded] at h
  split at h <;> cases h
  replace hc := hc _ rfl
  exact rfolded_pure _ _ hc⟩
def ctxRMix0 (P : Program) : Ctx := ctx P glR [eRFolded] [] (noEq P) [] (fun _ h => by cases h)
theorem ctxRMix0_good : (ctxRMix0 Tryz.prog).good := ctx_good (by kernel_rfl) (AllOk.mem ⟨eRFolded_ok, trivial⟩) glR_two
def rMix (w : Int) : Int := mixF (mixR (mixR w 30 13787848793156543929) 27 10723151780598845931) 31
set_option maxRecDepth 100000 in
theorem rmixR_pure (a : Int) : Pure Tryz.prog glR 169 [.v (.int .u64 a)] (.v (.int .u64 (rMix a))) := by
  refine pure_of (C := ctxRMix0 Tryz.prog) ctxRMix0_good Tryz.func169 (c := bodyOf Tryz.f169) (by rfl) (Nat.le_of_ble_eq_true (by rfl)) 4 0 [] ?_
  conv => whnf
  repeat' (first | (refine ifB_t (by assumption) ?_; conv => whnf) | (refine ifB_f (by assumption) ?_; conv => whnf) | (refine ifB_dec (fun h => ?_) (fun h => ?_) <;> (first | (exfalso; omega) | (conv => whnf))) | (refine ifB_eq (fun h => ?_) (fun h => ?_) <;> (first | (exfalso; omega) | (conv => whnf))) | (refine ifB_ne (fun h => ?_) (fun h => ?_) <;> (first | (exfalso; omega) | (conv => whnf))) | (refine ifB_not ?_; conv => whnf) | (refine ifB_and ?_; conv => whnf) | (refine ifB_or ?_; conv => whnf) | (refine And.intro ?_ ?_; (first | omega | assumption | (exact allU_getD (by assumption) _) | (simp only [cutL]; omega) | (refine And.intro ?_ ?_ <;> first | assumption | exact allU_getD (by assumption) _) | (simp only [cutL, IntKind.wrap_u64, IntKind.wrap_i64] at *; omega) | decide); conv => whnf))
  rfl
end Go.Proofs.YtnplgklnkcjmnaaGreatDoor
namespace Go.Proofs.YtnplgklnkcjmnaaGreatDoor.PrT
set_option linter.unusedVariables false
set_option linter.unusedSimpArgs false

abbrev R := Int × Int
/-- How a table's keys go: homes among n slots, weights, which of two goes first. -/
structure Hs where
  hm : Nat → Int → Nat
  wt : Int → Int
  bf : Int → Int → Bool
  U : Int → Prop
  hlt : ∀ n k, 0 < n → hm n k < n
  hbf : ∀ a b, bf a b = decide (wt b < wt a)
  inj : ∀ a b, U a → U b → wt a = wt b → a = b
  lo : ∀ a, U a → 0 ≤ wt a
  hi : ∀ a, U a → wt a < 18446744073709551616

def dist (n h s : Nat) : Nat := if h ≤ s then s - h else s + n - h
def nxt (n i : Nat) : Nat := if i + 1 = n then 0 else i + 1
theorem dist_c (n h s : Nat) : (h ≤ s ∧ dist n h s = s - h) ∨ (s < h ∧ dist n h s = s + n - h) := by
  unfold dist; split
  · exact .inl ⟨by assumption, rfl⟩
  · exact .inr ⟨by omega, rfl⟩
theorem nxt_c (n i : Nat) : (i + 1 = n ∧ nxt n i = 0) ∨ (i + 1 ≠ n ∧ nxt n i = i + 1) := by
  unfold nxt; split
  · exact .inl ⟨by assumption, rfl⟩
  · exact .inr ⟨by assumption, rfl⟩
def gR (T : List R) (j : Nat) : R := T.getD j (0, 0)
def kR (T : List R) (j : Nat) : Int := (gR T j).1

theorem gR_set {T : List R} {i : Nat} (h : i < T.length) (r : R) (j : Nat) : gR (T.set i r) j = if j = i then r else gR T j := by
  unfold gR
  rw [List.getD_eq_getElem?_getD, List.getElem?_set]
  by_cases e : i = j
  · subst e; rw [if_pos rfl, if_pos h, if_pos rfl]; rfl
  · rw [if_neg e, if_neg (fun e' => e e'.symm), ← List.getD_eq_getElem?_getD]
theorem kR_set {T : List R} {i : Nat} (h : i < T.length) (r : R) (j : Nat) : kR (T.set i r) j = if j = i then r.1 else kR T j := by
  unfold kR; rw [gR_set h]; split <;> rfl

/-- A table: each key is as far behind its home as there are keys that go first. -/
structure Ok (S : Hs) (n : Nat) (T : List R) : Prop where
  len : T.length = n
  zer : ∀ j, j < n → kR T j = 0 → gR T j = (0, 0)
  uk : ∀ j, j < n → kR T j ≠ 0 → S.U (kR T j)
  nd : ∀ i j, i < n → j < n → kR T i ≠ 0 → kR T i = kR T j → i = j
  way : ∀ j, j < n → kR T j ≠ 0 → ∀ s, s < n → dist n (S.hm n (kR T j)) s < dist n (S.hm n (kR T j)) j → kR T s ≠ 0 ∧ S.wt (kR T j) < S.wt (kR T s)
/-- What is in a table. -/
def In (n : Nat) (T : List R) (x : R) : Prop := x.1 ≠ 0 ∧ ∃ j, j < n ∧ gR T j = x
theorem In.key {n : Nat} {T : List R} {x : R} (h : In n T x) : ∃ j, j < n ∧ kR T j = x.1 ∧ gR T j = x := by
  obtain ⟨h1, j, h2, h3⟩ := h; exact ⟨j, h2, by unfold kR; rw [h3], h3⟩
theorem In.of {n : Nat} {T : List R} {j : Nat} (h : j < n) (hk : kR T j ≠ 0) : In n T (gR T j) := ⟨hk, j, h, rfl⟩

theorem Ok.uniq {n : Nat} {S : Hs} {T T' : List R} (h : Ok S n T) (h' : Ok S n T') (hin : ∀ x, In n T x ↔ In n T' x) : T = T' := by
  have key : ∀ (m : Nat) (j j' : Nat), j < n → j' < n → kR T j ≠ 0 → kR T j = kR T' j' → (18446744073709551616 - S.wt (kR T j)).toNat < m → j = j' := by
    intro m
    induction m with
    | zero => intro j j' _ _ _ _ hm; exact absurd hm (Nat.not_lt_zero _)
    | succ m ih =>
      intro j j' hj hj' hk he hm
      have hu := S.hi _ (h.uk j hj hk)
      have hh := S.hlt n (kR T j) (by omega)
      rcases Nat.lt_trichotomy (dist n (S.hm n (kR T j)) j) (dist n (S.hm n (kR T j)) j') with hd | hd | hd
      · rw [he] at hd hk hu hm
        obtain ⟨a1, a2⟩ := h'.way j' hj' hk j hj hd
        obtain ⟨j2, b1, b2, b3⟩ := ((hin _).2 (In.of hj a1)).key
        have := ih j2 j b1 hj (by rw [b2]; exact a1) b2 (by rw [b2]; show (18446744073709551616 - S.wt (kR T' j)).toNat < m; omega)
        subst this
        have : kR T j2 = kR T' j2 := b2
        rw [← this, he] at a2
        omega
      · have d1 := dist_c n (S.hm n (kR T j)) j; have d2 := dist_c n (S.hm n (kR T j)) j'; omega
      · obtain ⟨a1, a2⟩ := h.way j hj hk j' hj' hd
        obtain ⟨j3, b1, b2, b3⟩ := ((hin _).1 (In.of hj' a1)).key
        have b2 : kR T' j3 = kR T j' := b2
        have := ih j' j3 hj' b1 a1 b2.symm (by omega)
        subst this
        rw [← b2, he] at a2
        omega
  have one : ∀ j, j < n → kR T j ≠ 0 → gR T' j = gR T j := fun j hj hk => by
    obtain ⟨j', a1, a2, a3⟩ := ((hin _).1 (In.of hj hk)).key
    have := key _ j j' hj a1 hk a2.symm (Nat.lt_succ_self _)
    subst this; exact a3
  have two : ∀ j, j < n → kR T j = 0 → gR T' j = (0, 0) := fun j hj hk => by
    by_cases hk' : kR T' j = 0
    · exact h'.zer j hj hk'
    · obtain ⟨j', a1, a2, a3⟩ := ((hin _).2 (In.of hj hk')).key
      have a2 : kR T j' = kR T' j := a2
      have := key _ j' j a1 hj (by rw [a2]; exact hk') a2 (Nat.lt_succ_self _)
      subst this
      exact absurd (a2.symm.trans hk) hk'
  refine List.ext_getElem? fun j => ?_
  by_cases hj : j < n
  · have e : gR T j = gR T' j := by
      by_cases hk : kR T j = 0
      · rw [two j hj hk, h.zer j hj hk]
      · exact (one j hj hk).symm
    unfold gR at e
    rw [List.getD_eq_getElem?_getD, List.getD_eq_getElem?_getD, List.getElem?_eq_getElem (by rw [h.len]; exact hj), List.getElem?_eq_getElem (by rw [h'.len]; exact hj)] at e
    rw [List.getElem?_eq_getElem (by rw [h.len]; exact hj), List.getElem?_eq_getElem (by rw [h'.len]; exact hj)]
    exact congrArg some e
  · rw [List.getElem?_eq_none (by rw [h.len]; omega), List.getElem?_eq_none (by rw [h'.len]; omega)]

/-- Nothing is in it. -/
theorem Ok.nil (S : Hs) (n : Nat) : Ok S n (List.replicate n (0, 0)) := by
  have z : ∀ j, gR (List.replicate n ((0 : Int), (0 : Int))) j = (0, 0) := fun j => by
    unfold gR; rw [List.getD_eq_getElem?_getD, List.getElem?_replicate]; split <;> rfl
  have zk : ∀ j, kR (List.replicate n ((0 : Int), (0 : Int))) j = 0 := fun j => by unfold kR; rw [z]
  exact ⟨by simp, fun j _ _ => z j, fun j _ h => absurd (zk j) h, fun i j _ _ h => absurd (zk i) h, fun j _ h => absurd (zk j) h⟩
theorem In.nil {n : Nat} {x : R} : ¬ In n (List.replicate n (0, 0)) x := fun ⟨h1, j, h2, h3⟩ => by
  unfold gR at h3; rw [List.getD_eq_getElem?_getD, List.getElem?_replicate, if_pos h2] at h3
  exact h1 (by rw [← h3]; rfl)

/-- A record into its place, none being moved. -/
def placeF (n : Nat) : Nat → Nat → List R → R → List R
  | 0, _, T, _ => T
  | f + 1, i, T, r => if kR T i = 0 then T.set i r else placeF n f (nxt n i) T r
theorem placeF_ok {n : Nat} {S : Hs} {T : List R} (h : Ok S n T) {r : R} (hr : S.U r.1) (hr0 : r.1 ≠ 0) (hw : ∀ j, j < n → kR T j ≠ 0 → S.wt r.1 < S.wt (kR T j)) {e : Nat} (he : e < n) (he0 : kR T e = 0) :
    ∀ (f i : Nat), i < n → (∀ s, s < n → dist n (S.hm n r.1) s < dist n (S.hm n r.1) i → kR T s ≠ 0) → dist n i e < f → Ok S n (placeF n f i T r) ∧ ∀ x, In n (placeF n f i T r) x ↔ In n T x ∨ x = r := by
  intro f
  induction f with
  | zero => intro i _ _ hf; exact absurd hf (Nat.not_lt_zero _)
  | succ f ih =>
    intro i hi hs hf
    have hh := S.hlt n r.1 (by omega)
    simp only [placeF]
    split
    · rename_i hz
      have hil : i < T.length := by rw [h.len]; exact hi
      refine ⟨⟨by rw [List.length_set]; exact h.len, fun j hj => ?_, fun j hj => ?_, fun a b ha hb => ?_, fun j hj => ?_⟩, fun x => ?_⟩
      · rw [kR_set hil, gR_set hil]; split
        · intro e; exact absurd e hr0
        · exact h.zer j hj
      · rw [kR_set hil]; split
        · intro _; exact hr
        · exact h.uk j hj
      · rw [kR_set hil, kR_set hil]
        by_cases e1 : a = i <;> by_cases e2 : b = i
        · intro _ _; omega
        · rw [if_pos e1, if_neg e2]; intro _ e3
          have := hw b hb (by rw [← e3]; exact hr0)
          rw [← e3] at this; omega
        · rw [if_neg e1, if_pos e2]; intro q e3
          have := hw a ha q
          rw [e3] at this; omega
        · rw [if_neg e1, if_neg e2]; exact h.nd a b ha hb
      · rw [kR_set hil]
        split
        · rename_i e; subst e
          intro _ s hsn hd
          have : s ≠ j := fun e => by subst e; omega
          rw [kR_set hil, if_neg this]
          have q := hs s hsn hd
          exact ⟨q, hw s hsn q⟩
        · rename_i e
          intro hk s hsn hd
          have q := h.way j hj hk s hsn hd
          have : s ≠ i := fun e => by subst e; exact q.1 hz
          rw [kR_set hil, if_neg this]; exact q
      · constructor
        · rintro ⟨h1, j, h2, h3⟩
          rw [gR_set hil] at h3
          split at h3
          · exact .inr h3.symm
          · exact .inl ⟨h1, j, h2, h3⟩
        · rintro (⟨h1, j, h2, h3⟩ | rfl)
          · refine ⟨h1, j, h2, ?_⟩
            rw [gR_set hil]
            split
            · rename_i e; subst e; exact absurd (by rw [← h3]; exact hz) h1
            · exact h3
          · exact ⟨hr0, i, hi, by rw [gR_set hil, if_pos rfl]⟩
    · rename_i hz
      have hie : i ≠ e := fun q => by subst q; exact hz he0
      refine ih (nxt n i) (by unfold nxt; split <;> omega) (fun s hsn hd => ?_) (by have d1 := dist_c n i e; have d2 := dist_c n (nxt n i) e; have d3 := nxt_c n i; omega)
      by_cases q : s = i
      · subst q; exact hz
      · exact hs s hsn (by have d1 := dist_c n (S.hm n r.1) s; have d2 := dist_c n (S.hm n r.1) (nxt n i); have d3 := dist_c n (S.hm n r.1) i; have d4 := nxt_c n i; omega)

/-- A record into a table, others being moved. -/
def putF (S : Hs) (n : Nat) : Nat → Nat → List R → R → List R
  | 0, _, T, _ => T
  | f + 1, i, T, r => if gR T i = (0, 0) then T.set i r else if S.bf r.1 (kR T i) = true then putF S n f (nxt n i) (T.set i r) (gR T i) else putF S n f (nxt n i) T r
theorem putF_ok {n : Nat} {S : Hs} : ∀ (f i : Nat) (T : List R) (r : R), Ok S n T → S.U r.1 → r.1 ≠ 0 → (∀ j, j < n → kR T j ≠ r.1) → i < n → (∀ s, s < n → dist n (S.hm n r.1) s < dist n (S.hm n r.1) i → kR T s ≠ 0 ∧ S.wt r.1 < S.wt (kR T s)) →
    (∃ e, e < n ∧ kR T e = 0 ∧ dist n i e < f) → Ok S n (putF S n f i T r) ∧ ∀ x, In n (putF S n f i T r) x ↔ In n T x ∨ x = r := by
  intro f
  induction f with
  | zero => rintro i T r _ _ _ _ _ _ ⟨e, _, _, h⟩; exact absurd h (Nat.not_lt_zero _)
  | succ f ih =>
    rintro i T r h hr hr0 hn hi hs ⟨e, he, he0, hf⟩
    have hh := S.hlt n r.1 (by omega)
    have hil : i < T.length := by rw [h.len]; exact hi
    have inset : ∀ x, kR T i = 0 → (In n (T.set i r) x ↔ In n T x ∨ x = r) := fun x hz => by
      constructor
      · rintro ⟨h1, j, h2, h3⟩
        rw [gR_set hil] at h3
        split at h3
        · exact .inr h3.symm
        · exact .inl ⟨h1, j, h2, h3⟩
      · rintro (⟨h1, j, h2, h3⟩ | rfl)
        · refine ⟨h1, j, h2, ?_⟩
          rw [gR_set hil]
          split
          · rename_i e; subst e; exact absurd (by rw [← h3]; exact hz) h1
          · exact h3
        · exact ⟨hr0, i, hi, by rw [gR_set hil, if_pos rfl]⟩
    have okset : (∀ s, s < n → s ≠ i → dist n (S.hm n r.1) s < dist n (S.hm n r.1) i → kR T s ≠ 0 ∧ S.wt r.1 < S.wt (kR T s)) → (∀ j, j < n → j ≠ i → kR T j ≠ 0 → dist n (S.hm n (kR T j)) i < dist n (S.hm n (kR T j)) j → S.wt (kR T j) < S.wt r.1) → Ok S n (T.set i r) := by
      intro g1 g2
      refine ⟨by rw [List.length_set]; exact h.len, fun j hj => ?_, fun j hj => ?_, fun a b ha hb => ?_, fun j hj => ?_⟩
      · rw [kR_set hil, gR_set hil]; split
        · intro e; exact absurd e hr0
        · exact h.zer j hj
      · rw [kR_set hil]; split
        · intro _; exact hr
        · exact h.uk j hj
      · rw [kR_set hil, kR_set hil]
        by_cases e1 : a = i <;> by_cases e2 : b = i
        · intro _ _; omega
        · rw [if_pos e1, if_neg e2]; intro _ e3; exact absurd e3.symm (hn b hb)
        · rw [if_neg e1, if_pos e2]; intro q e3; exact absurd e3 (hn a ha)
        · rw [if_neg e1, if_neg e2]; exact h.nd a b ha hb
      · rw [kR_set hil]
        split
        · rename_i e; subst e
          intro _ s hsn hd
          have : s ≠ j := fun e => by subst e; omega
          rw [kR_set hil, if_neg this]
          exact g1 s hsn this hd
        · rename_i e
          intro hk s hsn hd
          have q := h.way j hj hk s hsn hd
          rw [kR_set hil]
          split
          · rename_i e2; subst e2; exact ⟨hr0, g2 j hj e hk hd⟩
          · exact q
    simp only [putF]
    split
    · rename_i hz
      have hz : kR T i = 0 := by unfold kR; rw [hz]
      exact ⟨okset (fun s hsn _ hd => hs s hsn hd) (fun j hj _ hk hd => absurd hz (h.way j hj hk i hi hd).1), fun x => inset x hz⟩
    · rename_i hz
      have hz : kR T i ≠ 0 := fun e => hz (h.zer i hi e)
      have hie : i ≠ e := fun q => by subst q; exact hz he0
      have hdn : dist n (nxt n i) e < f := by have d1 := dist_c n i e; have d2 := dist_c n (nxt n i) e; have d3 := nxt_c n i; omega
      have hni : nxt n i < n := by unfold nxt; split <;> omega
      have step : ∀ (H s : Nat), H < n → s < n → dist n H s < dist n H (nxt n i) → s = i ∨ dist n H s < dist n H i := fun H s hH hsn hd => by
        by_cases q : s = i
        · exact .inl q
        · right; have d1 := dist_c n H s; have d2 := dist_c n H (nxt n i); have d3 := dist_c n H i; have d4 := nxt_c n i; omega
      split
      · rename_i hb
        have hb : S.wt (kR T i) < S.wt r.1 := of_decide_eq_true ((S.hbf _ _).symm.trans hb)
        have ok2 := okset (fun s hsn _ hd => hs s hsn hd) (fun j hj _ hk hd => by
          have := (h.way j hj hk i hi hd).2
          omega)
        obtain ⟨q1, q2⟩ := ih (nxt n i) (T.set i r) (gR T i) ok2 (h.uk i hi hz) hz (fun j hj => by
          rw [kR_set hil]
          split
          · rename_i e; exact fun e2 => hn i hi e2.symm
          · rename_i e; exact fun e2 => e (h.nd j i hj hi (by rw [e2]; exact hz) e2)) hni (fun s hsn hd => by
          rw [kR_set hil]
          rcases step _ s (S.hlt n _ (by omega)) hsn hd with e | e
          · rw [if_pos e]; exact ⟨hr0, hb⟩
          · have q := h.way i hi hz s hsn e
            have : s ≠ i := fun e2 => by rw [e2] at e; exact Nat.lt_irrefl _ e
            rw [if_neg this]; exact q) ⟨e, he, by rw [kR_set hil, if_neg (Ne.symm hie)]; exact he0, hdn⟩
        refine ⟨q1, fun x => (q2 x).trans ?_⟩
        constructor
        · rintro (⟨h1, j, h2, h3⟩ | rfl)
          · rw [gR_set hil] at h3
            split at h3
            · exact .inr h3.symm
            · exact .inl ⟨h1, j, h2, h3⟩
          · exact .inl (In.of hi hz)
        · rintro (⟨h1, j, h2, h3⟩ | rfl)
          · by_cases e : j = i
            · subst e; exact .inr h3.symm
            · exact .inl ⟨h1, j, h2, by rw [gR_set hil, if_neg e]; exact h3⟩
          · exact .inl ⟨hr0, i, hi, by rw [gR_set hil, if_pos rfl]⟩
      · rename_i hb
        have hb : ¬ S.wt (kR T i) < S.wt r.1 := fun h => hb ((S.hbf _ _).trans (decide_eq_true h))
        have hne := hn i hi
        have hlt : S.wt r.1 < S.wt (kR T i) := by
          rcases Int.lt_trichotomy (S.wt r.1) (S.wt (kR T i)) with q | q | q
          · exact q
          · exact absurd (S.inj _ _ hr (h.uk i hi hz) q).symm hne
          · exact absurd q hb
        exact ih (nxt n i) T r h hr hr0 hn hni (fun s hsn hd => by
          rcases step _ s hh hsn hd with e | e
          · rw [e]; exact ⟨hz, hlt⟩
          · exact hs s hsn e) ⟨e, he, he0, hdn⟩

/-- Where a key is; below 0: it is not there. -/
def findF (S : Hs) (n : Nat) (T : List R) (key : Int) : Nat → Nat → Int
  | 0, _ => -1
  | f + 1, i => if kR T i = key then (i : Int) else if kR T i = 0 ∨ S.bf key (kR T i) = true then -1 else findF S n T key f (nxt n i)
theorem findF_in {n : Nat} {S : Hs} {T : List R} (h : Ok S n T) {key : Int} {p : Nat} (hp : p < n) (hk : kR T p = key) (h0 : key ≠ 0) : ∀ (f i : Nat), i < n → dist n (S.hm n key) i ≤ dist n (S.hm n key) p → dist n i p < f → findF S n T key f i = p := by
  intro f
  induction f with
  | zero => intro i _ _ hf; exact absurd hf (Nat.not_lt_zero _)
  | succ f ih =>
    intro i hi hd hf
    have hh := S.hlt n key (by omega)
    simp only [findF]
    by_cases e : i = p
    · subst e; rw [if_pos hk]
    · have hlt : dist n (S.hm n key) i < dist n (S.hm n key) p := by
        have d1 := dist_c n (S.hm n key) i; have d2 := dist_c n (S.hm n key) p; omega
      have q := h.way p hp (by rw [hk]; exact h0) i hi (by rw [hk]; exact hlt)
      rw [hk] at q
      rw [if_neg (fun e2 => by rw [e2] at q; omega), if_neg (fun e2 => by
        rcases e2 with e2 | e2
        · exact q.1 e2
        · have : S.wt (kR T i) < S.wt key := of_decide_eq_true ((S.hbf _ _).symm.trans e2)
          omega)]
      refine ih (nxt n i) (by unfold nxt; split <;> omega) ?_ ?_
      · have d1 := dist_c n (S.hm n key) i; have d2 := dist_c n (S.hm n key) p; have d3 := dist_c n (S.hm n key) (nxt n i); have d4 := nxt_c n i; omega
      · have d1 := dist_c n i p; have d2 := dist_c n (nxt n i) p; have d4 := nxt_c n i; omega
theorem findF_out {n : Nat} {S : Hs} {T : List R} {key : Int} (hn : ∀ j, j < n → kR T j ≠ key) : ∀ (f i : Nat), i < n → findF S n T key f i = -1 := by
  intro f
  induction f with
  | zero => intro i _; rfl
  | succ f ih =>
    intro i hi
    simp only [findF]
    rw [if_neg (hn i hi)]
    split
    · rfl
    · exact ih _ (by unfold nxt; split <;> omega)

/-- A hole is filled by those that would have been there; so many steps at most. -/
def delF (S : Hs) (n : Nat) : Nat → Nat → Nat → List R → Option (List R)
  | 0, _, _, _ => none
  | f + 1, hole, i, T => if i = hole then some T else if gR T i = (0, 0) then some T else if dist n hole i ≤ dist n (S.hm n (kR T i)) i then delF S n f i (nxt n i) ((T.set hole (gR T i)).set i (0, 0)) else delF S n f hole (nxt n i) T
def atN (n h c : Nat) : Nat := if h + c < n then h + c else h + c - n
theorem atN_c (n h c : Nat) : (h + c < n ∧ atN n h c = h + c) ∨ (n ≤ h + c ∧ atN n h c = h + c - n) := by
  unfold atN; split
  · exact .inl ⟨by assumption, rfl⟩
  · exact .inr ⟨by omega, rfl⟩
structure Hol (S : Hs) (n : Nat) (T : List R) (h c : Nat) (w : Int) : Prop where
  len : T.length = n
  hn : h < n
  c1 : 1 ≤ c
  cn : c ≤ n
  h0 : gR T h = (0, 0)
  zer : ∀ j, j < n → kR T j = 0 → gR T j = (0, 0)
  uk : ∀ j, j < n → kR T j ≠ 0 → S.U (kR T j)
  nd : ∀ i j, i < n → j < n → kR T i ≠ 0 → kR T i = kR T j → i = j
  way : ∀ j, j < n → kR T j ≠ 0 → ∀ s, s < n → s ≠ h → dist n (S.hm n (kR T j)) s < dist n (S.hm n (kR T j)) j → kR T s ≠ 0 ∧ S.wt (kR T j) < S.wt (kR T s)
  past : ∀ j, j < n → kR T j ≠ 0 → dist n (S.hm n (kR T j)) h < dist n (S.hm n (kR T j)) j → c ≤ dist n h j ∧ S.wt (kR T j) < w
theorem Hol.ok {n : Nat} {S : Hs} {T : List R} {h c : Nat} {w : Int} (H : Hol S n T h c w) (hp : ∀ j, j < n → kR T j ≠ 0 → dist n (S.hm n (kR T j)) h < dist n (S.hm n (kR T j)) j → c ≤ dist n h j → False) : Ok S n T :=
  ⟨H.len, H.zer, H.uk, H.nd, fun j hj hk s hs hd => by
    by_cases e : s = h
    · subst e; exact (hp j hj hk hd (H.past j hj hk hd).1).elim
    · exact H.way j hj hk s hs e hd⟩
theorem delF_ok {n : Nat} {S : Hs} : ∀ (f h c : Nat) (T : List R) (w : Int), Hol S n T h c w → w.toNat * (n + 1) + (n - c) < f → ∃ T', delF S n f h (atN n h c) T = some T' ∧ Ok S n T' ∧ ∀ x, In n T' x ↔ In n T x := by
  intro f
  induction f with
  | zero => intro h c T w _ hf; exact absurd hf (Nat.not_lt_zero _)
  | succ f ih =>
    intro h c T w H hf
    have hn := H.hn
    have c1 := H.c1
    have cn := H.cn
    have hi : atN n h c < n := by unfold atN; split <;> omega
    have hil : atN n h c < T.length := by rw [H.len]; exact hi
    simp only [delF]
    split
    · rename_i e
      have hat := atN_c n h c
      have hc : c = n := by omega
      refine ⟨T, rfl, H.ok (fun j hj hk _ hd => ?_), fun x => Iff.rfl⟩
      have d1 := dist_c n h j; omega
    · rename_i e
      have hc : c < n := by
        rcases Nat.lt_or_ge c n with q | q
        · exact q
        · exfalso; apply e; have hat := atN_c n h c; omega
      have hat := atN_c n h c
      have hdi : dist n h (atN n h c) = c := by have d1 := dist_c n h (atN n h c); omega
      have hne : atN n h c ≠ h := e
      split
      · rename_i hz
        have hz : kR T (atN n h c) = 0 := by unfold kR; rw [hz]
        refine ⟨T, rfl, H.ok (fun j hj hk hd hcj => ?_), fun x => Iff.rfl⟩
        have hji : j ≠ atN n h c := fun e => by rw [e] at hk; exact hk hz
        have hh := S.hlt n (kR T j) (by omega)
        refine (H.way j hj hk (atN n h c) hi hne ?_).1 hz
        generalize atN n h c = i at *
        have d1 := dist_c n (S.hm n (kR T j)) h; have d2 := dist_c n (S.hm n (kR T j)) j; have d3 := dist_c n (S.hm n (kR T j)) i; have d4 := dist_c n h j; have d5 := dist_c n h i
        omega
      · rename_i hz
        have hz : kR T (atN n h c) ≠ 0 := fun q => hz (H.zer _ hi q)
        have hnx : nxt n (atN n h c) = atN n h (c + 1) := by have d1 := nxt_c n (atN n h c); have d2 := atN_c n h (c + 1); omega
        have hh := S.hlt n (kR T (atN n h c)) (by omega)
        split
        · rename_i hmv
          rw [hdi] at hmv
          have hpass : dist n (S.hm n (kR T (atN n h c))) h < dist n (S.hm n (kR T (atN n h c))) (atN n h c) := by
            generalize atN n h c = i at *
            have d1 := dist_c n (S.hm n (kR T i)) h; have d2 := dist_c n (S.hm n (kR T i)) i; have d5 := dist_c n h i
            omega
          have hpw := (H.past _ hi hz hpass).2
          have hlo := S.lo _ (H.uk _ hi hz)
          have hnx2 : nxt n (atN n h c) = atN n (atN n h c) 1 := by have d1 := nxt_c n (atN n h c); have d2 := atN_c n (atN n h c) 1; omega
          generalize hI : atN n h c = i at *
          have hhl : h < T.length := by rw [H.len]; exact hn
          have hl2 : i < (T.set h (gR T i)).length := by rw [List.length_set]; exact hil
          have g2 : ∀ j, gR ((T.set h (gR T i)).set i (0, 0)) j = if j = i then (0, 0) else if j = h then gR T i else gR T j := fun j => by rw [gR_set hl2, gR_set hhl]
          have k2 : ∀ j, kR ((T.set h (gR T i)).set i (0, 0)) j = if j = i then 0 else if j = h then kR T i else kR T j := fun j => by
            unfold kR; rw [g2]; split
            · rfl
            · split <;> rfl
          have H2 : Hol S n ((T.set h (gR T i)).set i (0, 0)) i 1 (S.wt (kR T i)) := by
            refine ⟨by simp [H.len], hi, Nat.le_refl _, by omega, by rw [g2, if_pos rfl], fun j hj => ?_, fun j hj => ?_, fun a b ha hb => ?_, fun j hj => ?_, fun j hj => ?_⟩
            · rw [k2, g2]
              by_cases e1 : j = i
              · rw [if_pos e1, if_pos e1]; intro _; rfl
              · rw [if_neg e1, if_neg e1]
                by_cases e2 : j = h
                · rw [if_pos e2, if_pos e2]; exact fun q => absurd q hz
                · rw [if_neg e2, if_neg e2]; exact H.zer j hj
            · rw [k2]
              split
              · intro q; exact absurd rfl q
              · split
                · intro _; exact H.uk i hi hz
                · exact H.uk j hj
            · rw [k2, k2]
              by_cases a1 : a = i
              · rw [if_pos a1]; intro q; exact absurd rfl q
              · rw [if_neg a1]
                by_cases b1 : b = i
                · rw [if_pos b1]; intro q q2; exact absurd q2 q
                · rw [if_neg b1]
                  by_cases a2 : a = h <;> by_cases b2 : b = h
                  · intro _ _; omega
                  · rw [if_pos a2, if_neg b2]; intro q q2
                    exact absurd (H.nd i b hi hb q q2).symm b1
                  · rw [if_neg a2, if_pos b2]; intro q q2
                    exact absurd (H.nd a i ha hi q q2) a1
                  · rw [if_neg a2, if_neg b2]; exact H.nd a b ha hb
            · rw [k2]
              by_cases e1 : j = i
              · rw [if_pos e1]; intro q; exact absurd rfl q
              · rw [if_neg e1]
                by_cases e2 : j = h
                · rw [if_pos e2]
                  intro _ s hs hsi hd
                  subst e2
                  have hsj : s ≠ j := fun q => by subst q; exact Nat.lt_irrefl _ hd
                  rw [k2, if_neg hsi, if_neg hsj]
                  exact H.way i hi hz s hs hsj (Nat.lt_trans hd hpass)
                · rw [if_neg e2]
                  intro hk s hs hsi hd
                  rw [k2, if_neg hsi]
                  by_cases e3 : s = h
                  · rw [if_pos e3]
                    subst e3
                    have hcj := (H.past j hj hk hd).1
                    have hjh := S.hlt n (kR T j) (by omega)
                    exact ⟨hz, (H.way j hj hk i hi hne (by
                      have d1 := dist_c n (S.hm n (kR T j)) s; have d2 := dist_c n (S.hm n (kR T j)) j; have d3 := dist_c n (S.hm n (kR T j)) i; have d4 := dist_c n s j; have d5 := dist_c n s i
                      omega)).2⟩
                  · rw [if_neg e3]
                    exact H.way j hj hk s hs e3 hd
            · rw [k2]
              by_cases e1 : j = i
              · rw [if_pos e1]; intro q; exact absurd rfl q
              · rw [if_neg e1]
                by_cases e2 : j = h
                · rw [if_pos e2]
                  intro _ hd
                  subst e2
                  exfalso
                  exact absurd hd (Nat.not_lt.2 (Nat.le_of_lt hpass))
                · rw [if_neg e2]
                  intro hk hd
                  refine ⟨?_, (H.way j hj hk i hi hne hd).2⟩
                  have d1 := dist_c n i j; omega
          rw [hnx2]
          obtain ⟨T', q1, q2, q3⟩ := ih i 1 _ _ H2 (by
            have e1 : (S.wt (kR T i)).toNat < w.toNat := by omega
            have e2 : (S.wt (kR T i)).toNat * (n + 1) + (n + 1) ≤ w.toNat * (n + 1) := by
              have := Nat.mul_le_mul_right (n + 1) (Nat.succ_le_of_lt e1)
              rw [Nat.succ_mul] at this; exact this
            omega)
          refine ⟨T', q1, q2, fun x => (q3 x).trans ?_⟩
          constructor
          · rintro ⟨h1, j, h2, h3⟩
            rw [g2] at h3
            split at h3
            · exact absurd (by rw [← h3]) h1
            · split at h3
              · exact ⟨h1, i, hi, h3⟩
              · exact ⟨h1, j, h2, h3⟩
          · rintro ⟨h1, j, h2, h3⟩
            by_cases e1 : j = i
            · exact ⟨h1, h, hn, by rw [g2, if_neg (Ne.symm hne), if_pos rfl, ← e1]; exact h3⟩
            · refine ⟨h1, j, h2, ?_⟩
              rw [g2, if_neg e1]
              split
              · rename_i e2; subst e2; exact absurd (by rw [← h3, H.h0]) h1
              · exact h3
        · rename_i hmv
          rw [hdi] at hmv
          rw [hnx]
          refine ih h (c + 1) T w ⟨H.len, hn, by omega, by omega, H.h0, H.zer, H.uk, H.nd, H.way, fun j hj hk hd => ?_⟩ (by omega)
          obtain ⟨p1, p2⟩ := H.past j hj hk hd
          refine ⟨?_, p2⟩
          rcases Nat.lt_or_ge c (dist n h j) with q | q
          · exact q
          · exfalso
            have ej : j = atN n h c := by
              generalize atN n h c = i at *
              have d4 := dist_c n h j; have d5 := dist_c n h i
              omega
            subst ej
            generalize atN n h c = i at *
            have d1 := dist_c n (S.hm n (kR T i)) h; have d2 := dist_c n (S.hm n (kR T i)) i; have d5 := dist_c n h i
            omega
/-- A record is taken out. -/
theorem del_ok {n : Nat} {S : Hs} {T : List R} (h : Ok S n T) {p : Nat} (hp : p < n) (hk : kR T p ≠ 0) : ∃ f T', delF S n f p (nxt n p) (T.set p (0, 0)) = some T' ∧ Ok S n T' ∧ ∀ x, In n T' x ↔ In n T x ∧ x ≠ gR T p := by
  have hpl : p < T.length := by rw [h.len]; exact hp
  have e : nxt n p = atN n p 1 := by unfold nxt atN; split <;> split <;> omega
  have H : Hol S n (T.set p (0, 0)) p 1 (S.wt (kR T p)) := by
    refine ⟨by simp [h.len], hp, Nat.le_refl _, by omega, by rw [gR_set hpl, if_pos rfl], fun j hj => ?_, fun j hj => ?_, fun a b ha hb => ?_, fun j hj => ?_, fun j hj => ?_⟩
    · rw [kR_set hpl, gR_set hpl]; split
      · intro _; rfl
      · exact h.zer j hj
    · rw [kR_set hpl]; split
      · intro q; exact absurd rfl q
      · exact h.uk j hj
    · rw [kR_set hpl, kR_set hpl]
      by_cases a1 : a = p
      · rw [if_pos a1]; intro q; exact absurd rfl q
      · rw [if_neg a1]
        by_cases b1 : b = p
        · rw [if_pos b1]; intro q q2; exact absurd q2 q
        · rw [if_neg b1]; exact h.nd a b ha hb
    · rw [kR_set hpl]
      by_cases a1 : j = p
      · rw [if_pos a1]; intro q; exact absurd rfl q
      · rw [if_neg a1]; intro hk s hs hsp hd
        rw [kR_set hpl, if_neg hsp]; exact h.way j hj hk s hs hd
    · rw [kR_set hpl]
      by_cases a1 : j = p
      · rw [if_pos a1]; intro q; exact absurd rfl q
      · rw [if_neg a1]; intro hk hd
        refine ⟨by have d1 := dist_c n p j; omega, (h.way j hj hk p hp hd).2⟩
  obtain ⟨T', q1, q2, q3⟩ := delF_ok _ p 1 _ _ H (Nat.lt_succ_self _)
  refine ⟨_, T', by rw [e]; exact q1, q2, fun x => (q3 x).trans ?_⟩
  constructor
  · rintro ⟨h1, j, h2, h3⟩
    rw [gR_set hpl] at h3
    split at h3
    · exact absurd (by rw [← h3]) h1
    · rename_i ne
      refine ⟨⟨h1, j, h2, h3⟩, fun e => ne (h.nd j p h2 hp (by unfold kR; rw [h3]; exact h1) (by unfold kR; rw [h3, e]))⟩
  · rintro ⟨⟨h1, j, h2, h3⟩, ne⟩
    refine ⟨h1, j, h2, ?_⟩
    rw [gR_set hpl]
    split
    · rename_i e; subst e; exact absurd h3.symm ne
    · exact h3
end Go.Proofs.YtnplgklnkcjmnaaGreatDoor.PrT
namespace Go.Proofs.YtnplgklnkcjmnaaGreatDoor.PrT
set_option linter.unusedVariables false
set_option linter.unusedSimpArgs false

/-! ### rows of words -/
def wd (w : Nat) (r : R) : List Int := if w = 1 then [r.1] else [r.1, r.2]
def flat (w : Nat) (T : List R) : List Int := T.flatMap (wd w)
def recs (n w : Nat) (ws : List Int) : List R := (List.range n).map fun i => (ws.getD (i * w) 0, if w = 1 then 0 else ws.getD (i * w + 1) 0)
theorem wd_len {w : Nat} (hw : w = 1 ∨ w = 2) (r : R) : (wd w r).length = w := by rcases hw with rfl | rfl <;> rfl
theorem flat_cons (w : Nat) (r : R) (T : List R) : flat w (r :: T) = wd w r ++ flat w T := by simp [flat]
theorem flat_append (w : Nat) (T U : List R) : flat w (T ++ U) = flat w T ++ flat w U := by simp [flat]
theorem flat_len {w : Nat} (hw : w = 1 ∨ w = 2) (T : List R) : (flat w T).length = T.length * w := by
  induction T with
  | nil => simp [flat]
  | cons r T ih => rw [flat_cons, List.length_append, ih, wd_len hw, List.length_cons, Nat.succ_mul]; omega
theorem flat_split {w : Nat} (T : List R) {i : Nat} (h : i < T.length) : flat w T = flat w (T.take i) ++ (wd w (gR T i) ++ flat w (T.drop (i + 1))) := by
  have e : T = T.take i ++ (gR T i :: T.drop (i + 1)) := by
    unfold gR; rw [List.getD_eq_getElem?_getD, List.getElem?_eq_getElem h]
    show T = T.take i ++ (T[i] :: T.drop (i + 1))
    rw [← List.drop_eq_getElem_cons h, List.take_append_drop]
  rw [show flat w T = flat w (T.take i ++ (gR T i :: T.drop (i + 1))) by rw [← e], flat_append, flat_cons]
theorem flat_get {w : Nat} (hw : w = 1 ∨ w = 2) (T : List R) {i c : Nat} (h : i < T.length) (hc : c < w) : (flat w T).getD (i * w + c) 0 = (wd w (gR T i)).getD c 0 := by
  have hl : (flat w (T.take i)).length = i * w := by rw [flat_len hw, List.length_take, Nat.min_eq_left (by omega)]
  rw [flat_split T h, List.getD_eq_getElem?_getD, List.getElem?_append_right (by omega), hl, show i * w + c - i * w = c by omega, List.getElem?_append_left (by rw [wd_len hw]; exact hc), ← List.getD_eq_getElem?_getD]
theorem flat_key {w : Nat} (hw : w = 1 ∨ w = 2) (T : List R) {i : Nat} (h : i < T.length) : (flat w T).getD (i * w) 0 = kR T i := by
  have := flat_get hw T h (c := 0) (by omega)
  rw [Nat.add_zero] at this
  rw [this]; rcases hw with rfl | rfl <;> rfl
theorem flat_val (T : List R) {i : Nat} (h : i < T.length) : (flat 2 T).getD (i * 2 + 1) 0 = (gR T i).2 := by
  rw [flat_get (.inr rfl) T h (by omega)]; rfl
theorem flat_set {w : Nat} (hw : w = 1 ∨ w = 2) (T : List R) {i : Nat} (h : i < T.length) (r : R) : flat w (T.set i r) = (flat w T).take (i * w) ++ (wd w r ++ (flat w T).drop (i * w + w)) := by
  have hl : (flat w (T.take i)).length = i * w := by rw [flat_len hw, List.length_take, Nat.min_eq_left (by omega)]
  have e1 : gR (T.set i r) i = r := by rw [gR_set h, if_pos rfl]
  rw [flat_split (T.set i r) (by rw [List.length_set]; exact h), e1, List.take_set_of_le (Nat.le_refl _), List.drop_set_of_lt (Nat.lt_succ_self _)]
  have t1 : (flat w T).take (i * w) = flat w (T.take i) := by
    rw [flat_split T h, ← hl, List.take_left]
  have t2 : (flat w T).drop (i * w + w) = flat w (T.drop (i + 1)) := by
    rw [flat_split T h, ← List.append_assoc, show i * w + w = (flat w (T.take i) ++ wd w (gR T i)).length by rw [List.length_append, hl, wd_len hw], List.drop_left]
  rw [t1, t2]
theorem recs_len (n w : Nat) (ws : List Int) : (recs n w ws).length = n := by simp [recs]
theorem recs_get {n w : Nat} (ws : List Int) {i : Nat} (h : i < n) : gR (recs n w ws) i = (ws.getD (i * w) 0, if w = 1 then 0 else ws.getD (i * w + 1) 0) := by
  unfold gR recs
  rw [List.getD_eq_getElem?_getD, List.getElem?_map, List.getElem?_range h]; rfl
theorem flat_recs {n w : Nat} (hw : w = 1 ∨ w = 2) {ws : List Int} (hl : ws.length = n * w) : flat w (recs n w ws) = ws := by
  refine List.ext_getElem? fun q => ?_
  have hfl : (flat w (recs n w ws)).length = n * w := by rw [flat_len hw, recs_len]
  by_cases hq : q < n * w
  · have hlt : q / w < n := Nat.div_lt_of_lt_mul (by rw [Nat.mul_comm]; exact hq)
    have hm : q % w < w := Nat.mod_lt _ (by omega)
    have hqe : q = q / w * w + q % w := by rw [Nat.mul_comm]; exact (Nat.div_add_mod q w).symm
    have h1 : (flat w (recs n w ws)).getD q 0 = ws.getD q 0 := by
      rw [hqe, flat_get hw _ (by rw [recs_len]; exact hlt) hm, recs_get ws hlt]
      rcases hw with rfl | rfl
      · have : q % 1 = 0 := Nat.mod_one q
        rw [this]; rfl
      · rcases Nat.mod_two_eq_zero_or_one q with e | e <;> rw [e] <;> rfl
    rw [List.getD_eq_getElem?_getD, List.getD_eq_getElem?_getD, List.getElem?_eq_getElem (by omega), List.getElem?_eq_getElem (by omega)] at h1
    rw [List.getElem?_eq_getElem (by omega), List.getElem?_eq_getElem (by omega)]
    exact congrArg some h1
  · rw [List.getElem?_eq_none (by omega), List.getElem?_eq_none (by omega)]
/-- Records of one word have no value. -/
def Nv (w : Nat) (T : List R) : Prop := w = 1 → ∀ r ∈ T, r.2 = 0
theorem recs_nv (n w : Nat) (ws : List Int) : Nv w (recs n w ws) := by
  intro hw r hr
  obtain ⟨i, _, rfl⟩ := List.mem_map.1 hr
  simp [hw]
theorem gR_ext {T U : List R} (hl : T.length = U.length) (h : ∀ j, j < T.length → gR T j = gR U j) : T = U := by
  refine List.ext_getElem? fun j => ?_
  by_cases hj : j < T.length
  · have := h j hj
    unfold gR at this
    rw [List.getD_eq_getElem?_getD, List.getD_eq_getElem?_getD, List.getElem?_eq_getElem hj, List.getElem?_eq_getElem (by omega)] at this
    rw [List.getElem?_eq_getElem hj, List.getElem?_eq_getElem (by omega)]
    exact congrArg some this
  · rw [List.getElem?_eq_none (by omega), List.getElem?_eq_none (by omega)]
theorem gR_mem {T : List R} {j : Nat} (h : j < T.length) : gR T j ∈ T := by
  unfold gR; rw [List.getD_eq_getElem?_getD, List.getElem?_eq_getElem h]; exact List.getElem_mem h
theorem recs_flat {n w : Nat} (hw : w = 1 ∨ w = 2) {T : List R} (hl : T.length = n) (hv : Nv w T) : recs n w (flat w T) = T := by
  refine gR_ext (by rw [recs_len, hl]) fun j hj => ?_
  rw [recs_len] at hj
  rw [recs_get _ hj, flat_key hw T (by omega)]
  rcases hw with rfl | rfl
  · have := hv rfl _ (gR_mem (T := T) (j := j) (by omega))
    rw [if_pos rfl, ← this]; rfl
  · rw [if_neg (by omega), flat_val T (by omega)]; rfl
theorem flat_inj {w : Nat} (hw : w = 1 ∨ w = 2) {T U : List R} (hv : Nv w T) (hv' : Nv w U) (h : flat w T = flat w U) : T = U := by
  have hl : T.length = U.length := by
    have := congrArg List.length h
    rw [flat_len hw, flat_len hw] at this
    exact Nat.eq_of_mul_eq_mul_right (by omega) this
  rw [← recs_flat (n := T.length) hw rfl hv, ← recs_flat (n := T.length) hw hl.symm hv', h]

/-! ### sorting -/
section
variable (p : R → R → Bool)
def insA (out : List R) (x : R) : Nat → Nat
  | 0 => 0
  | a + 1 => if p x (gR out a) = true then insA out x a else a + 1
def insL (out : List R) (x : R) : List R := out.take (insA p out x out.length) ++ x :: out.drop (insA p out x out.length)
def sortI (l : List R) : List R := l.foldl (insL p) []
theorem insA_le (out : List R) (x : R) : ∀ a, insA p out x a ≤ a
  | 0 => Nat.le_refl _
  | a + 1 => by
    have := insA_le out x a
    unfold insA; split <;> omega
theorem insL_len (out : List R) (x : R) : (insL p out x).length = out.length + 1 := by
  unfold insL; have := insA_le p out x out.length; simp; omega
theorem insL_mem (out : List R) (x y : R) : y ∈ insL p out x ↔ y = x ∨ y ∈ out := by
  unfold insL
  rw [List.mem_append, List.mem_cons]
  have : y ∈ out ↔ y ∈ out.take (insA p out x out.length) ∨ y ∈ out.drop (insA p out x out.length) := by
    rw [← List.mem_append, List.take_append_drop]
  rw [this]
  constructor
  · rintro (h | h | h)
    · exact .inr (.inl h)
    · exact .inl h
    · exact .inr (.inr h)
  · rintro (h | h | h)
    · exact .inr (.inl h)
    · exact .inl h
    · exact .inr (.inr h)
theorem sortI_mem (l : List R) (y : R) : y ∈ sortI p l ↔ y ∈ l := by
  have : ∀ (l out : List R), y ∈ l.foldl (insL p) out ↔ y ∈ out ∨ y ∈ l := by
    intro l
    induction l with
    | nil => intro out; simp
    | cons a l ih => intro out; rw [List.foldl_cons, ih, insL_mem, List.mem_cons, or_comm (a := y = a), or_assoc]
  unfold sortI; rw [this]; simp
theorem sortI_len (l : List R) : (sortI p l).length = l.length := by
  have : ∀ (l out : List R), (l.foldl (insL p) out).length = out.length + l.length := by
    intro l
    induction l with
    | nil => intro out; simp
    | cons a l ih => intro out; rw [List.foldl_cons, ih, insL_len, List.length_cons]; omega
  unfold sortI; rw [this]; simp
theorem sortI_snoc (l : List R) (x : R) : sortI p (l ++ [x]) = insL p (sortI p l) x := by unfold sortI; rw [List.foldl_append]; rfl
end
theorem insA_spec {p : R → R → Bool} {f : R → Int} (hp : ∀ a b, p a b = decide (f a < f b)) (out : List R) (x : R) : ∀ a, (∀ j, insA p out x a ≤ j → j < a → f x < f (gR out j)) ∧ (0 < insA p out x a → f (gR out (insA p out x a - 1)) ≤ f x)
  | 0 => ⟨fun j _ h => absurd h (Nat.not_lt_zero _), fun h => absurd h (Nat.lt_irrefl _)⟩
  | a + 1 => by
    obtain ⟨h1, h2⟩ := insA_spec hp out x a
    unfold insA
    split
    · rename_i h
      have h : f x < f (gR out a) := of_decide_eq_true ((hp _ _).symm.trans h)
      refine ⟨fun j g1 g2 => ?_, h2⟩
      by_cases e : j = a
      · subst e; exact h
      · exact h1 j g1 (by omega)
    · rename_i h
      have h : ¬ f x < f (gR out a) := fun q => h ((hp _ _).trans (decide_eq_true q))
      exact ⟨fun j g1 g2 => by omega, fun _ => by rw [Nat.add_sub_cancel]; omega⟩
theorem insL_sorted {p : R → R → Bool} {f : R → Int} (hp : ∀ a b, p a b = decide (f a < f b)) {out : List R} {x : R} (h : out.Pairwise fun a b => f a < f b) (hx : ∀ y ∈ out, f y ≠ f x) : (insL p out x).Pairwise fun a b => f a < f b := by
  obtain ⟨h1, h2⟩ := insA_spec hp out x out.length
  have hle := insA_le p out x out.length
  unfold insL
  generalize insA p out x out.length = a at *
  have hs : out = out.take a ++ out.drop a := (List.take_append_drop _ _).symm
  have hpw := h
  rw [hs, List.pairwise_append] at hpw
  obtain ⟨g1, g2, g3⟩ := hpw
  have gd : ∀ y ∈ out.drop a, f x < f y := by
    intro y hy
    obtain ⟨q, hq, rfl⟩ := List.getElem_of_mem hy
    rw [List.length_drop] at hq
    have := h1 (a + q) (by omega) (by omega)
    unfold gR at this
    rw [List.getD_eq_getElem?_getD, List.getElem?_eq_getElem (by omega)] at this
    rw [List.getElem_drop]
    exact this
  have gt : ∀ y ∈ out.take a, f y < f x := by
    intro y hy
    obtain ⟨q, hq, rfl⟩ := List.getElem_of_mem hy
    rw [List.length_take] at hq
    rw [List.getElem_take]
    have h0 := h2 (by omega)
    unfold gR at h0
    rw [List.getD_eq_getElem?_getD, List.getElem?_eq_getElem (by omega)] at h0
    have h0 : f (out[a - 1]'(by omega)) ≤ f x := h0
    have hne := hx _ (List.getElem_mem (show q < out.length by omega))
    by_cases e : q = a - 1
    · subst e; omega
    · have := (List.pairwise_iff_getElem.1 h) q (a - 1) (by omega) (by omega) (by omega)
      omega
  rw [List.pairwise_append]
  refine ⟨g1, List.pairwise_cons.2 ⟨gd, g2⟩, fun a ha b hb => ?_⟩
  rcases List.mem_cons.1 hb with rfl | hb
  · exact gt a ha
  · exact g3 a ha b hb
theorem sortI_sorted {p : R → R → Bool} {f : R → Int} (hp : ∀ a b, p a b = decide (f a < f b)) {l : List R} (h : l.Pairwise fun a b => f a ≠ f b) : (sortI p l).Pairwise fun a b => f a < f b := by
  have : ∀ (l out : List R), (out.Pairwise fun a b => f a < f b) → (l.Pairwise fun a b => f a ≠ f b) → (∀ y ∈ out, ∀ x ∈ l, f y ≠ f x) → (l.foldl (insL p) out).Pairwise fun a b => f a < f b := by
    intro l
    induction l with
    | nil => intro out h _ _; exact h
    | cons a l ih =>
      intro out h1 h2 h3
      obtain ⟨g1, g2⟩ := List.pairwise_cons.1 h2
      rw [List.foldl_cons]
      refine ih _ (insL_sorted hp h1 (fun y hy => h3 y hy a (List.mem_cons_self ..))) g2 (fun y hy x hx => ?_)
      rcases (insL_mem p out a y).1 hy with rfl | hy
      · exact g1 x hx
      · exact h3 y hy x (List.mem_cons_of_mem _ hx)
  exact this l [] List.Pairwise.nil h (fun y hy => by cases hy)
theorem sorted_ext {f : R → Int} : ∀ {l m : List R}, (l.Pairwise fun a b => f a < f b) → (m.Pairwise fun a b => f a < f b) → (∀ x, x ∈ l ↔ x ∈ m) → l = m
  | [], [], _, _, _ => rfl
  | [], b :: m, _, _, h => by have := (h b).2 (List.mem_cons_self ..); cases this
  | a :: l, [], _, _, h => by have := (h a).1 (List.mem_cons_self ..); cases this
  | a :: l, b :: m, h1, h2, h => by
    obtain ⟨a1, a2⟩ := List.pairwise_cons.1 h1
    obtain ⟨b1, b2⟩ := List.pairwise_cons.1 h2
    have e : a = b := by
      rcases List.mem_cons.1 ((h a).1 (List.mem_cons_self ..)) with e | e
      · exact e
      · rcases List.mem_cons.1 ((h b).2 (List.mem_cons_self ..)) with e' | e'
        · exact e'.symm
        · have := b1 _ e; have := a1 _ e'; omega
    subst e
    rw [sorted_ext a2 b2 fun x => ?_]
    constructor
    · intro hx
      rcases List.mem_cons.1 ((h x).1 (List.mem_cons_of_mem _ hx)) with e | e
      · subst e; have := a1 _ hx; omega
      · exact e
    · intro hx
      rcases List.mem_cons.1 ((h x).2 (List.mem_cons_of_mem _ hx)) with e | e
      · subst e; have := b1 _ hx; omega
      · exact e

/-! ### what is built -/
theorem nodup_sub_len {α : Type} [DecidableEq α] : ∀ {l l' : List α}, l.Nodup → (∀ x ∈ l, x ∈ l') → l.length ≤ l'.length
  | [], _, _, _ => Nat.zero_le _
  | a :: l, l', h, hs => by
    obtain ⟨h1, h2⟩ := List.nodup_cons.1 h
    have ha := hs a (List.mem_cons_self ..)
    have := nodup_sub_len (l' := l'.erase a) h2 (fun x hx => (List.mem_erase_of_ne (fun e => h1 (by rw [← e]; exact hx))).2 (hs x (List.mem_cons_of_mem _ hx)))
    rw [List.length_erase_of_mem ha] at this
    have hp : 0 < l'.length := List.length_pos_of_mem ha
    rw [List.length_cons]; omega
theorem Ok.keys_nodup {S : Hs} {n : Nat} {T : List R} (h : Ok S n T) (hf : ∀ j, j < n → kR T j ≠ 0) : ((List.range n).map (gR T)).Nodup := by
  unfold List.Nodup
  rw [List.pairwise_map]
  refine List.Pairwise.imp_of_mem ?_ (List.pairwise_lt_range (n := n))
  intro a b ha hb hlt e
  have := h.nd a b (List.mem_range.1 ha) (List.mem_range.1 hb) (hf a (List.mem_range.1 ha)) (by unfold kR; rw [e])
  omega
theorem Ok.free {S : Hs} {n : Nat} {T : List R} (h : Ok S n T) {l : List R} (hl : l.length < n) (hin : ∀ x, In n T x → x ∈ l) : ∃ e, e < n ∧ kR T e = 0 := by
  by_cases hf : ∃ e, e < n ∧ kR T e = 0
  · exact hf
  · have hf : ∀ j, j < n → kR T j ≠ 0 := fun j hj e => hf ⟨j, hj, e⟩
    have := nodup_sub_len (h.keys_nodup hf) (l' := l) (fun x hx => by
      obtain ⟨j, hj, rfl⟩ := List.mem_map.1 hx
      have hj := List.mem_range.1 hj
      exact hin _ (In.of hj (hf j hj)))
    rw [List.length_map, List.length_range] at this
    omega
/-- Records that may be laid. -/
structure Recs (S : Hs) (l : List R) : Prop where
  u : ∀ r ∈ l, S.U r.1
  nz : ∀ r ∈ l, r.1 ≠ 0
  nd : l.Pairwise fun a b => a.1 ≠ b.1
def putA (S : Hs) (n : Nat) (T : List R) (r : R) : List R := putF S n n (S.hm n r.1) T r
def placeA (S : Hs) (n : Nat) (T : List R) (r : R) : List R := placeF n n (S.hm n r.1) T r
theorem dist_self (n h : Nat) : dist n h h = 0 := by unfold dist; rw [if_pos (Nat.le_refl _)]; omega
theorem dist_lt {n h s : Nat} (h1 : h < n) (h2 : s < n) : dist n h s < n := by have := dist_c n h s; omega
theorem putA_ok {S : Hs} {n : Nat} {T : List R} (h : Ok S n T) {r : R} (hu : S.U r.1) (h0 : r.1 ≠ 0) (hn : ∀ j, j < n → kR T j ≠ r.1) (hf : ∃ e, e < n ∧ kR T e = 0) : Ok S n (putA S n T r) ∧ ∀ x, In n (putA S n T r) x ↔ In n T x ∨ x = r := by
  obtain ⟨e, he, he0⟩ := hf
  have hh := S.hlt n r.1 (by omega)
  exact putF_ok n _ T r h hu h0 hn hh (fun s hs hd => by rw [dist_self] at hd; omega) ⟨e, he, he0, dist_lt hh he⟩
theorem fold_put {S : Hs} {n : Nat} : ∀ (l done T : List R), Ok S n T → (∀ x, In n T x ↔ x ∈ done) → Recs S (done ++ l) → done.length + l.length ≤ n → Ok S n (l.foldl (putA S n) T) ∧ ∀ x, In n (l.foldl (putA S n) T) x ↔ x ∈ done ++ l
  | [], done, T, h, hin, _, _ => ⟨h, fun x => by rw [List.append_nil]; exact hin x⟩
  | a :: l, done, T, h, hin, hr, hl => by
    have ham : a ∈ done ++ a :: l := List.mem_append.2 (.inr (List.mem_cons_self ..))
    have hnd := List.pairwise_append.1 hr.nd
    rw [List.length_cons] at hl
    obtain ⟨g1, g2⟩ := putA_ok h (hr.u a ham) (hr.nz a ham) (fun j hj e => by
      have hk : kR T j ≠ 0 := by rw [e]; exact hr.nz a ham
      exact hnd.2.2 _ ((hin _).1 (In.of hj hk)) a (List.mem_cons_self ..) e) (h.free (l := done) (by omega) (fun x hx => (hin x).1 hx))
    have e : done ++ a :: l = done ++ [a] ++ l := by simp
    rw [List.foldl_cons, e]
    refine fold_put l (done ++ [a]) _ g1 (fun x => ?_) (by rw [← e]; exact hr) (by simp; omega)
    rw [g2, hin]; simp
theorem fold_place {S : Hs} {n : Nat} : ∀ (l done T : List R), Ok S n T → (∀ x, In n T x ↔ x ∈ done) → Recs S (done ++ l) → done.length + l.length ≤ n → ((done ++ l).Pairwise fun a b => S.wt b.1 < S.wt a.1) → Ok S n (l.foldl (placeA S n) T) ∧ ∀ x, In n (l.foldl (placeA S n) T) x ↔ x ∈ done ++ l
  | [], done, T, h, hin, _, _, _ => ⟨h, fun x => by rw [List.append_nil]; exact hin x⟩
  | a :: l, done, T, h, hin, hr, hl, hw => by
    have ham : a ∈ done ++ a :: l := List.mem_append.2 (.inr (List.mem_cons_self ..))
    have hws := List.pairwise_append.1 hw
    rw [List.length_cons] at hl
    obtain ⟨e, he, he0⟩ := h.free (l := done) (by omega) (fun x hx => (hin x).1 hx)
    have hh := S.hlt n a.1 (by omega)
    obtain ⟨g1, g2⟩ := placeF_ok h (hr.u a ham) (hr.nz a ham) (fun j hj hk => hws.2.2 _ ((hin _).1 (In.of hj hk)) a (List.mem_cons_self ..)) he he0 n (S.hm n a.1) hh (fun s hs hd => by rw [dist_self] at hd; omega) (dist_lt hh he)
    have e : done ++ a :: l = done ++ [a] ++ l := by simp
    rw [List.foldl_cons, e]
    refine fold_place l (done ++ [a]) _ g1 (fun x => ?_) (by rw [← e]; exact hr) (by simp; omega) (by rw [← e]; exact hw)
    show In n (placeF n n (S.hm n a.1) T a) x ↔ _
    rw [g2, hin]; simp
def byW (S : Hs) (a b : R) : Bool := S.bf a.1 b.1
def byK (a b : R) : Bool := decide (a.1 < b.1)
/-- The table of records, as the document lays it. -/
def laid (S : Hs) (n : Nat) (l : List R) : List R := (sortI (byW S) l).foldl (placeA S n) (List.replicate n (0, 0))
/-- .. and as they are put one by one. -/
def built (S : Hs) (n : Nat) (l : List R) : List R := l.foldl (putA S n) (List.replicate n (0, 0))
theorem Recs.of_mem {S : Hs} {l m : List R} (h : Recs S l) (hm : ∀ x, x ∈ m → x ∈ l) (hn : m.Pairwise fun a b => a.1 ≠ b.1) : Recs S m := ⟨fun r hr => h.u r (hm r hr), fun r hr => h.nz r (hm r hr), hn⟩
theorem built_ok {S : Hs} {n : Nat} {l : List R} (hr : Recs S l) (hl : l.length ≤ n) : Ok S n (built S n l) ∧ ∀ x, In n (built S n l) x ↔ x ∈ l := by
  obtain ⟨h1, h2⟩ := fold_put l [] _ (Ok.nil S n) (fun x => ⟨fun h => absurd h In.nil, fun h => by cases h⟩) (by simpa using hr) (by simpa using hl)
  exact ⟨h1, fun x => (h2 x).trans (by rw [List.nil_append])⟩
theorem laid_ok {S : Hs} {n : Nat} {l : List R} (hr : Recs S l) (hl : l.length ≤ n) : Ok S n (laid S n l) ∧ ∀ x, In n (laid S n l) x ↔ x ∈ l := by
  have hpw : l.Pairwise fun a b => -S.wt a.1 ≠ -S.wt b.1 := by
    refine List.Pairwise.imp_of_mem ?_ hr.nd
    intro a b ha hb hne e
    exact hne (S.inj _ _ (hr.u a ha) (hr.u b hb) (by omega))
  have hs := sortI_sorted (p := byW S) (f := fun r => -S.wt r.1) (fun a b => by
    unfold byW; rw [S.hbf]; congr 1; exact propext ⟨fun h => by omega, fun h => by omega⟩) hpw
  have hr2 : Recs S (sortI (byW S) l) := hr.of_mem (fun x hx => (sortI_mem _ l x).1 hx) (hs.imp fun h e => by rw [e] at h; omega)
  obtain ⟨h1, h2⟩ := fold_place (sortI (byW S) l) [] _ (Ok.nil S n) (fun x => ⟨fun h => absurd h In.nil, fun h => by cases h⟩) (by simpa using hr2) (by rw [sortI_len]; simpa using hl) (by
    show List.Pairwise _ (sortI (byW S) l)
    exact hs.imp fun h => by omega)
  exact ⟨h1, fun x => (h2 x).trans (by rw [List.nil_append]; exact sortI_mem _ l x)⟩
/-- There is one table of the same records. -/
theorem laid_is {S : Hs} {n : Nat} {l T : List R} (hr : Recs S l) (hl : l.length ≤ n) (h : Ok S n T) (hin : ∀ x, In n T x ↔ x ∈ l) : laid S n l = T :=
  (laid_ok hr hl).1.uniq h fun x => ((laid_ok hr hl).2 x).trans (hin x).symm
theorem built_laid {S : Hs} {n : Nat} {l : List R} (hr : Recs S l) (hl : l.length ≤ n) : built S n l = laid S n l :=
  (laid_is hr hl (built_ok hr hl).1 (built_ok hr hl).2).symm
/-- The records of a table, as they lie. -/
def nzs (T : List R) : List R := T.filter fun r => r.1 != 0
theorem nzs_mem {T : List R} {x : R} : x ∈ nzs T ↔ x ∈ T ∧ x.1 ≠ 0 := by unfold nzs; rw [List.mem_filter]; simp
theorem In_nzs {n : Nat} {T : List R} (hl : T.length = n) (x : R) : In n T x ↔ x ∈ nzs T := by
  rw [nzs_mem]
  constructor
  · rintro ⟨h1, j, h2, rfl⟩; exact ⟨gR_mem (by omega), h1⟩
  · rintro ⟨h1, h2⟩
    obtain ⟨j, hj, rfl⟩ := List.getElem_of_mem h1
    refine ⟨h2, j, by omega, ?_⟩
    unfold gR; rw [List.getD_eq_getElem?_getD, List.getElem?_eq_getElem hj]; rfl
theorem nzs_len (T : List R) : (nzs T).length ≤ T.length := List.length_filter_le _ _
theorem pw_of {T : List R} (h : ∀ i j, i < j → j < T.length → kR T i ≠ 0 → kR T i ≠ kR T j) : (nzs T).Pairwise fun a b => a.1 ≠ b.1 := by
  unfold nzs
  rw [List.pairwise_filter]
  rw [List.pairwise_iff_getElem]
  intro i j hi hj hij a1 a2
  have := h i j hij hj
  unfold kR gR at this
  rw [List.getD_eq_getElem?_getD, List.getD_eq_getElem?_getD, List.getElem?_eq_getElem hi, List.getElem?_eq_getElem hj] at this
  exact this (by simpa using a1)
theorem Ok.recs {S : Hs} {n : Nat} {T : List R} (h : Ok S n T) : Recs S (nzs T) := by
  refine ⟨fun r hr => ?_, fun r hr => (nzs_mem.1 hr).2, pw_of fun i j hij hj hk e => ?_⟩
  · obtain ⟨h1, j, h2, rfl⟩ := (In_nzs h.len r).2 hr
    exact h.uk j h2 h1
  · rw [h.len] at hj
    have := h.nd i j (by omega) hj hk e; omega
end Go.Proofs.YtnplgklnkcjmnaaGreatDoor.PrT
