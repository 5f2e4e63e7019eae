/- How memory stands for the machine's own, and what turns it. -/
import Derived.Test.YteinekidpokbpaaAmB
import Derived.Laws.NewBlocks
import Derived.MapKept
import Derived.Deep.Draws
namespace Go.Proofs.Yteinekidpokbpaa.Am
set_option linter.unusedVariables false
open Go.RowKit

def NoFrz (w : World) (b : Nat) : Prop := ∀ o, w.frozen? ⟨b, o, none⟩ = false
/-- What a walk is told from outside: which old blocks it may turn, the frames that wait, and below what their marks lie. -/
structure Env where
  p : Nat → Prop
  gh : Nat → Act
  b0 : Nat
  lo : Nat
  hi : ∀ id d D, d ∈ (gh id).defers → d.target = .collected D → D < lo
/-- The deferred calls of a frame: marks of loops over functions, no two alike, none of them with a call. -/
def Mk (w : World) : List Deferred → Prop
  | [] => True
  | d :: ds => (∃ D, d = { target := .collected D, args := #[] } ∧ w.heap[D]? = some (.deferred (some [])) ∧ ∀ e ∈ ds, e ≠ d) ∧ Mk w ds
/-- What is known of a frame. -/
def FV (w : World) (I : Nat → Prop) (m : Nat → Option Nat) (L : Nat → Option (Option Nat)) (ts : Sl) (a : Act) : Prop := (∀ i, TV w I m L (tget ts i) (a.tmps.getD i undef)) ∧ Mk w a.defers
/-- What is known of the frames that wait. -/
def GV (O : Env) (w : World) (I : Nat → Prop) (m : Nat → Option Nat) (L : Nat → Option (Option Nat)) : Blk → Prop
  | .gh id ts => FV w I m L ts (O.gh id)
  | .lp id l st pe n ts ps asg body => FV w I m L ts (O.gh id) ∧ ((O.gh id).tmps.size = n ∧ O.b0 ≤ l) ∧ ∃ fn D, w.heap[l]? = some (.loop { state := st, pending := pe, fn := fn, tmps := (O.gh id).tmps, params := ps, assign := asg, body := body, defers := D })
  | _ => True
/-- A block reads as one of the machine's own. -/
def BVb (O : Env) (w : World) (I : Nat → Prop) (m : Nat → Option Nat) (L : Nat → Option (Option Nat)) (k : Blk) (b : Nat) : Prop := match k with
  | .fl ks xs => ks ≠ [] ∧ Room w b xs.length ∧ NoFrz w b ∧ FlatAt w b 0 ks xs
  | .cs cs => ∃ vs, TVs w I m L cs vs ∧ Room w b vs.length ∧ NoFrz w b ∧ CellsAt w b 0 vs
  | .mp kk vk es => ∃ ms c, w.heap[b]? = some (.map ms c) ∧ ((ms.toList.map (fun e => (e.key, e.val)) = es.map fun p => (Value.int kk p.1, mval vk p.2)) ∧ MapKept.Stamped ms c)
  | k => GV O w I m L k
/-- One that is empty need not be there yet. -/
def BV (O : Env) (w : World) (I : Nat → Prop) (m : Nat → Option Nat) (L : Nat → Option (Option Nat)) (k : Blk) : Option Nat → Prop
  | some b => BVb O w I m L k b
  | none => match k with
    | .fl ks xs => ks ≠ [] ∧ xs = []
    | .cs cs => cs = []
    | k => GV O w I m L k
theorem Mk.goes {w w' : World} (ho : ∀ (b : Nat) (o : Obj), w.heap[b]? = some o → isOdd o = true → w'.heap[b]? = some o) {ds : List Deferred} (h : Mk w ds) : Mk w' ds := by
  induction ds with
  | nil => trivial
  | cons d ds ih => obtain ⟨⟨D, h1, h3, h4⟩, h5⟩ := h; exact ⟨⟨D, h1, ho _ _ h3 rfl, h4⟩, ih h5⟩
theorem FV.goes {w w' : World} {I I' m m' L L'} (g : Goes w w' I I' m m' L L') {ts : Sl} {a : Act} (h : FV w I m L ts a) : FV w' I' m' L' ts a := ⟨fun i => (h.1 i).goes g, h.2.goes g.odd⟩
theorem GV.goes {O : Env} {w w' : World} {I I' m m' L L'} (g : Goes w w' I I' m m' L L') {b : Blk} (h : GV O w I m L b) : GV O w' I' m' L' b := by
  cases b with
  | gh id ts => exact FV.goes g h
  | lp id l st pe n ts ps asg body => obtain ⟨h1, h3, fn, D, h2⟩ := h; exact ⟨FV.goes g h1, h3, fn, D, g.odd _ _ h2 rfl⟩
  | fl ks xs => trivial
  | cs cs => trivial
  | gone => trivial
  | mp kk vk es => trivial
/-- Which blocks may be read as ones that stay. -/
def Im (m : Nat → Option Nat) (g : Mem) (b : Nat) : Prop := ¬ Own m (lens g) b

/-- What was there when the call began is as it was, but for O. -/
structure Fr (O : Env) (w w' : World) : Prop where
  os : w'.os = w.os
  tape : w'.tape = w.tape
  output : w'.output = w.output
  size : w.heap.size ≤ w'.heap.size
  block : ∀ b, b < w.heap.size → ¬ O.p b → w'.heap[b]? = w.heap[b]?
theorem Fr.refl (O : Env) (w : World) : Fr O w w := ⟨rfl, rfl, rfl, Nat.le_refl _, fun _ _ _ => rfl⟩
theorem Fr.trans {O : Env} {a b c : World} (h : Fr O a b) (k : Fr O b c) : Fr O a c :=
  ⟨k.os.trans h.os, k.tape.trans h.tape, k.output.trans h.output, Nat.le_trans h.size k.size, fun i hi ho => (k.block i (Nat.lt_of_lt_of_le hi h.size) ho).trans (h.block i hi ho)⟩
theorem Fr.of_below {O : Env} {w w' : World} (h : Below w.heap.size w w') : Fr O w w' := ⟨h.os, h.tape, h.output, h.size, fun b hb _ => h.block b hb⟩
theorem Fr.below {O : Env} {w w' : World} (h : Fr O w w') (ho : ∀ b, ¬ O.p b) : Below w.heap.size w w' := ⟨h.os, h.tape, h.output, h.size, fun b hb => h.block b hb (ho b)⟩

structure HR (w0 w : World) (O : Env) (m : Nat → Option Nat) (g : Mem) : Prop where
  fr : Fr O w0 w
  lo : w0.heap.size ≤ O.b0 ∧ O.b0 ≤ O.lo ∧ O.lo ≤ w.heap.size
  blk : ∀ k b, g k = some b → BV O w (Im m g) m (lens g) b (m k)
  inj : ∀ k k' l l' n, lens g k = some (some l) → lens g k' = some (some l') → m k = some n → m k' = some n → k = k'
  new : ∀ k l n, lens g k = some (some l) → m k = some n → w0.heap.size ≤ n ∨ O.p n

theorem lens_some {g : Mem} {k : Nat} {l : Nat} (h : lens g k = some (some l)) : ∃ b, g k = some b ∧ b.len? = some l := by
  unfold lens at h
  cases e : g k with
  | none => rw [e] at h; cases h
  | some b => rw [e] at h; exact ⟨b, rfl, by simpa using h⟩
theorem lens_of {g : Mem} {k : Nat} {b : Blk} (h : g k = some b) : lens g k = some b.len? := by unfold lens; rw [h]

theorem Room.lt {w : World} {b n : Nat} (h : Room w b n) : b < w.heap.size := by
  obtain ⟨o, h, _⟩ := h
  exact (Array.getElem?_eq_some_iff.1 h).1
theorem Room.cells {w : World} {b n : Nat} (h : Room w b n) (hn : 0 < n) : ∃ c e fz, w.heap[b]? = some (.cells c e fz) ∧ n ≤ c.size := by
  obtain ⟨o, h, h2⟩ := h
  cases o <;> first | exact ⟨_, _, _, h, h2⟩ | (simp only [roomO] at h2; omega) | exact h2.elim
theorem Room.not_odd {w : World} {b n : Nat} (h : Room w b n) {o : Obj} (ho : w.heap[b]? = some o) : isOdd o = false := by
  obtain ⟨o', h, h2⟩ := h
  rw [ho] at h; cases h
  cases o <;> first | rfl | exact h2.elim
theorem Room.mono {w : World} {b n n' : Nat} (h : Room w b n) (hn : n' ≤ n) : Room w b n' := by
  obtain ⟨o, h, h2⟩ := h
  refine ⟨o, h, ?_⟩
  cases o <;> first | exact Nat.le_trans hn h2 | (simp only [roomO] at h2 ⊢; omega) | exact h2.elim
theorem Room.of_cells {w : World} {b n : Nat} {c : Array Value} {e : TypeId} {fz : Nat × Nat} (h : w.heap[b]? = some (.cells c e fz)) (hn : n ≤ c.size) : Room w b n := ⟨_, h, hn⟩
theorem BVb.room {O w I m L} {b : Blk} {n l : Nat} (h : BVb O w I m L b n) (hl : b.len? = some l) : Room w n l := by
  cases b with
  | fl ks xs => cases hl; exact h.2.1
  | cs cs => obtain ⟨vs, hv, hr, _⟩ := h; cases hl; rw [hv.length]; exact hr
  | mp kk vk es => obtain ⟨ms, c, hm, _⟩ := h; cases hl; exact ⟨_, hm, rfl⟩
  | gone => cases hl
  | gh id ts => cases hl
  | lp id l st pe n ts ps asg body => cases hl
theorem HR.lt {w0 w O m g} (h : HR w0 w O m g) {k l n : Nat} (hk : lens g k = some (some l)) (hm : m k = some n) : n < w.heap.size := by
  obtain ⟨b, hb, hl⟩ := lens_some hk
  have := h.blk k b hb
  rw [hm] at this
  exact (BVb.room this hl).lt

/-- One block reads as it did. -/
structure SameB (w w' : World) (b : Nat) : Prop where
  cell : ∀ o, w'.cell? ⟨b, o, none⟩ = w.cell? ⟨b, o, none⟩
  frz : ∀ o, w'.frozen? ⟨b, o, none⟩ = w.frozen? ⟨b, o, none⟩
  room : ∀ n, Room w b n → Room w' b n
  same : w'.heap[b]? = w.heap[b]?
theorem SameB.of_block {w w' : World} {b : Nat} (h : w'.heap[b]? = w.heap[b]?) : SameB w w' b :=
  ⟨fun o => World.cell?_of_block (w := w) h, fun o => World.frozen?_of_block (w := w) h, fun n ⟨o, hc, hn⟩ => ⟨o, h.trans hc, hn⟩, h⟩

theorem BVb.goes {O w w' I I' m m' L L'} (g : Goes w w' I I' m m' L L') {b : Blk} {n : Nat} (s : SameB w w' n) (h : BVb O w I m L b n) : BVb O w' I' m' L' b n := by
  cases b with
  | fl ks xs => exact ⟨h.1, s.room _ h.2.1, fun o => (s.frz o).trans (h.2.2.1 o), fun i x hx => (s.cell _).trans (h.2.2.2 i x hx)⟩
  | cs cs => obtain ⟨vs, hv, hr, hf, hc⟩ := h; exact ⟨vs, hv.goes g, s.room _ hr, fun o => (s.frz o).trans (hf o), fun i x hx => (s.cell _).trans (hc i x hx)⟩
  | mp kk vk es => obtain ⟨ms, c, h1, h2⟩ := h; exact ⟨ms, c, s.same.trans h1, h2⟩
  | gone => trivial
  | gh id ts => exact GV.goes g (b := .gh id ts) h
  | lp id l st pe n ts ps asg body => exact GV.goes g (b := .lp id l st pe n ts ps asg body) h
theorem BV.goes {O w w' I I' m m' L L'} (g : Goes w w' I I' m m' L L') {b : Blk} {n : Option Nat} (s : ∀ q, n = some q → SameB w w' q) (h : BV O w I m L b n) : BV O w' I' m' L' b n := by
  cases n with
  | none => cases b with
    | fl ks xs => exact h
    | cs cs => exact h
    | mp kk vk es => trivial
    | gone => trivial
    | gh id ts => exact GV.goes g (b := .gh id ts) h
    | lp id l st pe n ts ps asg body => exact GV.goes g (b := .lp id l st pe n ts ps asg body) h
  | some q => exact BVb.goes g (s q rfl) h

/-- What turns memory, in general. -/
theorem HR.change {w0 w w' O m m' g g'} (h : HR w0 w O m g) (fr' : Fr O w0 w') (G : Goes w w' (Im m g) (Im m' g') m m' (lens g) (lens g'))
    (hb : ∀ k b, g' k = some b → (g k = some b ∧ (∀ l, b.len? = some l → m' k = m k ∧ ∀ n, m k = some n → SameB w w' n)) ∨ BV O w' (Im m' g') m' (lens g') b (m' k))
    (inj' : ∀ k k' l l' n, lens g' k = some (some l) → lens g' k' = some (some l') → m' k = some n → m' k' = some n → k = k')
    (new' : ∀ k l n, lens g' k = some (some l) → m' k = some n → w0.heap.size ≤ n ∨ O.p n) : HR w0 w' O m' g' := by
  refine ⟨fr', ⟨h.lo.1, h.lo.2.1, Nat.le_trans h.lo.2.2 G.size⟩, fun k b hk => ?_, inj', new'⟩
  rcases hb k b hk with ⟨h1, h2⟩ | h1
  · cases hl : b.len? with
    | none =>
      have hv := h.blk k b h1
      have hgv : GV O w (Im m g) m (lens g) b := by
        cases b <;> first | (cases hl; done) | (cases e : m k <;> (rw [e] at hv; exact hv))
      have hgv' := GV.goes G hgv
      cases b <;> first | (cases hl; done) | (cases m' k <;> exact hgv')
    | some l =>
      obtain ⟨e, s⟩ := h2 l hl
      rw [e]
      exact (h.blk k b h1).goes G s
  · exact h1

theorem Goes.of_below {w w' : World} (h : Below w.heap.size w w') {m g} {w0 O} (hr : HR w0 w O m g) : Goes w w' (Im m g) (Im m g) m m (lens g) (lens g) :=
  ⟨⟨fun _ _ hI => hI, h.size, fun b o hb _ => h.cell (p := ⟨b, o, none⟩) hb, fun k s hs => by
    cases s with
    | none => exact .inl hs
    | some l => exact .inr ⟨l, rfl, hs, rfl⟩, fun b n hr' => (SameB.of_block (h.block _ hr'.lt)).room _ hr'⟩, fun b o ho _ => (h.block b (Array.getElem?_eq_some_iff.1 ho).1).trans ho⟩
theorem HR.below {w0 w w' O m g} (h : HR w0 w O m g) (hb : Below w.heap.size w w') : HR w0 w' O m g :=
  h.change (h.fr.trans (Fr.of_below hb)) (Goes.of_below hb h) (fun k b hk => .inl ⟨hk, fun l hl => ⟨rfl, fun n hn => SameB.of_block (hb.block _ (h.lt (by rw [lens_of hk, hl]) hn))⟩⟩) h.inj h.new

theorem upd_one (g : Mem) (k : Nat) (b : Blk) (j : Nat) : upd g [(k, b)] j = if k = j then some b else g j := by
  simp only [upd]
  cases e : Nat.beq k j
  · have : ¬ k = j := fun h => by subst h; rw [Nat.beq_refl] at e; cases e
    rw [if_neg this]; rfl
  · have : k = j := Nat.eq_of_beq_eq_true e
    rw [if_pos this]; rfl
theorem lens_upd (g : Mem) (k : Nat) (b : Blk) (j : Nat) : lens (upd g [(k, b)]) j = if k = j then some b.len? else lens g j := by
  unfold lens
  rw [upd_one]
  by_cases e : k = j
  · rw [if_pos e, if_pos e]
  · rw [if_neg e, if_neg e]

/-- A new block (none: an empty one that is not there yet). -/
def mk1 (m : Nat → Option Nat) (k : Nat) (n : Option Nat) (j : Nat) : Option Nat := if k = j then n else m j
theorem Goes.new {w0 w w' O m g} (h : HR w0 w O m g) (hb : Below w.heap.size w w') {k : Nat} {n : Option Nat} {b : Blk} (hk : g k = none) (hn : ∀ q, n = some q → w.heap.size ≤ q) :
    Goes w w' (Im m g) (Im (mk1 m k n) (upd g [(k, b)])) m (mk1 m k n) (lens g) (lens (upd g [(k, b)])) := by
  have hno : ∀ j s, lens g j = some s → k ≠ j := fun j s hs e => by subst e; unfold lens at hs; rw [hk] at hs; cases hs
  refine ⟨⟨fun c hc hI ho => ?_, hb.size, fun c o hc _ => hb.cell (p := ⟨c, o, none⟩) hc, fun j s hs => ?_, fun b n' hr => (SameB.of_block (hb.block _ hr.lt)).room _ hr⟩, fun b o ho _ => (hb.block b (Array.getElem?_eq_some_iff.1 ho).1).trans ho⟩
  · obtain ⟨j, l, hj, e⟩ := ho
    rw [lens_upd] at hj
    unfold mk1 at e
    by_cases hkj : k = j
    · rw [if_pos hkj] at e; have := hn _ e; omega
    · rw [if_neg hkj] at e hj; exact hI ⟨j, l, hj, e⟩
  · have hne := hno j s hs
    rw [lens_upd, if_neg hne]
    cases s with
    | none => exact .inl hs
    | some l => exact .inr ⟨l, rfl, hs, if_neg hne⟩
theorem HR.newB {w0 w w' O m g} (h : HR w0 w O m g) (hb : Below w.heap.size w w') {k : Nat} {n : Option Nat} {b : Blk} (hk : g k = none) (hn : ∀ q, n = some q → w.heap.size ≤ q)
    (hv : BV O w' (Im (mk1 m k n) (upd g [(k, b)])) (mk1 m k n) (lens (upd g [(k, b)])) b n) : HR w0 w' O (mk1 m k n) (upd g [(k, b)]) := by
  refine h.change (h.fr.trans (Fr.of_below hb)) (Goes.new h hb hk hn) (fun j c hj => ?_) (fun j j' l l' q hj hj' e e' => ?_) (fun j l q hj hq => ?_)
  · rw [upd_one] at hj
    by_cases hkj : k = j
    · subst hkj; rw [if_pos rfl] at hj; cases hj; right; unfold mk1 at *; rw [if_pos rfl]; exact hv
    · rw [if_neg hkj] at hj
      left; exact ⟨hj, fun l hl => ⟨if_neg hkj, fun n hn => SameB.of_block (hb.block _ (h.lt (by rw [lens_of hj, hl]) hn))⟩⟩
  · rw [lens_upd] at hj hj'
    unfold mk1 at e e'
    by_cases h1 : k = j <;> by_cases h2 : k = j'
    · omega
    · rw [if_pos h1] at e; rw [if_neg h2] at e' hj'; have := h.lt hj' e'; have := hn _ e; omega
    · rw [if_pos h2] at e'; rw [if_neg h1] at e hj; have := h.lt hj e; have := hn _ e'; omega
    · rw [if_neg h1] at e hj; rw [if_neg h2] at e' hj'; exact h.inj _ _ _ _ _ hj hj' e e'
  · rw [lens_upd] at hj
    unfold mk1 at hq
    by_cases h1 : k = j
    · rw [if_pos h1] at hq; left; have := h.fr.size; have := hn _ hq; omega
    · rw [if_neg h1] at hj hq; exact h.new _ _ _ hj hq

/-- One of the machine's own blocks is written. -/
structure OnlyB (w w' : World) (n : Nat) : Prop where
  os : w'.os = w.os
  tape : w'.tape = w.tape
  output : w'.output = w.output
  size : w'.heap.size = w.heap.size
  block : ∀ b, b ≠ n → w'.heap[b]? = w.heap[b]?
  room : ∀ l, Room w n l → Room w' n l
theorem OnlyB.refl (w : World) (n : Nat) : OnlyB w w n := ⟨rfl, rfl, rfl, rfl, fun _ _ => rfl, fun _ h => h⟩
theorem OnlyB.trans {a b c : World} {n : Nat} (h : OnlyB a b n) (k : OnlyB b c n) : OnlyB a c n :=
  ⟨k.os.trans h.os, k.tape.trans h.tape, k.output.trans h.output, k.size.trans h.size, fun i hi => (k.block i hi).trans (h.block i hi), fun l hl => k.room l (h.room l hl)⟩
theorem OnlyB.setCell (w : World) (a : Addr) (v : Value) (ha : a.spot = none) : OnlyB w (w.setCell a v) a.block := by
  refine ⟨rfl, rfl, rfl, by simp [World.setCell], fun b hb => Below.heap_setCell _ _ _ _ hb, fun l ⟨o, hc, hl⟩ => ?_⟩
  cases o with
  | cells c e fz =>
    refine ⟨.cells (c.setIfInBounds a.off v) e fz, ?_, by simpa [roomO] using hl⟩
    simp only [World.setCell, Array.getElem?_modify, if_pos, hc, Option.map_some, ha]
    simp
  | map ms c =>
    refine ⟨.map ms c, ?_, hl⟩
    simp only [World.setCell, Array.getElem?_modify, if_pos, hc, Option.map_some, ha]
  | _ => exact hl.elim
theorem Goes.setB {w0 w w' O m g} (h : HR w0 w O m g) {k n : Nat} {l : Nat} (hk : lens g k = some (some l)) (hm : m k = some n) (hb : OnlyB w w' n) {b : Blk} (hl : b.len? = some l) :
    Goes w w' (Im m g) (Im m (upd g [(k, b)])) m m (lens g) (lens (upd g [(k, b)])) := by
  refine ⟨⟨fun c hc hI ho => ?_, Nat.le_of_eq hb.size.symm, fun c o hc hI => ?_, fun j s hs => ?_, fun q n' hr => ?_⟩, fun c o ho hod => (hb.block c (fun e => ?_)).trans ho⟩
  · obtain ⟨j, l2, hj, e⟩ := ho
    rw [lens_upd] at hj
    by_cases hkj : k = j
    · subst hkj; exact hI ⟨k, l, hk, e⟩
    · rw [if_neg hkj] at hj; exact hI ⟨j, l2, hj, e⟩
  · exact (SameB.of_block (hb.block c (fun e => hI ⟨k, l, hk, e ▸ hm⟩))).cell o
  · rw [lens_upd]
    by_cases hkj : k = j
    · subst hkj; rw [if_pos rfl, hl]; rw [hk] at hs; cases hs; exact .inr ⟨l, rfl, rfl, rfl⟩
    · rw [if_neg hkj]
      cases s with
      | none => exact .inl hs
      | some l => exact .inr ⟨l, rfl, hs, rfl⟩
  · by_cases e : q = n
    · subst e; exact hb.room _ hr
    · exact (SameB.of_block (hb.block _ e)).room _ hr
  · subst e
    obtain ⟨b0, e1, e2⟩ := lens_some hk
    have hv := h.blk k b0 e1
    rw [hm] at hv
    rw [(BVb.room hv e2).not_odd ho] at hod; cases hod
theorem HR.setB {w0 w w' O m g} (h : HR w0 w O m g) {k n : Nat} {l : Nat} (hk : lens g k = some (some l)) (hm : m k = some n) (hb : OnlyB w w' n) {b : Blk} (hl : b.len? = some l)
    (hv : BVb O w' (Im m (upd g [(k, b)])) m (lens (upd g [(k, b)])) b n) : HR w0 w' O m (upd g [(k, b)]) := by
  have hlen : ∀ j s, lens (upd g [(k, b)]) j = some (some s) → ∃ s', lens g j = some (some s') := fun j s hj => by
    rw [lens_upd] at hj
    by_cases hkj : k = j
    · subst hkj; exact ⟨_, hk⟩
    · rw [if_neg hkj] at hj; exact ⟨_, hj⟩
  refine h.change ⟨hb.os.trans h.fr.os, hb.tape.trans h.fr.tape, hb.output.trans h.fr.output, by rw [hb.size]; exact h.fr.size, fun c hc ho => ?_⟩ (Goes.setB h hk hm hb hl) (fun j c hj => ?_) (fun j j' s s' q hj hj' e e' => ?_) (fun j s q hj hq => ?_)
  · refine (hb.block c (fun e => ?_)).trans (h.fr.block c hc ho)
    rcases h.new _ _ _ hk hm with h1 | h1
    · omega
    · exact ho (e ▸ h1)
  · rw [upd_one] at hj
    by_cases hkj : k = j
    · subst hkj; rw [if_pos rfl] at hj; cases hj; right; rw [hm]; exact hv
    · rw [if_neg hkj] at hj
      left; refine ⟨hj, fun s hs => ⟨rfl, fun q hq => SameB.of_block (hb.block _ (fun e => hkj ?_))⟩⟩
      subst e
      exact (h.inj _ _ _ _ _ (by rw [lens_of hj, hs]) hk hq hm).symm
  · obtain ⟨_, h1⟩ := hlen _ _ hj; obtain ⟨_, h2⟩ := hlen _ _ hj'; exact h.inj _ _ _ _ _ h1 h2 e e'
  · obtain ⟨_, h1⟩ := hlen _ _ hj; exact h.new _ _ _ h1 hq
end Go.Proofs.Yteinekidpokbpaa.Am
