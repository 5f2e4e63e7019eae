/- The values of an abstract machine, and how they stand for Go's. -/
import Derived.Orders
import Derived.Below
import Derived.KernelRfl
namespace Go.Proofs.Yteinekidpokbpaa.Am
set_option linter.unusedVariables false

/-- An abstract value: what of a value is known. -/
inductive T where
  | v (x : Value)
  | fl (ks : List IntKind) (n : Nat) (xs : List Int)
  | fp (ks : List IntKind) (xs : List Int) (b st i e : Nat)
  | sl (n sz : Nat) (cs : List T)
  | sp (cs : List T) (i : Nat)
  | os (k sz off n : Nat)
  | ow (k sz n : Nat)
  | op (k b st i e : Nat)
  /-- A map of the machine's own. -/
  | mp (k : Nat)
  | agg (cs : List T)
  | tup (cs : List T)
  | ifc (t : TypeId) (x : T)
  | fn (f : Fn) (first cap : List T)
  | dead
  deriving Inhabited

/-- What a map holds: nothing, whole numbers, functions that hold nothing. -/
inductive MK where
  | none
  | some (q : IntKind)
  | fn
  deriving DecidableEq, Inhabited

/-- A block of the machine's own. -/
inductive Blk where
  | fl (ks : List IntKind) (xs : List Int)
  | cs (cs : List T)
  | gone
  /-- A map: its keys, of one kind, and what belongs to them, as they were laid. -/
  | mp (kk : IntKind) (vk : MK) (es : List (Int × Int))
  /-- A frame that waits: what is known of its slots. -/
  | gh (id : Nat) (ts : List (Nat × T))
  /-- A loop over a function: its record, and what is known of the slots of its frame. -/
  | lp (id l : Nat) (st : LoopState) (pe : Option Code) (n : Nat) (ts : List (Nat × T)) (ps : Array Tmp) (asg body : Code)
  deriving Inhabited

def Blk.len? : Blk → Option Nat
  | .fl _ xs => some xs.length
  | .cs l => some l.length
  | .gone => none
  | .mp _ _ _ => some 0
  | .gh _ _ => none
  | .lp .. => none

/-- The machine's own memory, by names of blocks. -/
abbrev Hp := List (Nat × Blk)
def Hp.get : Hp → Nat → Option Blk
  | [], _ => none
  | (j, b) :: r, k => bif Nat.beq j k then some b else Hp.get r k
/-- What is known of slots: the last one told of a slot counts. -/
abbrev Sl := List (Nat × T)
def tget : Sl → Nat → T
  | [], _ => .dead
  | (j, t) :: r, i => match Nat.beq j i with
    | true => t
    | false => tget r i
/-- How long a block is: none: there is none; some none: it is not to be read any more. -/
def lens (g : Nat → Option Blk) (k : Nat) : Option (Option Nat) := match g k with
  | some b => some b.len?
  | none => none

/-- Values that name no block. -/
def plain : Value → Bool
  | .bool _ | .int _ _ | .float _ _ | .string _ | .pointer none | .slice none 0 0 | .map none | .chan none | .nilFunc | .nilIface => true
  | .func _ ⟨[]⟩ ⟨[]⟩ => true
  | .tuple ⟨[]⟩ => true
  | _ => false

def kc (ks : List IntKind) (i : Nat) : IntKind := ks.getD (i % ks.length) .i64

/-- What is told of a row of flat cells in a block. -/
def FlatAt (w : World) (b off : Nat) (ks : List IntKind) (xs : List Int) : Prop :=
  ∀ i x, xs[i]? = some x → w.cell? ⟨b, off + i, none⟩ = some (.int (kc ks i) x)
def CellsAt (w : World) (b off : Nat) (vs : List Value) : Prop :=
  ∀ i v, vs[i]? = some v → w.cell? ⟨b, off + i, none⟩ = some v
/-- A block of cells of at least so many. -/
def roomO (n : Nat) : Obj → Prop
  | .cells c _ _ => n ≤ c.size
  | .map _ _ => n = 0
  | _ => False
def Room (w : World) (b n : Nat) : Prop := ∃ o, w.heap[b]? = some o ∧ roomO n o

mutual
/-- An abstract value stands for a value in a world. I: which blocks may be read as ones that stay; m, L: where the machine's own blocks lie, and how long they are. -/
inductive TV (w : World) (I : Nat → Prop) (m : Nat → Option Nat) (L : Nat → Option (Option Nat)) : T → Value → Prop
  | v {x : Value} (h : plain x = true) : TV w I m L (.v x) x
  | fl0 {ks : List IntKind} {a : Option Addr} {cap : Nat} : TV w I m L (.fl ks 0 []) (.slice a 0 cap)
  | fl {ks : List IntKind} {n : Nat} {xs : List Int} {b off cap : Nat} (hI : I b) (hb : b < w.heap.size) (hk : ks ≠ []) (hn : xs.length = n * ks.length) (hc : n ≤ cap ∧ n ≤ 9223372036854775807) (hp : 0 < n)
      (h : FlatAt w b off ks xs) : TV w I m L (.fl ks n xs) (.slice (some ⟨b, off, none⟩) n cap)
  | fp {ks : List IntKind} {xs : List Int} {b0 st i e b off : Nat} (hI : I b) (hb : b < w.heap.size) (hk : ks ≠ []) (he : b0 + i * st + e ≤ xs.length)
      (h : FlatAt w b off ks xs) : TV w I m L (.fp ks xs b0 st i e) (.pointer (some ⟨b, off + (b0 + i * st), none⟩))
  | sl0 {sz : Nat} {a : Option Addr} {cap : Nat} : TV w I m L (.sl 0 sz []) (.slice a 0 cap)
  | sl {n sz : Nat} {cs : List T} {vs : List Value} {b off cap : Nat} (hI : I b) (hb : b < w.heap.size) (hn : cs.length = n * sz) (hc : n ≤ cap ∧ n ≤ 9223372036854775807) (hp : 0 < n)
      (hv : TVs w I m L cs vs) (h : CellsAt w b off vs) : TV w I m L (.sl n sz cs) (.slice (some ⟨b, off, none⟩) n cap)
  | sp {cs : List T} {i : Nat} {vs : List Value} {b off : Nat} (hI : I b) (hb : b < w.heap.size) (hv : TVs w I m L cs vs) (h : CellsAt w b off vs) :
      TV w I m L (.sp cs i) (.pointer (some ⟨b, off + i, none⟩))
  | osx {k sz off n n' cap : Nat} {a : Option Addr} (h : L k = some none) : TV w I m L (.os k sz off n) (.slice a n' cap)
  | os0 {k sz off l : Nat} {a : Option Addr} (h : L k = some (some l)) (hl : off * sz ≤ l) (hz : 0 < sz) : TV w I m L (.os k sz off 0) (.slice a 0 0)
  | os {k sz off n l cap b : Nat} (h : L k = some (some l)) (hm : m k = some b) (hl : (off + n) * sz ≤ l) (hc : n ≤ cap ∧ n ≤ 9223372036854775807) (hz : 0 < sz) (hr : Room w b ((off + cap) * sz)) :
      TV w I m L (.os k sz off n) (.slice (some ⟨b, off * sz, none⟩) n cap)
  | ow {k sz n : Nat} {x : Value} (h : TV w I m L (.os k sz 0 n) x) (hl : L k = some none ∨ L k = some (some (n * sz))) : TV w I m L (.ow k sz n) x
  | opx {k b st i e : Nat} {a : Option Addr} (h : L k = some none) : TV w I m L (.op k b st i e) (.pointer a)
  | op {k b st i e l bb : Nat} (h : L k = some (some l)) (hm : m k = some bb) (hl : b + i * st + e ≤ l) : TV w I m L (.op k b st i e) (.pointer (some ⟨bb, b + i * st, none⟩))
  | mpx {k : Nat} {a : Option Nat} (h : L k = some none) : TV w I m L (.mp k) (.map a)
  | mp {k b : Nat} (h : L k = some (some 0)) (hm : m k = some b) : TV w I m L (.mp k) (.map (some b))
  | agg {cs : List T} {vs : Array Value} (h : TVs w I m L cs vs.toList) : TV w I m L (.agg cs) (.agg vs)
  | tup {cs : List T} {vs : Array Value} (h : TVs w I m L cs vs.toList) : TV w I m L (.tup cs) (.tuple vs)
  | ifc {t : TypeId} {x : T} {y : Value} (h : TV w I m L x y) : TV w I m L (.ifc t x) (.iface t y)
  | fn {f : Fn} {a c : List T} {as cs : Array Value} (ha : TVs w I m L a as.toList) (hc : TVs w I m L c cs.toList) : TV w I m L (.fn f a c) (.func f as cs)
  | dead {x : Value} : TV w I m L .dead x
inductive TVs (w : World) (I : Nat → Prop) (m : Nat → Option Nat) (L : Nat → Option (Option Nat)) : List T → List Value → Prop
  | nil : TVs w I m L [] []
  | cons {t : T} {v : Value} {ts : List T} {vs : List Value} (h : TV w I m L t v) (r : TVs w I m L ts vs) : TVs w I m L (t :: ts) (v :: vs)
end

/-- Is a block one of the machine's own? -/
def Own (m : Nat → Option Nat) (L : Nat → Option (Option Nat)) (b : Nat) : Prop := ∃ k l, L k = some (some l) ∧ m k = some b

/-- What loops over functions lay. -/
def isOdd : Obj → Bool
  | .loop _ => true
  | .deferred _ => true
  | _ => false
/-- How one description of memory leads to another one: what may be read stays, what is own is still there, or is let go. -/
structure Goes0 (w w' : World) (I I' : Nat → Prop) (m m' : Nat → Option Nat) (L L' : Nat → Option (Option Nat)) : Prop where
  imm : ∀ b, b < w.heap.size → I b → I' b
  size : w.heap.size ≤ w'.heap.size
  cell : ∀ b o, b < w.heap.size → I b → w'.cell? ⟨b, o, none⟩ = w.cell? ⟨b, o, none⟩
  own : ∀ k s, L k = some s → L' k = some none ∨ ∃ l, s = some l ∧ L' k = some (some l) ∧ m' k = m k
  room : ∀ b n, Room w b n → Room w' b n
/-- The same, and what loops over functions have laid stays. -/
structure Goes (w w' : World) (I I' : Nat → Prop) (m m' : Nat → Option Nat) (L L' : Nat → Option (Option Nat)) : Prop extends Goes0 w w' I I' m m' L L' where
  odd : ∀ (b : Nat) (o : Obj), w.heap[b]? = some o → isOdd o = true → w'.heap[b]? = some o

theorem FlatAt.goes {w w' : World} {I I' m m' L L' b off ks xs} (g : Goes0 w w' I I' m m' L L') (hb : b < w.heap.size) (hI : I b) (h : FlatAt w b off ks xs) : FlatAt w' b off ks xs :=
  fun i x hx => (g.cell b _ hb hI).trans (h i x hx)
theorem CellsAt.goes {w w' : World} {I I' m m' L L' b off vs} (g : Goes0 w w' I I' m m' L L') (hb : b < w.heap.size) (hI : I b) (h : CellsAt w b off vs) : CellsAt w' b off vs :=
  fun i x hx => (g.cell b _ hb hI).trans (h i x hx)

theorem TV.goes0 {w w' : World} {I I' m m' L L'} (g : Goes0 w w' I I' m m' L L') {t : T} {v : Value} (h : TV w I m L t v) : TV w' I' m' L' t v := by
  refine TV.rec (motive_1 := fun t v _ => TV w' I' m' L' t v) (motive_2 := fun ts vs _ => TVs w' I' m' L' ts vs) ?_ ?_ ?_ ?_ ?_ ?_ ?_ ?_ ?_ ?_ ?_ ?_ ?_ ?_ ?_ ?_ ?_ ?_ ?_ ?_ ?_ ?_ h
  · intro x h; exact .v h
  · intros; exact .fl0
  · intro ks n xs b off cap hI hb hk hn hc hp h; exact .fl (g.imm _ hb hI) (Nat.lt_of_lt_of_le hb g.size) hk hn hc hp (h.goes g hb hI)
  · intro ks xs b0 st i e b off hI hb hk he h; exact .fp (g.imm _ hb hI) (Nat.lt_of_lt_of_le hb g.size) hk he (h.goes g hb hI)
  · intros; exact .sl0
  · intro n sz cs vs b off cap hI hb hn hc hp hv h ih; exact .sl (g.imm _ hb hI) (Nat.lt_of_lt_of_le hb g.size) hn hc hp ih (h.goes g hb hI)
  · intro cs i vs b off hI hb hv h ih; exact .sp (g.imm _ hb hI) (Nat.lt_of_lt_of_le hb g.size) ih (h.goes g hb hI)
  · intro k sz off n n' cap a h
    rcases g.own k _ h with e | ⟨l, e, _⟩
    · exact .osx e
    · cases e
  · intro k sz off l a h hl hz
    rcases g.own k _ h with e | ⟨l0, e, e1, e3⟩
    · exact .osx e
    · cases e; exact .os0 e1 hl hz
  · intro k sz off n l cap b h hm hl hc hz hr
    rcases g.own k _ h with e | ⟨l0, e, e1, e3⟩
    · exact .osx e
    · cases e; exact .os e1 (e3.trans hm) hl hc hz (g.room _ _ hr)
  · intro k sz n x h hl ih
    refine .ow ih ?_
    rcases hl with hl | hl
    · rcases g.own k _ hl with e | ⟨l0, e, _⟩
      · exact .inl e
      · cases e
    · rcases g.own k _ hl with e | ⟨l0, e, e1, _⟩
      · exact .inl e
      · cases e; exact .inr e1
  · intro k b st i e a h
    rcases g.own k _ h with e | ⟨l, e, _⟩
    · exact .opx e
    · cases e
  · intro k b st i e l bb h hm hl
    rcases g.own k _ h with e | ⟨l0, e, e1, e3⟩
    · exact .opx e
    · cases e; exact .op e1 (e3.trans hm) hl
  · intro k a h
    rcases g.own k _ h with e | ⟨l, e, _⟩
    · exact .mpx e
    · cases e
  · intro k b h hm
    rcases g.own k _ h with e | ⟨l0, e, e1, e3⟩
    · exact .mpx e
    · cases e; exact .mp e1 (e3.trans hm)
  · intro cs vs h ih; exact .agg ih
  · intro cs vs h ih; exact .tup ih
  · intro t x y h ih; exact .ifc ih
  · intro f a c as cs ha hc iha ihc; exact .fn iha ihc
  · intros; exact .dead
  · exact .nil
  · intro t v ts vs h r ih1 ih2; exact .cons ih1 ih2

theorem TVs.goes0 {w w' : World} {I I' m m' L L'} (g : Goes0 w w' I I' m m' L L') {ts : List T} {vs : List Value} (h : TVs w I m L ts vs) : TVs w' I' m' L' ts vs := by
  induction ts generalizing vs with
  | nil => cases h; exact .nil
  | cons t ts ih => cases h with | cons h r => exact .cons (h.goes0 g) (ih r)
theorem TV.goes {w w' : World} {I I' m m' L L'} (g : Goes w w' I I' m m' L L') {t : T} {v : Value} (h : TV w I m L t v) : TV w' I' m' L' t v := h.goes0 g.toGoes0
theorem TVs.goes {w w' : World} {I I' m m' L L'} (g : Goes w w' I I' m m' L L') {ts : List T} {vs : List Value} (h : TVs w I m L ts vs) : TVs w' I' m' L' ts vs := h.goes0 g.toGoes0

theorem TVs.length {w I m L} {ts : List T} {vs : List Value} (h : TVs w I m L ts vs) : ts.length = vs.length := by
  induction ts generalizing vs with
  | nil => cases h; rfl
  | cons t ts ih => cases h with | cons h r => simp [ih r]
theorem TVs.get {w I m L} {ts : List T} {vs : List Value} (h : TVs w I m L ts vs) {i : Nat} {t : T} (ht : ts[i]? = some t) : ∃ v, vs[i]? = some v ∧ TV w I m L t v := by
  induction ts generalizing vs i with
  | nil => simp at ht
  | cons t0 ts ih =>
    cases h with
    | cons h r =>
      cases i with
      | zero => simp at ht; subst ht; exact ⟨_, rfl, h⟩
      | succ i => simp at ht; obtain ⟨v, h1, h2⟩ := ih r ht; exact ⟨v, by simpa using h1, h2⟩
theorem TVs.get' {w I m L} {ts : List T} {vs : List Value} (h : TVs w I m L ts vs) {i : Nat} {v : Value} (hv : vs[i]? = some v) : ∃ t, ts[i]? = some t ∧ TV w I m L t v := by
  have hl := h.length
  have hi : i < vs.length := (List.getElem?_eq_some_iff.1 hv).1
  obtain ⟨v', h1, h2⟩ := h.get (i := i) (t := ts[i]'(by omega)) (List.getElem?_eq_getElem _)
  rw [hv] at h1; cases h1
  exact ⟨_, List.getElem?_eq_getElem _, h2⟩
theorem TVs.set {w I m L} {ts : List T} {vs : List Value} (h : TVs w I m L ts vs) {i : Nat} {t : T} {v : Value} (hv : TV w I m L t v) : TVs w I m L (ts.set i t) (vs.set i v) := by
  induction ts generalizing vs i with
  | nil => cases h; exact .nil
  | cons t0 ts ih =>
    cases h with
    | cons h r =>
      cases i with
      | zero => exact .cons hv r
      | succ i => exact .cons h (ih r)
theorem TVs.append {w I m L} {ts us : List T} {vs ws : List Value} (h : TVs w I m L ts vs) (h' : TVs w I m L us ws) : TVs w I m L (ts ++ us) (vs ++ ws) := by
  induction ts generalizing vs with
  | nil => cases h; exact h'
  | cons t ts ih => cases h with | cons h r => exact .cons h (ih r)
theorem TVs.take {w I m L} {ts : List T} {vs : List Value} (h : TVs w I m L ts vs) (n : Nat) : TVs w I m L (ts.take n) (vs.take n) := by
  induction ts generalizing vs n with
  | nil => cases h; simp; exact .nil
  | cons t ts ih => cases h with | cons h r => cases n with
    | zero => exact .nil
    | succ n => exact .cons h (ih r n)
theorem TVs.drop {w I m L} {ts : List T} {vs : List Value} (h : TVs w I m L ts vs) (n : Nat) : TVs w I m L (ts.drop n) (vs.drop n) := by
  induction ts generalizing vs n with
  | nil => cases h; simp; exact .nil
  | cons t ts ih => cases h with | cons h r => cases n with
    | zero => exact .cons h r
    | succ n => exact ih r n
theorem TVs.replicate {w I m L} {t : T} {v : Value} (h : TV w I m L t v) (n : Nat) : TVs w I m L (List.replicate n t) (List.replicate n v) := by
  induction n with
  | zero => exact .nil
  | succ n ih => exact .cons h ih
end Go.Proofs.Yteinekidpokbpaa.Am
