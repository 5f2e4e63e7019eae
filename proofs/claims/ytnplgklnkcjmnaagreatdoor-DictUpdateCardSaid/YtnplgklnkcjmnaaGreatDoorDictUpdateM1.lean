/- Texts put together: AmA, AmB, AmC, AmD, AmE, AmF, AmG, AmH, AmR, AmI. -/
import Derived.Orders
import Derived.Below
import Derived.KernelRfl
import Derived.Laws.Entries
import Derived.Laws.NewBlocks
import Derived.MapKept
import Derived.Deep.Draws
import Derived.Laws.Sem
import Derived.ChangeKeysEq
import Derived.RangeFuncNested
import Derived.RangeFuncLeaves
import Derived.OrdersIn
namespace Go.Proofs.YtnplgklnkcjmnaaGreatDoor.Am
set_option linter.unusedVariables false

/-- An abstract value: what of a value is known. -/
inductive T where
  | v (x : Value)
  | fl (ks : List IntKind) (n : Nat) (xs : List Int)
  | fp (ks : List IntKind) (xs : List Int) (b st i e : Nat)
  | sl (n sz : Nat) (cs : List T)
  | sp (cs : List T) (i : Nat)
  | os (k sz off n : Nat)
  | ow (k sz n : Nat)
  | op (k b st i e : Nat)
  /-- A map of the machine's own. -/
  | mp (k : Nat)
  | agg (cs : List T)
  | tup (cs : List T)
  | ifc (t : TypeId) (x : T)
  | fn (f : Fn) (first cap : List T)
  | dead
  deriving Inhabited

/-- What a map holds: nothing, whole numbers, functions that hold nothing. -/
inductive MK where
  | none
  | some (q : IntKind)
  | fn
  deriving DecidableEq, Inhabited

/-- A block of the machine's own. -/
inductive Blk where
  | fl (ks : List IntKind) (xs : List Int)
  | cs (cs : List T)
  | gone
  /-- A map: its keys, of one kind, and what belongs to them, as they were laid. -/
  | mp (kk : IntKind) (vk : MK) (es : List (Int × Int))
  /-- A frame that waits: what is known of its slots. -/
  | gh (id : Nat) (ts : List (Nat × T))
  /-- A loop over a function: its record, and what is known of the slots of its frame. -/
  | lp (id l : Nat) (st : LoopState) (pe : Option Code) (n : Nat) (ts : List (Nat × T)) (ps : Array Tmp) (asg body : Code)
  deriving Inhabited

def Blk.len? : Blk → Option Nat
  | .fl _ xs => some xs.length
  | .cs l => some l.length
  | .gone => none
  | .mp _ _ _ => some 0
  | .gh _ _ => none
  | .lp .. => none

/-- The machine's own memory, by names of blocks. -/
abbrev Hp := List (Nat × Blk)
def Hp.get : Hp → Nat → Option Blk
  | [], _ => none
  | (j, b) :: r, k => bif Nat.beq j k then some b else Hp.get r k
/-- What is known of slots: the last one told of a slot counts. -/
abbrev Sl := List (Nat × T)
def tget : Sl → Nat → T
  | [], _ => .dead
  | (j, t) :: r, i => match Nat.beq j i with
    | true => t
    | false => tget r i
/-- How long a block is: none: there is none; some none: it is not to be read any more. -/
def lens (g : Nat → Option Blk) (k : Nat) : Option (Option Nat) := match g k with
  | some b => some b.len?
  | none => none

/-- Values that name no block. -/
def plain : Value → Bool
  | .bool _ | .int _ _ | .float _ _ | .string _ | .pointer none | .slice none 0 0 | .map none | .chan none | .nilFunc | .nilIface => true
  | .func _ ⟨[]⟩ ⟨[]⟩ => true
  | .tuple ⟨[]⟩ => true
  | _ => false

def kc (ks : List IntKind) (i : Nat) : IntKind := ks.getD (i % ks.length) .i64

/-- What is told of a row of flat cells in a block. -/
def FlatAt (w : World) (b off : Nat) (ks : List IntKind) (xs : List Int) : Prop :=
  ∀ i x, xs[i]? = some x → w.cell? ⟨b, off + i, none⟩ = some (.int (kc ks i) x)
def CellsAt (w : World) (b off : Nat) (vs : List Value) : Prop :=
  ∀ i v, vs[i]? = some v → w.cell? ⟨b, off + i, none⟩ = some v
/-- A block of cells of at least so many. -/
def roomO (n : Nat) : Obj → Prop
  | .cells c _ _ => n ≤ c.size
  | .map _ _ => n = 0
  | _ => False
def Room (w : World) (b n : Nat) : Prop := ∃ o, w.heap[b]? = some o ∧ roomO n o

mutual
/-- An abstract value stands for a value in a world. I: which blocks may be read as ones that stay; m, L: where the machine's own blocks lie, and how long they are. -/
inductive TV (w : World) (I : Nat → Prop) (m : Nat → Option Nat) (L : Nat → Option (Option Nat)) : T → Value → Prop
  | v {x : Value} (h : plain x = true) : TV w I m L (.v x) x
  | fl0 {ks : List IntKind} {a : Option Addr} {cap : Nat} : TV w I m L (.fl ks 0 []) (.slice a 0 cap)
  | fl {ks : List IntKind} {n : Nat} {xs : List Int} {b off cap : Nat} (hI : I b) (hb : b < w.heap.size) (hk : ks ≠ []) (hn : xs.length = n * ks.length) (hc : n ≤ cap ∧ n ≤ 9223372036854775807) (hp : 0 < n)
      (h : FlatAt w b off ks xs) : TV w I m L (.fl ks n xs) (.slice (some ⟨b, off, none⟩) n cap)
  | fp {ks : List IntKind} {xs : List Int} {b0 st i e b off : Nat} (hI : I b) (hb : b < w.heap.size) (hk : ks ≠ []) (he : b0 + i * st + e ≤ xs.length)
      (h : FlatAt w b off ks xs) : TV w I m L (.fp ks xs b0 st i e) (.pointer (some ⟨b, off + (b0 + i * st), none⟩))
  | sl0 {sz : Nat} {a : Option Addr} {cap : Nat} : TV w I m L (.sl 0 sz []) (.slice a 0 cap)
  | sl {n sz : Nat} {cs : List T} {vs : List Value} {b off cap : Nat} (hI : I b) (hb : b < w.heap.size) (hn : cs.length = n * sz) (hc : n ≤ cap ∧ n ≤ 9223372036854775807) (hp : 0 < n)
      (hv : TVs w I m L cs vs) (h : CellsAt w b off vs) : TV w I m L (.sl n sz cs) (.slice (some ⟨b, off, none⟩) n cap)
  | sp {cs : List T} {i : Nat} {vs : List Value} {b off : Nat} (hI : I b) (hb : b < w.heap.size) (hv : TVs w I m L cs vs) (h : CellsAt w b off vs) :
      TV w I m L (.sp cs i) (.pointer (some ⟨b, off + i, none⟩))
  | osx {k sz off n n' cap : Nat} {a : Option Addr} (h : L k = some none) : TV w I m L (.os k sz off n) (.slice a n' cap)
  | os0 {k sz off l : Nat} {a : Option Addr} (h : L k = some (some l)) (hl : off * sz ≤ l) (hz : 0 < sz) : TV w I m L (.os k sz off 0) (.slice a 0 0)
  | os {k sz off n l cap b : Nat} (h : L k = some (some l)) (hm : m k = some b) (hl : (off + n) * sz ≤ l) (hc : n ≤ cap ∧ n ≤ 9223372036854775807) (hz : 0 < sz) (hr : Room w b ((off + cap) * sz)) :
      TV w I m L (.os k sz off n) (.slice (some ⟨b, off * sz, none⟩) n cap)
  | ow {k sz n : Nat} {x : Value} (h : TV w I m L (.os k sz 0 n) x) (hl : L k = some none ∨ L k = some (some (n * sz))) : TV w I m L (.ow k sz n) x
  | opx {k b st i e : Nat} {a : Option Addr} (h : L k = some none) : TV w I m L (.op k b st i e) (.pointer a)
  | op {k b st i e l bb : Nat} (h : L k = some (some l)) (hm : m k = some bb) (hl : b + i * st + e ≤ l) : TV w I m L (.op k b st i e) (.pointer (some ⟨bb, b + i * st, none⟩))
  | mpx {k : Nat} {a : Option Nat} (h : L k = some none) : TV w I m L (.mp k) (.map a)
  | mp {k b : Nat} (h : L k = some (some 0)) (hm : m k = some b) : TV w I m L (.mp k) (.map (some b))
  | agg {cs : List T} {vs : Array Value} (h : TVs w I m L cs vs.toList) : TV w I m L (.agg cs) (.agg vs)
  | tup {cs : List T} {vs : Array Value} (h : TVs w I m L cs vs.toList) : TV w I m L (.tup cs) (.tuple vs)
  | ifc {t : TypeId} {x : T} {y : Value} (h : TV w I m L x y) : TV w I m L (.ifc t x) (.iface t y)
  | fn {f : Fn} {a c : List T} {as cs : Array Value} (ha : TVs w I m L a as.toList) (hc : TVs w I m L c cs.toList) : TV w I m L (.fn f a c) (.func f as cs)
  | dead {x : Value} : TV w I m L .dead x
inductive TVs (w : World) (I : Nat → Prop) (m : Nat → Option Nat) (L : Nat → Option (Option Nat)) : List T → List Value → Prop
  | nil : TVs w I m L [] []
  | cons {t : T} {v : Value} {ts : List T} {vs : List Value} (h : TV w I m L t v) (r : TVs w I m L ts vs) : TVs w I m L (t :: ts) (v :: vs)
end

/-- Is a block one of the machine's own? -/
def Own (m : Nat → Option Nat) (L : Nat → Option (Option Nat)) (b : Nat) : Prop := ∃ k l, L k = some (some l) ∧ m k = some b

/-- What loops over functions lay. -/
def isOdd : Obj → Bool
  | .loop _ => true
  | .deferred _ => true
  | _ => false
/-- How one description of memory leads to another one: what may be read stays, what is own is still there, or is let go. -/
structure Goes0 (w w' : World) (I I' : Nat → Prop) (m m' : Nat → Option Nat) (L L' : Nat → Option (Option Nat)) : Prop where
  imm : ∀ b, b < w.heap.size → I b → I' b
  size : w.heap.size ≤ w'.heap.size
  cell : ∀ b o, b < w.heap.size → I b → w'.cell? ⟨b, o, none⟩ = w.cell? ⟨b, o, none⟩
  own : ∀ k s, L k = some s → L' k = some none ∨ ∃ l, s = some l ∧ L' k = some (some l) ∧ m' k = m k
  room : ∀ b n, Room w b n → Room w' b n
/-- The same, and what loops over functions have laid stays. -/
structure Goes (w w' : World) (I I' : Nat → Prop) (m m' : Nat → Option Nat) (L L' : Nat → Option (Option Nat)) : Prop extends Goes0 w w' I I' m m' L L' where
  odd : ∀ (b : Nat) (o : Obj), w.heap[b]? = some o → isOdd o = true → w'.heap[b]? = some o

theorem FlatAt.goes {w w' : World} {I I' m m' L L' b off ks xs} (g : Goes0 w w' I I' m m' L L') (hb : b < w.heap.size) (hI : I b) (h : FlatAt w b off ks xs) : FlatAt w' b off ks xs :=
  fun i x hx => (g.cell b _ hb hI).trans (h i x hx)
theorem CellsAt.goes {w w' : World} {I I' m m' L L' b off vs} (g : Goes0 w w' I I' m m' L L') (hb : b < w.heap.size) (hI : I b) (h : CellsAt w b off vs) : CellsAt w' b off vs :=
  fun i x hx => (g.cell b _ hb hI).trans (h i x hx)

theorem TV.goes0 {w w' : World} {I I' m m' L L'} (g : Goes0 w w' I I' m m' L L') {t : T} {v : Value} (h : TV w I m L t v) : TV w' I' m' L' t v := by
  refine TV.rec (motive_1 := fun t v _ => TV w' I' m' L' t v) (motive_2 := fun ts vs _ => TVs w' I' m' L' ts vs) ?_ ?_ ?_ ?_ ?_ ?_ ?_ ?_ ?_ ?_ ?_ ?_ ?_ ?_ ?_ ?_ ?_ ?_ ?_ ?_ ?_ ?_ h
  · intro x h; exact .v h
  · intros; exact .fl0
  · intro ks n xs b off cap hI hb hk hn hc hp h; exact .fl (g.imm _ hb hI) (Nat.lt_of_lt_of_le hb g.size) hk hn hc hp (h.goes g hb hI)
  · intro ks xs b0 st i e b off hI hb hk he h; exact .fp (g.imm _ hb hI) (Nat.lt_of_lt_of_le hb g.size) hk he (h.goes g hb hI)
  · intros; exact .sl0
  · intro n sz cs vs b off cap hI hb hn hc hp hv h ih; exact .sl (g.imm _ hb hI) (Nat.lt_of_lt_of_le hb g.size) hn hc hp ih (h.goes g hb hI)
  · intro cs i vs b off hI hb hv h ih; exact .sp (g.imm _ hb hI) (Nat.lt_of_lt_of_le hb g.size) ih (h.goes g hb hI)
  · intro k sz off n n' cap a h
    rcases g.own k _ h with e | ⟨l, e, _⟩
    · exact .osx e
    · cases e
  · intro k sz off l a h hl hz
    rcases g.own k _ h with e | ⟨l0, e, e1, e3⟩
    · exact .osx e
    · cases e; exact .os0 e1 hl hz
  · intro k sz off n l cap b h hm hl hc hz hr
    rcases g.own k _ h with e | ⟨l0, e, e1, e3⟩
    · exact .osx e
    · cases e; exact .os e1 (e3.trans hm) hl hc hz (g.room _ _ hr)
  · intro k sz n x h hl ih
    refine .ow ih ?_
    rcases hl with hl | hl
    · rcases g.own k _ hl with e | ⟨l0, e, _⟩
      · exact .inl e
      · cases e
    · rcases g.own k _ hl with e | ⟨l0, e, e1, _⟩
      · exact .inl e
      · cases e; exact .inr e1
  · intro k b st i e a h
    rcases g.own k _ h with e | ⟨l, e, _⟩
    · exact .opx e
    · cases e
  · intro k b st i e l bb h hm hl
    rcases g.own k _ h with e | ⟨l0, e, e1, e3⟩
    · exact .opx e
    · cases e; exact .op e1 (e3.trans hm) hl
  · intro k a h
    rcases g.own k _ h with e | ⟨l, e, _⟩
    · exact .mpx e
    · cases e
  · intro k b h hm
    rcases g.own k _ h with e | ⟨l0, e, e1, e3⟩
    · exact .mpx e
    · cases e; exact .mp e1 (e3.trans hm)
  · intro cs vs h ih; exact .agg ih
  · intro cs vs h ih; exact .tup ih
  · intro t x y h ih; exact .ifc ih
  · intro f a c as cs ha hc iha ihc; exact .fn iha ihc
  · intros; exact .dead
  · exact .nil
  · intro t v ts vs h r ih1 ih2; exact .cons ih1 ih2

theorem TVs.goes0 {w w' : World} {I I' m m' L L'} (g : Goes0 w w' I I' m m' L L') {ts : List T} {vs : List Value} (h : TVs w I m L ts vs) : TVs w' I' m' L' ts vs := by
  induction ts generalizing vs with
  | nil => cases h; exact .nil
  | cons t ts ih => cases h with | cons h r => exact .cons (h.goes0 g) (ih r)
theorem TV.goes {w w' : World} {I I' m m' L L'} (g : Goes w w' I I' m m' L L') {t : T} {v : Value} (h : TV w I m L t v) : TV w' I' m' L' t v := h.goes0 g.toGoes0
theorem TVs.goes {w w' : World} {I I' m m' L L'} (g : Goes w w' I I' m m' L L') {ts : List T} {vs : List Value} (h : TVs w I m L ts vs) : TVs w' I' m' L' ts vs := h.goes0 g.toGoes0

theorem TVs.length {w I m L} {ts : List T} {vs : List Value} (h : TVs w I m L ts vs) : ts.length = vs.length := by
  induction ts generalizing vs with
  | nil => cases h; rfl
  | cons t ts ih => cases h with | cons h r => simp [ih r]
theorem TVs.get {w I m L} {ts : List T} {vs : List Value} (h : TVs w I m L ts vs) {i : Nat} {t : T} (ht : ts[i]? = some t) : ∃ v, vs[i]? = some v ∧ TV w I m L t v := by
  induction ts generalizing vs i with
  | nil => simp at ht
  | cons t0 ts ih =>
    cases h with
    | cons h r =>
      cases i with
      | zero => simp at ht; subst ht; exact ⟨_, rfl, h⟩
      | succ i => simp at ht; obtain ⟨v, h1, h2⟩ := ih r ht; exact ⟨v, by simpa using h1, h2⟩
theorem TVs.get' {w I m L} {ts : List T} {vs : List Value} (h : TVs w I m L ts vs) {i : Nat} {v : Value} (hv : vs[i]? = some v) : ∃ t, ts[i]? = some t ∧ TV w I m L t v := by
  have hl := h.length
  have hi : i < vs.length := (List.getElem?_eq_some_iff.1 hv).1
  obtain ⟨v', h1, h2⟩ := h.get (i := i) (t := ts[i]'(by omega)) (List.getElem?_eq_getElem _)
  rw [hv] at h1; cases h1
  exact ⟨_, List.getElem?_eq_getElem _, h2⟩
theorem TVs.set {w I m L} {ts : List T} {vs : List Value} (h : TVs w I m L ts vs) {i : Nat} {t : T} {v : Value} (hv : TV w I m L t v) : TVs w I m L (ts.set i t) (vs.set i v) := by
  induction ts generalizing vs i with
  | nil => cases h; exact .nil
  | cons t0 ts ih =>
    cases h with
    | cons h r =>
      cases i with
      | zero => exact .cons hv r
      | succ i => exact .cons h (ih r)
theorem TVs.append {w I m L} {ts us : List T} {vs ws : List Value} (h : TVs w I m L ts vs) (h' : TVs w I m L us ws) : TVs w I m L (ts ++ us) (vs ++ ws) := by
  induction ts generalizing vs with
  | nil => cases h; exact h'
  | cons t ts ih => cases h with | cons h r => exact .cons h (ih r)
theorem TVs.take {w I m L} {ts : List T} {vs : List Value} (h : TVs w I m L ts vs) (n : Nat) : TVs w I m L (ts.take n) (vs.take n) := by
  induction ts generalizing vs n with
  | nil => cases h; simp; exact .nil
  | cons t ts ih => cases h with | cons h r => cases n with
    | zero => exact .nil
    | succ n => exact .cons h (ih r n)
theorem TVs.drop {w I m L} {ts : List T} {vs : List Value} (h : TVs w I m L ts vs) (n : Nat) : TVs w I m L (ts.drop n) (vs.drop n) := by
  induction ts generalizing vs n with
  | nil => cases h; simp; exact .nil
  | cons t ts ih => cases h with | cons h r => cases n with
    | zero => exact .cons h r
    | succ n => exact ih r n
theorem TVs.replicate {w I m L} {t : T} {v : Value} (h : TV w I m L t v) (n : Nat) : TVs w I m L (List.replicate n t) (List.replicate n v) := by
  induction n with
  | zero => exact .nil
  | succ n ih => exact .cons h ih
end Go.Proofs.YtnplgklnkcjmnaaGreatDoor.Am
namespace Go.Proofs.YtnplgklnkcjmnaaGreatDoor.Am
set_option linter.unusedVariables false

/-- What an operation leaves: what must hold, its value, what becomes of blocks. -/
structure Out where
  c : Option Prop
  t : T
  up : List (Nat × Blk)

abbrev Mem := Nat → Option Blk
def Mem.alive (g : Mem) (k : Nat) : Bool := match g k with
  | some (.fl _ _) => true
  | some (.cs _) => true
  | _ => false
def upd (g : Mem) : List (Nat × Blk) → Mem
  | [], k => g k
  | (j, b) :: r, k => bif Nat.beq j k then some b else upd g r k

/-- A literal 0 falls away. -/
def addN (n : Nat) (s : Nat) : Nat := bif Nat.beq n 0 then s else n + s
def T.ofV (x : Value) : T := if plain x then .v x else match x with
  | .agg ⟨cs⟩ => if cs.all plain then .agg (cs.map .v) else .dead
  | _ => .dead

def out (t : T) : Option Out := some ⟨none, t, []⟩
def outC (c : Prop) (t : T) : Option Out := some ⟨some c, t, []⟩
def outU (t : T) (up : List (Nat × Blk)) : Option Out := some ⟨none, t, up⟩
def outV (x : Value) : Option Out := some ⟨none, .v x, []⟩

/-- Which of two, by a bool that may not be known. -/
def condT (x : Bool) (a b : T) : T := match a, b with
  | .v (.bool p), .v (.bool q) => .v (.bool (bif x then p else q))
  | .v (.int k p), .v (.int k' q) => if k = k' then .v (.int k (bif x then p else q)) else (bif x then a else b)
  | a, b => bif x then a else b

def someN (n : Nat) : Option Nat := match n with
  | 0 => some 0
  | m + 1 => some (m + 1)
theorem someN_eq (n : Nat) : someN n = some n := by cases n <;> rfl
def sz? (P : Program) (t : TypeId) : Option Nat := match P.info? t with
  | some i => someN i.size
  | none => none
def agg? (P : Program) (t : TypeId) : Option Bool := match P.underlying t with
  | some (.struct _) => some true
  | some (.array _ _) => some true
  | some _ => some false
  | none => none

def ari (op : BinOp) (k : IntKind) (a b : Int) : Option Out := match op with
  | .add => outV (.int k (k.wrap (a + b)))
  | .sub => outV (.int k (k.wrap (a - b)))
  | .mul => outV (.int k (k.wrap (a * b)))
  | .quo => outC (b ≠ 0) (.v (.int k (k.wrap (a.tdiv b))))
  | .rem => outC (b ≠ 0) (.v (.int k (a.tmod b)))
  | .and => outV (.int k (bits .and k a b))
  | .or => outV (.int k (bits .or k a b))
  | .xor => outV (.int k (bits .xor k a b))
  | .andNot => outV (.int k (bits .andNot k a b))
  | .eql => outV (.bool (a == b))
  | .neq => outV (.bool (a != b))
  | .lss => outV (.bool (a < b))
  | .leq => outV (.bool (a ≤ b))
  | .gtr => outV (.bool (a > b))
  | .geq => outV (.bool (a ≥ b))
  | _ => none

/-- Cells that are all whole numbers. -/
def ints? : List T → Option (List IntKind × List Int)
  | [] => some ([], [])
  | .v (.int k x) :: r => match ints? r with
    | some (ks, xs) => some (k :: ks, x :: xs)
    | none => none
  | _ :: _ => none
def partT (P : Program) (t : TypeId) (cs : List T) (off : Nat) : Option T := match agg? P t, sz? P t with
  | some true, some s => some (.agg ((cs.drop off).take s))
  | some false, _ => cs[off]?
  | _, _ => none

/-- Are two parts the same? none: not known. -/
def both : Option Bool → Option Bool → Option Bool
  | some a, some b => some (a && b)
  | _, _ => none
/-- Is a slice, a function, a pointer nil? -/
def nilS : T → Option Bool
  | .v (.slice none 0 0) => some true
  | .fl _ (_ + 1) _ => some false
  | .sl (_ + 1) _ _ => some false
  | _ => none
def nilF : T → Option Bool
  | .v .nilFunc => some true
  | .v (.func _ _ _) => some false
  | .fn _ _ _ => some false
  | _ => none
def nilP : T → Option Bool
  | .v (.pointer none) => some true
  | .fp .. => some false
  | .sp .. => some false
  | _ => none
def zS : T → Bool
  | .v (.slice none 0 0) => true
  | _ => false
def zF : T → Bool
  | .v .nilFunc => true
  | _ => false
def zP : T → Bool
  | .v (.pointer none) => true
  | _ => false
/-- How many a slice has of which it is not known whether it is nil. -/
def nilLen (g : Nat → Bool) : T → Option Nat
  | .fl _ n _ => some n
  | .sl n _ _ => some n
  | .os k _ _ n => match g k with
    | true => some n
    | false => none
  | .ow k _ n => match g k with
    | true => some n
    | false => none
  | _ => none
def nilTwo (z : T → Bool) (f : T → Option Bool) (a b : T) : Option Bool := bif z a then f b else bif z b then f a else none
def eqF (eq : TypeId → T → T → Option Bool) (P : Program) (xs ys : List T) : List Field → Option Bool
  | [] => some true
  | f :: r => if f.name ≠ "_" then match partT P f.type xs f.offset, partT P f.type ys f.offset with
      | some a, some b => both (eq f.type a b) (eqF eq P xs ys r)
      | _, _ => none
    else eqF eq P xs ys r
def eqI (eq : TypeId → T → T → Option Bool) (P : Program) (e : TypeId) (s : Nat) (xs ys : List T) : Nat → Nat → Option Bool
  | 0, _ => some true
  | n + 1, i => match partT P e xs (i * s), partT P e ys (i * s) with
      | some a, some b => both (eq e a b) (eqI eq P e s xs ys n (i + 1))
      | _, _ => none
def hasN : List Nat → Nat → Bool
  | [], _ => false
  | a :: r, k => match Nat.beq a k with
    | true => true
    | false => hasN r k
/-- Are two values the same? none: not known. -/
def eqT (P : Program) (eqs : List Nat) : Nat → TypeId → T → T → Option Bool
  | 0, _, _, _ => none
  | d + 1, t, a, b => match P.underlying t with
    | some (.int _) => match a, b with
      | .v (.int k x), .v (.int k' y) => if k = k' then some (x == y) else none
      | _, _ => none
    | some .bool => match a, b with
      | .v (.bool x), .v (.bool y) => some (x == y)
      | _, _ => none
    | some (.struct fs) => match a, b with
      | .agg xs, .agg ys => bif hasN eqs t then eqF (eqT P eqs d) P xs ys fs.toList else none
      | _, _ => none
    | some (.array n e) => match a, b, sz? P e with
      | .agg xs, .agg ys, some s => eqI (eqT P eqs d) P e s xs ys n 0
      | _, _, _ => none
    | some (.slice _) => nilTwo zS nilS a b
    | some (.func _ _ _) => nilTwo zF nilF a b
    | some (.pointer _) => nilTwo zP nilP a b
    | _ => none
def allL {α : Type} (f : α → Bool) : List α → Bool
  | [] => true
  | a :: r => match f a with
    | true => allL f r
    | false => false
/-- A type that holds no interface. -/
def noGuard (P : Program) : Nat → TypeId → Bool
  | 0, _ => false
  | d + 1, t => match P.underlying t with
    | some (.interface _) => false
    | some (.struct fs) => allL (fun f => noGuard P d f.type) fs.toList
    | some (.array _ e) => noGuard P d e
    | _ => true
def isAggT : T → Bool
  | .agg _ => true
  | _ => false

def binT (P : Program) (eqs : List Nat) (op : BinOp) (t : TypeId) (a b : T) : Option Out := match a, b with
  | .v (.int k x), .v (.int k' y) => match op with
    | .shl => outC (0 ≤ y) (.v (.int k (k.wrap (x * 2 ^ (min y.toNat k.bits)))))
    | .shr => outC (0 ≤ y) (.v (.int k (x.fdiv (2 ^ (min y.toNat k.bits)))))
    | _ => if k = k' then ari op k x y else none
  | .v (.bool x), .v (.bool y) => match P.underlying t, op with
    | some .bool, .eql => outV (.bool (x == y))
    | some .bool, .neq => outV (.bool (!(x == y)))
    | _, _ => none
  | a, b => bif isAggT a && !(noGuard P 12 t && Nat.ble 12 P.depth) then none else match op, eqT P eqs 12 t a b with
    | .eql, some r => outV (.bool r)
    | .neq, some r => outV (.bool (!r))
    | _, _ => none

def unT (op : UnOp) (a : T) : Option Out := match op, a with
  | .not, .v (.bool b) => outV (.bool (!b))
  | .neg, .v (.int k n) => outV (.int k (k.wrap (0 - n)))
  | .xor, .v (.int k n) => outV (.int k (bits .xor k (if k.signed then -1 else k.max) n))
  | _, _ => none

def convT (P : Program) (src dst : TypeId) (a : T) : Option Out := match P.underlying src, P.underlying dst, a with
  | some (.int _), some (.int k), .v (.int _ n) => outV (.int k (k.wrap n))
  | _, _, _ => none

def fieldT (P : Program) (t : TypeId) (x : T) (f : Nat) : Option Out := match P.underlying t, x with
  | some (.struct fs), .agg cs => match fs[f]? with
    | some fd => match partT P fd.type cs fd.offset with
      | some r => out r
      | none => none
    | none => none
  | _, _ => none

/-- The kind of the cell at b + i * st of flat cells. -/
def sameK (k : IntKind) : List IntKind → Bool
  | [] => true
  | x :: r => (x == k) && sameK k r
def kat (ks : List IntKind) (b st i : Nat) : IntKind := match ks with
  | [k] => k
  | k :: r => if Nat.beq st ks.length then kc ks b else bif sameK k r then k else kc ks (b + i * st)
  | _ => kc ks (b + i * st)

def flatCells (ks : List IntKind) (xs : List Int) (b st i : Nat) : Nat → Nat → List T
  | 0, _ => []
  | n + 1, j => .v (.int (kat ks (b + j) st i) (xs.getD (b + i * st + j) 0)) :: flatCells ks xs b st i n (j + 1)

def indexT (P : Program) (t : TypeId) (x i : T) (lit : Bool) : Option Out := match P.underlying t, x, i with
  | some (.array n e), .agg cs, .v (.int _ i) => match sz? P e with
    | none => none
    | some s => bif lit then match partT P e cs (i.toNat * s) with
        | some r => outC (0 ≤ i ∧ i < n) r
        | none => none
      else match agg? P e, ints? cs with
        | some false, some (k :: ks, xs) => if (k :: ks).all (· == k) && Nat.beq s 1 && Nat.ble n xs.length then outC (0 ≤ i ∧ i < n) (.v (.int k (xs.getD i.toNat 0))) else none
        | some true, some (k :: ks, xs) => if (k :: ks).all (· == k) && Nat.ble (n * s) xs.length then outC (0 ≤ i ∧ i < n) (.agg (flatCells [k] xs 0 s i.toNat s 0)) else none
        | _, _ => none
  | _, _, _ => none

def extractT (x : T) (i : Nat) : Option Out := match x with
  | .tup ts => match ts[i]? with
    | some t => out t
    | none => none
  | _ => none

def nilT (g : Mem) (x : T) : Option Out := match x with
  | .fp .. => out x
  | .sp .. => out x
  | .ifc .. => out x
  | .op k _ _ _ _ => if g.alive k then out x else none
  | .v (.func (.func f) a c) => out x
  | .fn (.func f) a c => out x
  | _ => none

/-- The number of a part of a part. -/
def idxN (j q i : Nat) : Nat := match j with
  | 0 => i
  | k + 1 => (k + 1) * q + i
theorem idxN_eq (j q i : Nat) : idxN j q i = j * q + i := by
  unfold idxN; split
  · omega
  · rfl
def indexAddrT (P : Program) (g : Mem) (t : TypeId) (x i : T) (lit : Bool) : Option Out := match P.underlying t, x, i with
  | some (.slice e), .fl ks n xs, .v (.int _ i) => match sz? P e with
    | some s => if Nat.beq s ks.length then outC (0 ≤ i ∧ i < n) (.fp ks xs 0 s i.toNat s) else none
    | none => none
  | some (.slice e), .sl n sz cs, .v (.int _ i) => match sz? P e with
    | some s => if Nat.beq s sz then outC (0 ≤ i ∧ i < n) (.sp cs (i.toNat * s)) else none
    | none => none
  | some (.slice e), .os k sz off n, .v (.int _ i) => match sz? P e with
    | some s => if Nat.beq s sz && g.alive k then outC (0 ≤ i ∧ i < n) (.op k 0 s (addN off i.toNat) s) else none
    | none => none
  | some (.array n e), .fp ks xs b st j w, .v (.int _ i) => match sz? P e with
    | some s => bif lit then (if Nat.ble ((i.toNat + 1) * s) w then outC (0 ≤ i ∧ i < n) (.fp ks xs (b + i.toNat * s) st j s) else none)
      else if Nat.beq (st % s) 0 && Nat.ble (n * s) w then outC (0 ≤ i ∧ i < n) (.fp ks xs b s (idxN j (st / s) i.toNat) s) else none
    | none => none
  | some (.array n e), .sp cs j, .v (.int _ i) => match sz? P e with
    | some s => outC (0 ≤ i ∧ i < n) (.sp cs (j + i.toNat * s))
    | none => none
  | some (.array n e), .op k b st j w, .v (.int _ i) => match sz? P e with
    | some s => if g.alive k then bif lit then (if Nat.ble ((i.toNat + 1) * s) w then outC (0 ≤ i ∧ i < n) (.op k (b + i.toNat * s) st j s) else none)
      else if Nat.beq (st % s) 0 && Nat.ble (n * s) w then outC (0 ≤ i ∧ i < n) (.op k b s (idxN j (st / s) i.toNat) s) else none
      else none
    | none => none
  | _, _, _ => none

def fieldAddrT (P : Program) (g : Mem) (t : TypeId) (x : T) (f : Nat) : Option Out := match P.underlying t with
  | some (.struct fs) => match fs[f]? with
    | some fd => match sz? P fd.type with
      | some (s + 1) => match x with
        | .fp ks xs b st i w => if Nat.ble (fd.offset + (s + 1)) w then out (.fp ks xs (b + fd.offset) st i (s + 1)) else none
        | .sp cs j => out (.sp cs (j + fd.offset))
        | .op k b st i w => if g.alive k && Nat.ble (fd.offset + (s + 1)) w then out (.op k (b + fd.offset) st i (s + 1)) else none
        | _ => none
      | _ => none
    | none => none
  | _ => none

def loadFlat (P : Program) (t : TypeId) (ks : List IntKind) (xs : List Int) (b st i w : Nat) : Option T := match agg? P t, sz? P t with
  | some true, some s => if Nat.ble s w then some (.agg (flatCells ks xs b st i s 0)) else none
  | some false, _ => if Nat.ble 1 w then some (.v (.int (kat ks b st i) (xs.getD (b + i * st) 0))) else none
  | _, _ => none
def loadCellsT (P : Program) (t : TypeId) (cs : List T) (i : Nat) : Option T := match agg? P t, sz? P t with
  | some true, some s => if Nat.ble (i + s) cs.length then some (.agg ((cs.drop i).take s)) else none
  | some false, _ => cs[i]?
  | _, _ => none
def loadT (P : Program) (g : Mem) (t : TypeId) (x : T) : Option T := match x with
  | .fp ks xs b st i w => loadFlat P t ks xs b st i w
  | .sp cs i => loadCellsT P t cs i
  | .op k b st i w => match g k with
    | some (.fl ks xs) => loadFlat P t ks xs b st i w
    | some (.cs cs) => loadCellsT P t cs (b + i * st)
    | _ => none
  | _ => none

/-- A value's cells. -/
def T.cells : T → List T
  | .agg cs => cs
  | t => [t]
/-- May a value stand in one cell? -/
def T.cell : T → Bool
  | .agg _ => false
  | .tup _ => false
  | .dead => false
  | .v (.tuple _) => false
  | .v (.agg _) => false
  | _ => true
/-- A slice that is all of a block, as one that is a part. -/
def T.low : T → T
  | .ow k sz n => .os k sz 0 n
  | t => t
def setFlat (ks : List IntKind) (b st i : Nat) : List T → Nat → List Int → Option (List Int)
  | [], _, xs => some xs
  | .v (.int k x) :: r, j, xs => if k = kat ks (b + j) st i then setFlat ks b st i r (j + 1) (xs.set (b + i * st + j) x) else none
  | _ :: _, _, _ => none
def setCells : List T → Nat → List T → List T
  | [], _, cs => cs
  | t :: r, j, cs => setCells r (j + 1) (cs.set j t)
def storeT (P : Program) (g : Mem) (t : TypeId) (a x : T) : Option Out := match a with
  | .op k b st i w => match sz? P t with
    | some s => if Nat.beq x.cells.length s && Nat.ble s w && x.cells.all T.cell then match g k with
      | some (.fl ks xs) => match setFlat ks b st i x.cells 0 xs with
        | some ys => outU .dead [(k, .fl ks ys)]
        | none => none
      | some (.cs cs) => outU .dead [(k, .cs (setCells x.cells (b + i * st) cs))]
      | _ => none
      else none
    | none => none
  | _ => none

/-- A new block. -/
def perKs (k0 : List IntKind) : Nat → List IntKind → Bool
  | _, [] => true
  | i, k :: r => decide (k = kc k0 i) && perKs k0 (i + 1) r
def blkS (sz : Nat) (cs : List T) : Blk := match ints? cs with
  | some (k :: ks, xs) => if perKs (k :: ks.take (sz - 1)) 0 (k :: ks) then .fl (k :: ks.take (sz - 1)) xs else .cs cs
  | _ => .cs cs
def zeroT (P : Program) (t : TypeId) : Option (List T) := match P.info? t with
  | some i => match i.zero with
    | some z => let cs := z.cells.toList; if cs.all plain then some (cs.map .v) else none
    | none => none
  | none => none
/-- An array's cells may be flat; all others are told one by one. -/
def blkT (P : Program) (e : TypeId) (cs : List T) : Blk := match P.underlying e with
  | some (.array _ el) => match sz? P el with
    | some s => blkS s cs
    | none => .cs cs
  | _ => .cs cs
def allocT (P : Program) (key : Nat) (e : TypeId) : Option Out := match zeroT P e with
  | some cs => outU (.op key 0 cs.length 0 cs.length) [(key, blkT P e cs)]
  | none => none
def boxT (P : Program) (key : Nat) (e : TypeId) (x : T) : Option Out :=
  if x.cells.all T.cell then outU (.op key 0 x.cells.length 0 x.cells.length) [(key, blkT P e x.cells)] else none

def putCells : List T → Nat → List T → List T
  | [], _, cs => cs
  | t :: r, j, cs => putCells r (j + 1) (cs.set j t)
def fillT (place : Nat → Option (Nat × Nat)) : List (Nat × T) → List T → Option (List T)
  | [], cs => some cs
  | (i, x) :: r, cs => match place i with
    | some (off, s) => if Nat.beq x.cells.length s && Nat.ble (off + s) cs.length && x.cells.all T.cell then fillT place r (putCells x.cells off cs) else none
    | none => none
def fieldPlaces (P : Program) : List Field → Option (List (Nat × Nat))
  | [] => some []
  | f :: r => match sz? P f.type, fieldPlaces P r with
    | some s, some l => some ((f.offset, s) :: l)
    | _, _ => none
def buildT (P : Program) (t : TypeId) (parts : List (Nat × T)) : Option Out := match zeroT P t with
  | none => none
  | some zs => match P.underlying t with
    | some (.struct fs) => match fieldPlaces P fs.toList with
      | some pl => match fillT (fun i => pl[i]?) parts zs with
        | some cs => out (.agg cs)
        | none => none
      | none => none
    | some (.array _ e) => match sz? P e with
      | some s => match fillT (fun i => some (i * s, s)) parts zs with
        | some cs => out (.agg cs)
        | none => none
      | none => none
    | _ => none
def rep : Nat → List T → List T
  | 0, _ => []
  | n + 1, l => l ++ rep n l
def buildSliceT (P : Program) (key : Nat) (t : TypeId) (len : Nat) (parts : List (Nat × T)) : Option Out := match P.underlying t with
  | some (.slice e) => match sz? P e, zeroT P e with
    | some (s + 1), some zs => if Nat.beq zs.length (s + 1) && Nat.ble (len * (s + 1)) 1000000 then
      match fillT (fun i => some (i * (s + 1), s + 1)) parts (rep len zs) with
      | some cs => outU (.ow key (s + 1) len) [(key, blkS (s + 1) cs)]
      | none => none
      else none
    | _, _ => none
  | _ => none

def outUC (c : Prop) (t : T) (up : List (Nat × Blk)) : Option Out := some ⟨some c, t, up⟩
def lenT (P : Program) (g : Mem) (t : TypeId) (x : T) : Option Out := match P.underlying t, x with
  | some (.slice _), .fl _ n _ => outV (.int .i64 n)
  | some (.slice _), .sl n _ _ => outV (.int .i64 n)
  | some (.slice _), .os k _ _ n => if g.alive k then outV (.int .i64 n) else none
  | some (.slice _), .v (.slice none 0 0) => outV (.int .i64 0)
  | some (.array n _), _ => outV (.int .i64 n)
  | some (.map _ _), .mp k => match g k with
    | some (.mp _ _ es) => outV (.int .i64 es.length)
    | _ => none
  | some (.map _ _), .v (.map none) => outV (.int .i64 0)
  | _, _ => none
/-- A literal 1 falls away. -/
def mulN (n : Nat) (s : Nat) : Nat := bif Nat.beq s 1 then n else n * s
/-- Where a part begins, and how many it has. -/
def loN (l : Option Int) : Nat := match l with | some l => l.toNat | none => 0
def hiN (n : Nat) (h : Option Int) : Nat := match h with | some h => h.toNat | none => n
def cutN {α : Type} (s : Nat) (lo hi : Option Int) (xs : List α) : List α := match lo, hi with
  | none, none => xs
  | some l, none => xs.drop (mulN l.toNat s)
  | none, some h => xs.take (mulN h.toNat s)
  | some l, some h => (xs.take (mulN h.toNat s)).drop (mulN l.toNat s)
def cutL (n : Nat) (lo hi : Option Int) : Nat := match lo, hi with
  | none, none => n
  | some l, none => n - l.toNat
  | none, some h => h.toNat
  | some l, some h => h.toNat - l.toNat
def cutC (n : Nat) (lo hi : Option Int) : Option Prop := match lo, hi with
  | none, none => none
  | some l, none => some (0 ≤ l ∧ l ≤ n)
  | none, some h => some (0 ≤ h ∧ h ≤ n)
  | some l, some h => some (0 ≤ l ∧ l ≤ h ∧ h ≤ n)
def intO : Option T → Option (Option Int)
  | none => some none
  | some (.v (.int _ x)) => some (some x)
  | _ => none
def sliceT (P : Program) (g : Mem) (t : TypeId) (x : T) (lo hi : Option T) : Option Out := match intO lo, intO hi with
  | some lo, some hi => match P.underlying t with
    | some (.slice e) => match sz? P e with
      | some (s + 1) => match x with
        | .fl ks n xs => if Nat.beq ks.length (s + 1) then some ⟨cutC n lo hi, .fl ks (cutL n lo hi) (cutN (s + 1) lo hi xs), []⟩ else none
        | .sl n sz cs => if Nat.beq sz (s + 1) then some ⟨cutC n lo hi, .sl (cutL n lo hi) sz (cutN (s + 1) lo hi cs), []⟩ else none
        | .os k sz off n => if g.alive k && Nat.beq sz (s + 1) then some ⟨cutC n lo hi, .os k sz (addN off (loN lo)) (cutL n lo hi), []⟩ else none
        | .v (.slice none 0 0) => some ⟨cutC 0 lo hi, .v (.slice none 0 0), []⟩
        | _ => none
      | _ => none
    | some (.array n e) => match sz? P e with
      | some (s + 1) => match x with
        | .op k b st i w => if g.alive k && Nat.beq b 0 && Nat.beq i 0 && Nat.ble (n * (s + 1)) w && Nat.ble n 1099511627776 then some ⟨cutC n lo hi, .os k (s + 1) (loN lo) (cutL n lo hi), []⟩ else none
        | _ => none
      | _ => none
    | _ => none
  | _, _ => none

/-- How many elements a slice has, and its cells. -/
def contT (g : Mem) (sz : Nat) (x : T) : Option (Nat × Blk) := match x with
  | .v (.slice none 0 0) => some (0, .cs [])
  | .fl ks n xs => if Nat.beq ks.length sz then some (n, .fl ks xs) else none
  | .sl n s cs => if Nat.beq s sz then some (n, .cs cs) else none
  | .ow k s n => if Nat.beq s sz then match g k with
    | some (.fl ks xs) => if Nat.beq ks.length sz then some (n, .fl ks xs) else none
    | some (.cs cs) => some (n, .cs cs)
    | _ => none else none
  | .os k s off n => if Nat.beq s sz then match g k with
    | some (.fl ks xs) => if Nat.beq ks.length sz then some (n, .fl ks ((xs.drop (mulN off sz)).take (mulN n sz))) else none
    | some (.cs cs) => some (n, .cs ((cs.drop (mulN off sz)).take (mulN n sz)))
    | _ => none else none
  | _ => none
def joinB : Blk → Blk → Option Blk
  | .cs [], b => some b
  | b, .cs [] => some b
  | .fl ks xs, .fl ks' ys => if ks = ks' then some (.fl ks (xs ++ ys)) else none
  | .cs a, .cs b => some (.cs (a ++ b))
  | _, _ => none
def bytes? (P : Program) (t : TypeId) : Option Nat := match P.info? t with
  | some i => some i.bytes
  | none => none
def cellB : Blk → Bool
  | .fl _ _ => true
  | .cs cs => cs.all T.cell
  | _ => false
def appendT (P : Program) (g : Mem) (key : Nat) (t t2 : TypeId) (s x : T) : Option Out := match P.underlying t, P.underlying t2 with
  | some (.slice e), some (.slice _) => match sz? P e, zeroT P e, bytes? P e with
    | some (sz + 1), some zs, some by_ => if Nat.beq zs.length (sz + 1) && Nat.ble by_ 64 && Nat.ble 1 by_ then match contT g (sz + 1) x with
      | some (n2, B2) => if cellB B2 then match s with
        | .v (.slice none 0 0) => outUC (n2 * by_ ≤ 140737488355328) (.ow key (sz + 1) n2) [(key, B2)]
        | .ow k s1 n => if Nat.beq s1 (sz + 1) then match contT g (sz + 1) (.ow k s1 n) with
          | some (_, B1) => match joinB B1 B2 with
            | some B => outUC (n + n2 ≤ 1099511627776) (.ow key (sz + 1) (n + n2)) [(key, B), (k, .gone)]
            | none => none
          | none => none else none
        | .os k s1 0 n => if Nat.beq s1 (sz + 1) then match contT g (sz + 1) (.os k s1 0 n) with
          | some (_, B1) => match joinB B1 B2 with
            | some B => outUC (n + n2 ≤ 1099511627776) (.ow key (sz + 1) (n + n2)) [(key, B), (k, .gone)]
            | none => none
          | none => none else none
        | _ => none
        else none
      | none => none
      else none
    | _, _, _ => none
  | _, _ => none
/-- A row laid over another one from place o on. -/
def spl (xs : List Int) (o : Nat) (ys : List Int) : List Int := xs.take o ++ (ys ++ xs.drop (o + ys.length))
/-- A slice of the machine's own: its block, the size of its elements, where it begins, how many it has. -/
def osOf : T → Option (Nat × Nat × Nat × Nat)
  | .ow k s n => some (k, s, 0, n)
  | .os k s off n => some (k, s, off, n)
  | _ => none
def minN : Nat → Nat → Nat := fun a b => if a ≤ b then a else b
def copyT (P : Program) (g : Mem) (t : TypeId) (s x : T) : Option Out := match P.underlying t with
  | some (.slice e) => match sz? P e with
    | some (sz + 1) => match contT g (sz + 1) x, osOf s with
      | some (n2, .fl ks ys), some (k, s1, off, n) => match g k with
        | some (.fl ks1 xs) => if ks1 = ks && Nat.beq s1 (sz + 1) && Nat.beq ks.length (sz + 1) then some ⟨none, .v (.int .i64 (minN n2 n)), [(k, .fl ks1 (spl xs (mulN off (sz + 1)) (ys.take (mulN (minN n2 n) (sz + 1)))))]⟩ else none
        | _ => none
      | _, _ => none
    | _ => none
  | _ => none
def makeSliceT (P : Program) (key : Nat) (t : TypeId) (l c : T) : Option Out := match P.underlying t, l, c with
  | some (.slice e), .v (.int _ l), .v (.int _ c) => match sz? P e, zeroT P e, bytes? P e with
    | some (sz + 1), some zs, some by_ => if Nat.beq zs.length (sz + 1) && Nat.ble by_ 64 then match ints? zs with
      | some (k :: ks, xs) => if xs.all (· == 0) then outUC (0 ≤ l ∧ l ≤ c ∧ c ≤ 1099511627776) (.ow key (sz + 1) l.toNat) [(key, .fl (k :: ks) (List.replicate (mulN l.toNat (sz + 1)) 0))] else none
      | _ => outUC (0 ≤ l ∧ l ≤ c ∧ c ≤ 1099511627776) (.ow key (sz + 1) l.toNat) [(key, .cs (rep l.toNat zs))]
      else none
    | _, _, _ => none
  | _, _, _ => none
def isZ : T → Bool
  | .v (.int _ x) => x == 0
  | _ => false
def isZO : Option T → Bool
  | none => true
  | some t => isZ t
def isSl : T → Bool
  | .fl .. => true
  | .sl .. => true
  | .os .. => true
  | .ow .. => true
  | .v (.slice none 0 0) => true
  | _ => false
/-- x[:0:0] -/
def clipT (P : Program) (key : Nat) (t : TypeId) (x : T) (lo : Option T) (hi : Option T) (mx : T) : Option Out := match P.underlying t, hi with
  | some (.slice e), some hi => match sz? P e with
    | some (s + 1) => if isSl x && isZO lo && isZ hi && isZ mx then outU (.ow key (s + 1) 0) [(key, .cs [])] else none
    | _ => none
  | _, _ => none
def minT (x y : T) : Option Out := match x, y with
  | .v (.int k a), .v (.int k' b) => if k = k' then outV (.int k (if b < a then b else a)) else none
  | _, _ => none
def maxT (x y : T) : Option Out := match x, y with
  | .v (.int k a), .v (.int k' b) => if k = k' then outV (.int k (if b > a then b else a)) else none
  | _, _ => none

/-! ### maps of whole numbers, to whole numbers or to nothing -/
/-- A function, as a number: 0 is nil. -/
def fnV : Nat → Value
  | 0 => .nilFunc
  | f + 1 => .func (.func f) ⟨[]⟩ ⟨[]⟩
def mval : MK → Int → Value
  | .some q, v => .int q v
  | .none, _ => .agg ⟨[]⟩
  | .fn, v => fnV v.toNat
def mputL : List (Int × Int) → Int → Int → List (Int × Int)
  | [], k, v => [(k, v)]
  | (a, b) :: r, k, v => if k = a then (a, v) :: r else (a, b) :: mputL r k v
def mgetL : List (Int × Int) → Int → Option Int
  | [], _ => none
  | (a, b) :: r, k => if k = a then some b else mgetL r k
/-- Of which kinds a map's keys and values are. -/
def mpKind (P : Program) (k e : TypeId) : Option (IntKind × MK) := match P.underlying k, P.underlying e with
  | some (.int kk), some (.int q) => some (kk, .some q)
  | some (.int kk), some (.struct ⟨[]⟩) => some (kk, .none)
  | some (.int kk), some (.func _ _ _) => some (kk, .fn)
  | _, _ => none
def makeMapT (P : Program) (key : Nat) (t : TypeId) (r : Option T) : Option Out := match P.underlying t, r with
  | some (.map k e), none => match mpKind P k e with
    | some (kk, vk) => outU (.mp key) [(key, .mp kk vk [])]
    | none => none
  | _, _ => none
/-- A map's value, as a number. -/
def mvOf : MK → T → Option Int
  | .some q, .v (.int q' b) => if q' = q then some b else none
  | .none, .agg [] => some 0
  | .none, .v (.agg ⟨[]⟩) => some 0
  | .fn, .v (.func (.func f) ⟨[]⟩ ⟨[]⟩) => some ((f + 1 : Nat) : Int)
  | .fn, .fn (.func f) [] [] => some ((f + 1 : Nat) : Int)
  | _, _ => none
def mapUpdT (P : Program) (g : Mem) (t : TypeId) (m x v : T) : Option Out := match P.underlying t, m, x with
  | some (.map kt e), .mp k, .v (.int kq a) => match mpKind P kt e, g k with
    | some (kk, vk), some (.mp kk' vk' es) => if kk = kk' ∧ vk = vk' ∧ kq = kk then match mvOf vk v with
      | some b => outU .dead [(k, .mp kk vk (mputL es a b))]
      | none => none
      else none
    | _, _ => none
  | _, _, _ => none
def mvT : MK → Int → T
  | .some q, v => .v (.int q v)
  | .none, _ => .agg []
  | .fn, v => .v (fnV v.toNat)
def zMv (P : Program) (e : TypeId) (vk : MK) : Bool := match P.info? e with
  | some i => match i.zero, vk with
    | some (.int q' z), .some q => decide (q' = q) && z == 0
    | some (.agg ⟨[]⟩), .none => true
    | some .nilFunc, .fn => true
    | _, _ => false
  | none => false
def lookT (P : Program) (g : Mem) (t : TypeId) (m x : T) (ok : Bool) : Option Out := match P.underlying t, m, x with
  | some (.map kt e), .mp k, .v (.int kq a) => match mpKind P kt e, g k with
    | some (kk, vk), some (.mp kk' vk' es) => if kk = kk' ∧ vk = vk' ∧ kq = kk ∧ zMv P e vk = true then
        out (bif ok then .tup [mvT vk ((mgetL es a).getD 0), .v (.bool (mgetL es a).isSome)] else mvT vk ((mgetL es a).getD 0))
      else none
    | _, _ => none
  | _, _, _ => none
end Go.Proofs.YtnplgklnkcjmnaaGreatDoor.Am
namespace Go.Proofs.YtnplgklnkcjmnaaGreatDoor.Am
set_option linter.unusedVariables false
open Go.RowKit

def NoFrz (w : World) (b : Nat) : Prop := ∀ o, w.frozen? ⟨b, o, none⟩ = false
/-- What a walk is told from outside: which old blocks it may turn, the frames that wait, and below what their marks lie. -/
structure Env where
  p : Nat → Prop
  gh : Nat → Act
  b0 : Nat
  lo : Nat
  hi : ∀ id d D, d ∈ (gh id).defers → d.target = .collected D → D < lo
/-- The deferred calls of a frame: marks of loops over functions, no two alike, none of them with a call. -/
def Mk (w : World) : List Deferred → Prop
  | [] => True
  | d :: ds => (∃ D, d = { target := .collected D, args := #[] } ∧ w.heap[D]? = some (.deferred (some [])) ∧ ∀ e ∈ ds, e ≠ d) ∧ Mk w ds
/-- What is known of a frame. -/
def FV (w : World) (I : Nat → Prop) (m : Nat → Option Nat) (L : Nat → Option (Option Nat)) (ts : Sl) (a : Act) : Prop := (∀ i, TV w I m L (tget ts i) (a.tmps.getD i undef)) ∧ Mk w a.defers
/-- What is known of the frames that wait. -/
def GV (O : Env) (w : World) (I : Nat → Prop) (m : Nat → Option Nat) (L : Nat → Option (Option Nat)) : Blk → Prop
  | .gh id ts => FV w I m L ts (O.gh id)
  | .lp id l st pe n ts ps asg body => FV w I m L ts (O.gh id) ∧ ((O.gh id).tmps.size = n ∧ O.b0 ≤ l) ∧ ∃ fn D, w.heap[l]? = some (.loop { state := st, pending := pe, fn := fn, tmps := (O.gh id).tmps, params := ps, assign := asg, body := body, defers := D })
  | _ => True
/-- A block reads as one of the machine's own. -/
def BVb (O : Env) (w : World) (I : Nat → Prop) (m : Nat → Option Nat) (L : Nat → Option (Option Nat)) (k : Blk) (b : Nat) : Prop := match k with
  | .fl ks xs => ks ≠ [] ∧ Room w b xs.length ∧ NoFrz w b ∧ FlatAt w b 0 ks xs
  | .cs cs => ∃ vs, TVs w I m L cs vs ∧ Room w b vs.length ∧ NoFrz w b ∧ CellsAt w b 0 vs
  | .mp kk vk es => ∃ ms c, w.heap[b]? = some (.map ms c) ∧ ((ms.toList.map (fun e => (e.key, e.val)) = es.map fun p => (Value.int kk p.1, mval vk p.2)) ∧ MapKept.Stamped ms c)
  | k => GV O w I m L k
/-- One that is empty need not be there yet. -/
def BV (O : Env) (w : World) (I : Nat → Prop) (m : Nat → Option Nat) (L : Nat → Option (Option Nat)) (k : Blk) : Option Nat → Prop
  | some b => BVb O w I m L k b
  | none => match k with
    | .fl ks xs => ks ≠ [] ∧ xs = []
    | .cs cs => cs = []
    | k => GV O w I m L k
theorem Mk.goes {w w' : World} (ho : ∀ (b : Nat) (o : Obj), w.heap[b]? = some o → isOdd o = true → w'.heap[b]? = some o) {ds : List Deferred} (h : Mk w ds) : Mk w' ds := by
  induction ds with
  | nil => trivial
  | cons d ds ih => obtain ⟨⟨D, h1, h3, h4⟩, h5⟩ := h; exact ⟨⟨D, h1, ho _ _ h3 rfl, h4⟩, ih h5⟩
theorem FV.goes {w w' : World} {I I' m m' L L'} (g : Goes w w' I I' m m' L L') {ts : Sl} {a : Act} (h : FV w I m L ts a) : FV w' I' m' L' ts a := ⟨fun i => (h.1 i).goes g, h.2.goes g.odd⟩
theorem GV.goes {O : Env} {w w' : World} {I I' m m' L L'} (g : Goes w w' I I' m m' L L') {b : Blk} (h : GV O w I m L b) : GV O w' I' m' L' b := by
  cases b with
  | gh id ts => exact FV.goes g h
  | lp id l st pe n ts ps asg body => obtain ⟨h1, h3, fn, D, h2⟩ := h; exact ⟨FV.goes g h1, h3, fn, D, g.odd _ _ h2 rfl⟩
  | fl ks xs => trivial
  | cs cs => trivial
  | gone => trivial
  | mp kk vk es => trivial
/-- Which blocks may be read as ones that stay. -/
def Im (m : Nat → Option Nat) (g : Mem) (b : Nat) : Prop := ¬ Own m (lens g) b

/-- What was there when the call began is as it was, but for O. -/
structure Fr (O : Env) (w w' : World) : Prop where
  os : w'.os = w.os
  tape : w'.tape = w.tape
  output : w'.output = w.output
  size : w.heap.size ≤ w'.heap.size
  block : ∀ b, b < w.heap.size → ¬ O.p b → w'.heap[b]? = w.heap[b]?
theorem Fr.refl (O : Env) (w : World) : Fr O w w := ⟨rfl, rfl, rfl, Nat.le_refl _, fun _ _ _ => rfl⟩
theorem Fr.trans {O : Env} {a b c : World} (h : Fr O a b) (k : Fr O b c) : Fr O a c :=
  ⟨k.os.trans h.os, k.tape.trans h.tape, k.output.trans h.output, Nat.le_trans h.size k.size, fun i hi ho => (k.block i (Nat.lt_of_lt_of_le hi h.size) ho).trans (h.block i hi ho)⟩
theorem Fr.of_below {O : Env} {w w' : World} (h : Below w.heap.size w w') : Fr O w w' := ⟨h.os, h.tape, h.output, h.size, fun b hb _ => h.block b hb⟩
theorem Fr.below {O : Env} {w w' : World} (h : Fr O w w') (ho : ∀ b, ¬ O.p b) : Below w.heap.size w w' := ⟨h.os, h.tape, h.output, h.size, fun b hb => h.block b hb (ho b)⟩

structure HR (w0 w : World) (O : Env) (m : Nat → Option Nat) (g : Mem) : Prop where
  fr : Fr O w0 w
  lo : w0.heap.size ≤ O.b0 ∧ O.b0 ≤ O.lo ∧ O.lo ≤ w.heap.size
  blk : ∀ k b, g k = some b → BV O w (Im m g) m (lens g) b (m k)
  inj : ∀ k k' l l' n, lens g k = some (some l) → lens g k' = some (some l') → m k = some n → m k' = some n → k = k'
  new : ∀ k l n, lens g k = some (some l) → m k = some n → w0.heap.size ≤ n ∨ O.p n

theorem lens_some {g : Mem} {k : Nat} {l : Nat} (h : lens g k = some (some l)) : ∃ b, g k = some b ∧ b.len? = some l := by
  unfold lens at h
  cases e : g k with
  | none => rw [e] at h; cases h
  | some b => rw [e] at h; exact ⟨b, rfl, by simpa using h⟩
theorem lens_of {g : Mem} {k : Nat} {b : Blk} (h : g k = some b) : lens g k = some b.len? := by unfold lens; rw [h]

theorem Room.lt {w : World} {b n : Nat} (h : Room w b n) : b < w.heap.size := by
  obtain ⟨o, h, _⟩ := h
  exact (Array.getElem?_eq_some_iff.1 h).1
theorem Room.cells {w : World} {b n : Nat} (h : Room w b n) (hn : 0 < n) : ∃ c e fz, w.heap[b]? = some (.cells c e fz) ∧ n ≤ c.size := by
  obtain ⟨o, h, h2⟩ := h
  cases o <;> first | exact ⟨_, _, _, h, h2⟩ | (simp only [roomO] at h2; omega) | exact h2.elim
theorem Room.not_odd {w : World} {b n : Nat} (h : Room w b n) {o : Obj} (ho : w.heap[b]? = some o) : isOdd o = false := by
  obtain ⟨o', h, h2⟩ := h
  rw [ho] at h; cases h
  cases o <;> first | rfl | exact h2.elim
theorem Room.mono {w : World} {b n n' : Nat} (h : Room w b n) (hn : n' ≤ n) : Room w b n' := by
  obtain ⟨o, h, h2⟩ := h
  refine ⟨o, h, ?_⟩
  cases o <;> first | exact Nat.le_trans hn h2 | (simp only [roomO] at h2 ⊢; omega) | exact h2.elim
theorem Room.of_cells {w : World} {b n : Nat} {c : Array Value} {e : TypeId} {fz : Nat × Nat} (h : w.heap[b]? = some (.cells c e fz)) (hn : n ≤ c.size) : Room w b n := ⟨_, h, hn⟩
theorem BVb.room {O w I m L} {b : Blk} {n l : Nat} (h : BVb O w I m L b n) (hl : b.len? = some l) : Room w n l := by
  cases b with
  | fl ks xs => cases hl; exact h.2.1
  | cs cs => obtain ⟨vs, hv, hr, _⟩ := h; cases hl; rw [hv.length]; exact hr
  | mp kk vk es => obtain ⟨ms, c, hm, _⟩ := h; cases hl; exact ⟨_, hm, rfl⟩
  | gone => cases hl
  | gh id ts => cases hl
  | lp id l st pe n ts ps asg body => cases hl
theorem HR.lt {w0 w O m g} (h : HR w0 w O m g) {k l n : Nat} (hk : lens g k = some (some l)) (hm : m k = some n) : n < w.heap.size := by
  obtain ⟨b, hb, hl⟩ := lens_some hk
  have := h.blk k b hb
  rw [hm] at this
  exact (BVb.room this hl).lt

/-- One block reads as it did. -/
structure SameB (w w' : World) (b : Nat) : Prop where
  cell : ∀ o, w'.cell? ⟨b, o, none⟩ = w.cell? ⟨b, o, none⟩
  frz : ∀ o, w'.frozen? ⟨b, o, none⟩ = w.frozen? ⟨b, o, none⟩
  room : ∀ n, Room w b n → Room w' b n
  same : w'.heap[b]? = w.heap[b]?
theorem SameB.of_block {w w' : World} {b : Nat} (h : w'.heap[b]? = w.heap[b]?) : SameB w w' b :=
  ⟨fun o => World.cell?_of_block (w := w) h, fun o => World.frozen?_of_block (w := w) h, fun n ⟨o, hc, hn⟩ => ⟨o, h.trans hc, hn⟩, h⟩

theorem BVb.goes {O w w' I I' m m' L L'} (g : Goes w w' I I' m m' L L') {b : Blk} {n : Nat} (s : SameB w w' n) (h : BVb O w I m L b n) : BVb O w' I' m' L' b n := by
  cases b with
  | fl ks xs => exact ⟨h.1, s.room _ h.2.1, fun o => (s.frz o).trans (h.2.2.1 o), fun i x hx => (s.cell _).trans (h.2.2.2 i x hx)⟩
  | cs cs => obtain ⟨vs, hv, hr, hf, hc⟩ := h; exact ⟨vs, hv.goes g, s.room _ hr, fun o => (s.frz o).trans (hf o), fun i x hx => (s.cell _).trans (hc i x hx)⟩
  | mp kk vk es => obtain ⟨ms, c, h1, h2⟩ := h; exact ⟨ms, c, s.same.trans h1, h2⟩
  | gone => trivial
  | gh id ts => exact GV.goes g (b := .gh id ts) h
  | lp id l st pe n ts ps asg body => exact GV.goes g (b := .lp id l st pe n ts ps asg body) h
theorem BV.goes {O w w' I I' m m' L L'} (g : Goes w w' I I' m m' L L') {b : Blk} {n : Option Nat} (s : ∀ q, n = some q → SameB w w' q) (h : BV O w I m L b n) : BV O w' I' m' L' b n := by
  cases n with
  | none => cases b with
    | fl ks xs => exact h
    | cs cs => exact h
    | mp kk vk es => trivial
    | gone => trivial
    | gh id ts => exact GV.goes g (b := .gh id ts) h
    | lp id l st pe n ts ps asg body => exact GV.goes g (b := .lp id l st pe n ts ps asg body) h
  | some q => exact BVb.goes g (s q rfl) h

/-- What turns memory, in general. -/
theorem HR.change {w0 w w' O m m' g g'} (h : HR w0 w O m g) (fr' : Fr O w0 w') (G : Goes w w' (Im m g) (Im m' g') m m' (lens g) (lens g'))
    (hb : ∀ k b, g' k = some b → (g k = some b ∧ (∀ l, b.len? = some l → m' k = m k ∧ ∀ n, m k = some n → SameB w w' n)) ∨ BV O w' (Im m' g') m' (lens g') b (m' k))
    (inj' : ∀ k k' l l' n, lens g' k = some (some l) → lens g' k' = some (some l') → m' k = some n → m' k' = some n → k = k')
    (new' : ∀ k l n, lens g' k = some (some l) → m' k = some n → w0.heap.size ≤ n ∨ O.p n) : HR w0 w' O m' g' := by
  refine ⟨fr', ⟨h.lo.1, h.lo.2.1, Nat.le_trans h.lo.2.2 G.size⟩, fun k b hk => ?_, inj', new'⟩
  rcases hb k b hk with ⟨h1, h2⟩ | h1
  · cases hl : b.len? with
    | none =>
      have hv := h.blk k b h1
      have hgv : GV O w (Im m g) m (lens g) b := by
        cases b <;> first | (cases hl; done) | (cases e : m k <;> (rw [e] at hv; exact hv))
      have hgv' := GV.goes G hgv
      cases b <;> first | (cases hl; done) | (cases m' k <;> exact hgv')
    | some l =>
      obtain ⟨e, s⟩ := h2 l hl
      rw [e]
      exact (h.blk k b h1).goes G s
  · exact h1

theorem Goes.of_below {w w' : World} (h : Below w.heap.size w w') {m g} {w0 O} (hr : HR w0 w O m g) : Goes w w' (Im m g) (Im m g) m m (lens g) (lens g) :=
  ⟨⟨fun _ _ hI => hI, h.size, fun b o hb _ => h.cell (p := ⟨b, o, none⟩) hb, fun k s hs => by
    cases s with
    | none => exact .inl hs
    | some l => exact .inr ⟨l, rfl, hs, rfl⟩, fun b n hr' => (SameB.of_block (h.block _ hr'.lt)).room _ hr'⟩, fun b o ho _ => (h.block b (Array.getElem?_eq_some_iff.1 ho).1).trans ho⟩
theorem HR.below {w0 w w' O m g} (h : HR w0 w O m g) (hb : Below w.heap.size w w') : HR w0 w' O m g :=
  h.change (h.fr.trans (Fr.of_below hb)) (Goes.of_below hb h) (fun k b hk => .inl ⟨hk, fun l hl => ⟨rfl, fun n hn => SameB.of_block (hb.block _ (h.lt (by rw [lens_of hk, hl]) hn))⟩⟩) h.inj h.new

theorem upd_one (g : Mem) (k : Nat) (b : Blk) (j : Nat) : upd g [(k, b)] j = if k = j then some b else g j := by
  simp only [upd]
  cases e : Nat.beq k j
  · have : ¬ k = j := fun h => by subst h; rw [Nat.beq_refl] at e; cases e
    rw [if_neg this]; rfl
  · have : k = j := Nat.eq_of_beq_eq_true e
    rw [if_pos this]; rfl
theorem lens_upd (g : Mem) (k : Nat) (b : Blk) (j : Nat) : lens (upd g [(k, b)]) j = if k = j then some b.len? else lens g j := by
  unfold lens
  rw [upd_one]
  by_cases e : k = j
  · rw [if_pos e, if_pos e]
  · rw [if_neg e, if_neg e]

/-- A new block (none: an empty one that is not there yet). -/
def mk1 (m : Nat → Option Nat) (k : Nat) (n : Option Nat) (j : Nat) : Option Nat := if k = j then n else m j
theorem Goes.new {w0 w w' O m g} (h : HR w0 w O m g) (hb : Below w.heap.size w w') {k : Nat} {n : Option Nat} {b : Blk} (hk : g k = none) (hn : ∀ q, n = some q → w.heap.size ≤ q) :
    Goes w w' (Im m g) (Im (mk1 m k n) (upd g [(k, b)])) m (mk1 m k n) (lens g) (lens (upd g [(k, b)])) := by
  have hno : ∀ j s, lens g j = some s → k ≠ j := fun j s hs e => by subst e; unfold lens at hs; rw [hk] at hs; cases hs
  refine ⟨⟨fun c hc hI ho => ?_, hb.size, fun c o hc _ => hb.cell (p := ⟨c, o, none⟩) hc, fun j s hs => ?_, fun b n' hr => (SameB.of_block (hb.block _ hr.lt)).room _ hr⟩, fun b o ho _ => (hb.block b (Array.getElem?_eq_some_iff.1 ho).1).trans ho⟩
  · obtain ⟨j, l, hj, e⟩ := ho
    rw [lens_upd] at hj
    unfold mk1 at e
    by_cases hkj : k = j
    · rw [if_pos hkj] at e; have := hn _ e; omega
    · rw [if_neg hkj] at e hj; exact hI ⟨j, l, hj, e⟩
  · have hne := hno j s hs
    rw [lens_upd, if_neg hne]
    cases s with
    | none => exact .inl hs
    | some l => exact .inr ⟨l, rfl, hs, if_neg hne⟩
theorem HR.newB {w0 w w' O m g} (h : HR w0 w O m g) (hb : Below w.heap.size w w') {k : Nat} {n : Option Nat} {b : Blk} (hk : g k = none) (hn : ∀ q, n = some q → w.heap.size ≤ q)
    (hv : BV O w' (Im (mk1 m k n) (upd g [(k, b)])) (mk1 m k n) (lens (upd g [(k, b)])) b n) : HR w0 w' O (mk1 m k n) (upd g [(k, b)]) := by
  refine h.change (h.fr.trans (Fr.of_below hb)) (Goes.new h hb hk hn) (fun j c hj => ?_) (fun j j' l l' q hj hj' e e' => ?_) (fun j l q hj hq => ?_)
  · rw [upd_one] at hj
    by_cases hkj : k = j
    · subst hkj; rw [if_pos rfl] at hj; cases hj; right; unfold mk1 at *; rw [if_pos rfl]; exact hv
    · rw [if_neg hkj] at hj
      left; exact ⟨hj, fun l hl => ⟨if_neg hkj, fun n hn => SameB.of_block (hb.block _ (h.lt (by rw [lens_of hj, hl]) hn))⟩⟩
  · rw [lens_upd] at hj hj'
    unfold mk1 at e e'
    by_cases h1 : k = j <;> by_cases h2 : k = j'
    · omega
    · rw [if_pos h1] at e; rw [if_neg h2] at e' hj'; have := h.lt hj' e'; have := hn _ e; omega
    · rw [if_pos h2] at e'; rw [if_neg h1] at e hj; have := h.lt hj e; have := hn _ e'; omega
    · rw [if_neg h1] at e hj; rw [if_neg h2] at e' hj'; exact h.inj _ _ _ _ _ hj hj' e e'
  · rw [lens_upd] at hj
    unfold mk1 at hq
    by_cases h1 : k = j
    · rw [if_pos h1] at hq; left; have := h.fr.size; have := hn _ hq; omega
    · rw [if_neg h1] at hj hq; exact h.new _ _ _ hj hq

/-- One of the machine's own blocks is written. -/
structure OnlyB (w w' : World) (n : Nat) : Prop where
  os : w'.os = w.os
  tape : w'.tape = w.tape
  output : w'.output = w.output
  size : w'.heap.size = w.heap.size
  block : ∀ b, b ≠ n → w'.heap[b]? = w.heap[b]?
  room : ∀ l, Room w n l → Room w' n l
theorem OnlyB.refl (w : World) (n : Nat) : OnlyB w w n := ⟨rfl, rfl, rfl, rfl, fun _ _ => rfl, fun _ h => h⟩
theorem OnlyB.trans {a b c : World} {n : Nat} (h : OnlyB a b n) (k : OnlyB b c n) : OnlyB a c n :=
  ⟨k.os.trans h.os, k.tape.trans h.tape, k.output.trans h.output, k.size.trans h.size, fun i hi => (k.block i hi).trans (h.block i hi), fun l hl => k.room l (h.room l hl)⟩
theorem OnlyB.setCell (w : World) (a : Addr) (v : Value) (ha : a.spot = none) : OnlyB w (w.setCell a v) a.block := by
  refine ⟨rfl, rfl, rfl, by simp [World.setCell], fun b hb => Below.heap_setCell _ _ _ _ hb, fun l ⟨o, hc, hl⟩ => ?_⟩
  cases o with
  | cells c e fz =>
    refine ⟨.cells (c.setIfInBounds a.off v) e fz, ?_, by simpa [roomO] using hl⟩
    simp only [World.setCell, Array.getElem?_modify, if_pos, hc, Option.map_some, ha]
    simp
  | map ms c =>
    refine ⟨.map ms c, ?_, hl⟩
    simp only [World.setCell, Array.getElem?_modify, if_pos, hc, Option.map_some, ha]
  | _ => exact hl.elim
theorem Goes.setB {w0 w w' O m g} (h : HR w0 w O m g) {k n : Nat} {l : Nat} (hk : lens g k = some (some l)) (hm : m k = some n) (hb : OnlyB w w' n) {b : Blk} (hl : b.len? = some l) :
    Goes w w' (Im m g) (Im m (upd g [(k, b)])) m m (lens g) (lens (upd g [(k, b)])) := by
  refine ⟨⟨fun c hc hI ho => ?_, Nat.le_of_eq hb.size.symm, fun c o hc hI => ?_, fun j s hs => ?_, fun q n' hr => ?_⟩, fun c o ho hod => (hb.block c (fun e => ?_)).trans ho⟩
  · obtain ⟨j, l2, hj, e⟩ := ho
    rw [lens_upd] at hj
    by_cases hkj : k = j
    · subst hkj; exact hI ⟨k, l, hk, e⟩
    · rw [if_neg hkj] at hj; exact hI ⟨j, l2, hj, e⟩
  · exact (SameB.of_block (hb.block c (fun e => hI ⟨k, l, hk, e ▸ hm⟩))).cell o
  · rw [lens_upd]
    by_cases hkj : k = j
    · subst hkj; rw [if_pos rfl, hl]; rw [hk] at hs; cases hs; exact .inr ⟨l, rfl, rfl, rfl⟩
    · rw [if_neg hkj]
      cases s with
      | none => exact .inl hs
      | some l => exact .inr ⟨l, rfl, hs, rfl⟩
  · by_cases e : q = n
    · subst e; exact hb.room _ hr
    · exact (SameB.of_block (hb.block _ e)).room _ hr
  · subst e
    obtain ⟨b0, e1, e2⟩ := lens_some hk
    have hv := h.blk k b0 e1
    rw [hm] at hv
    rw [(BVb.room hv e2).not_odd ho] at hod; cases hod
theorem HR.setB {w0 w w' O m g} (h : HR w0 w O m g) {k n : Nat} {l : Nat} (hk : lens g k = some (some l)) (hm : m k = some n) (hb : OnlyB w w' n) {b : Blk} (hl : b.len? = some l)
    (hv : BVb O w' (Im m (upd g [(k, b)])) m (lens (upd g [(k, b)])) b n) : HR w0 w' O m (upd g [(k, b)]) := by
  have hlen : ∀ j s, lens (upd g [(k, b)]) j = some (some s) → ∃ s', lens g j = some (some s') := fun j s hj => by
    rw [lens_upd] at hj
    by_cases hkj : k = j
    · subst hkj; exact ⟨_, hk⟩
    · rw [if_neg hkj] at hj; exact ⟨_, hj⟩
  refine h.change ⟨hb.os.trans h.fr.os, hb.tape.trans h.fr.tape, hb.output.trans h.fr.output, by rw [hb.size]; exact h.fr.size, fun c hc ho => ?_⟩ (Goes.setB h hk hm hb hl) (fun j c hj => ?_) (fun j j' s s' q hj hj' e e' => ?_) (fun j s q hj hq => ?_)
  · refine (hb.block c (fun e => ?_)).trans (h.fr.block c hc ho)
    rcases h.new _ _ _ hk hm with h1 | h1
    · omega
    · exact ho (e ▸ h1)
  · rw [upd_one] at hj
    by_cases hkj : k = j
    · subst hkj; rw [if_pos rfl] at hj; cases hj; right; rw [hm]; exact hv
    · rw [if_neg hkj] at hj
      left; refine ⟨hj, fun s hs => ⟨rfl, fun q hq => SameB.of_block (hb.block _ (fun e => hkj ?_))⟩⟩
      subst e
      exact (h.inj _ _ _ _ _ (by rw [lens_of hj, hs]) hk hq hm).symm
  · obtain ⟨_, h1⟩ := hlen _ _ hj; obtain ⟨_, h2⟩ := hlen _ _ hj'; exact h.inj _ _ _ _ _ h1 h2 e e'
  · obtain ⟨_, h1⟩ := hlen _ _ hj; exact h.new _ _ _ h1 hq
end Go.Proofs.YtnplgklnkcjmnaaGreatDoor.Am
namespace Go.Proofs.YtnplgklnkcjmnaaGreatDoor.Am
set_option linter.unusedVariables false
set_option linter.unusedSimpArgs false
open Go.RowKit

def Out.ok (o : Out) : Prop := ∀ p, o.c = some p → p

/-- An operation leaves the world as it is, and gives a value of which o tells. -/
def PureOk (P : Program) (s : Sem Value) (w : World) (I : Nat → Prop) (m : Nat → Option Nat) (L : Nat → Option (Option Nat)) (o : Out) : Prop :=
  ∃ v, s.run P w = .ok v w ∧ o.up = [] ∧ TV w I m L o.t v

section
variable {P : Program} {w : World} {I : Nat → Prop} {m : Nat → Option Nat} {L : Nat → Option (Option Nat)}

theorem TV.v_inv {x y : Value} (h : TV w I m L (.v x) y) : y = x ∧ plain x = true := by cases h with | v h => exact ⟨rfl, h⟩
theorem pureV {s : Sem Value} {x : Value} {o : Out} (h : outV x = some o) (hp : plain x = true) (hs : s.run P w = .ok x w) : PureOk P s w I m L o := by
  cases h; exact ⟨x, hs, rfl, .v hp⟩
theorem pureC {s : Sem Value} {c : Prop} {t : T} {o : Out} (h : outC c t = some o) (ho : o.ok) (hs : c → ∃ v, s.run P w = .ok v w ∧ TV w I m L t v) : PureOk P s w I m L o := by
  cases h; obtain ⟨v, h1, h2⟩ := hs (ho _ rfl); exact ⟨v, h1, rfl, h2⟩
theorem pureO {s : Sem Value} {t : T} {o : Out} (h : out t = some o) (hs : ∃ v, s.run P w = .ok v w ∧ TV w I m L t v) : PureOk P s w I m L o := by
  cases h; obtain ⟨v, h1, h2⟩ := hs; exact ⟨v, h1, rfl, h2⟩

theorem run_underlying (t : TypeId) : (underlying t).run P w = match P.underlying t with | some d => .ok d w | none => .halt (.stuck "no such type") w := by
  unfold underlying
  simp only [Sem.run_bind, run_program, Result.andThen_ok]
  cases P.underlying t <;> rfl
theorem run_typeInfo (t : TypeId) : (typeInfo t).run P w = match P.info? t with | some d => .ok d w | none => .halt (.stuck "no such type") w := by
  unfold typeInfo
  simp only [Sem.run_bind, run_program, Result.andThen_ok]
  cases P.info? t <;> rfl
theorem sz_some {t : TypeId} {s : Nat} (h : sz? P t = some s) : (sizeOf t).run P w = .ok s w := by
  unfold sz? at h
  unfold sizeOf
  simp only [Sem.run_bind, run_typeInfo]
  cases e : P.info? t with
  | none => rw [e] at h; cases h
  | some i => rw [e] at h; simp only [someN_eq] at h; cases h; rfl
theorem agg_some {t : TypeId} {b : Bool} (h : agg? P t = some b) : (isAgg t).run P w = .ok b w := by
  unfold agg? at h
  unfold isAgg
  simp only [Sem.run_bind, run_underlying]
  split at h
  · rename_i e; rw [e]; cases h; rfl
  · rename_i e; rw [e]; cases h; rfl
  · rename_i x h1 h2 e
    rw [e]; cases h
    cases x <;> first | rfl | (exact absurd rfl (h1 _)) | (exact absurd rfl (h2 _ _))
  · cases h

theorem ari_ok {op : BinOp} {k : IntKind} {a b : Int} {t : TypeId} {o : Out} (h : ari op k a b = some o) (ho : o.ok) : PureOk P (binOp op t (.int k a) (.int k b)) w I m L o := by
  cases op <;> simp only [ari] at h <;> try (cases h; done)
  case quo => exact pureC h ho fun hb => ⟨_, by simp [binOp, Op.intDiv, hb], .v rfl⟩
  case rem => exact pureC h ho fun hb => ⟨_, by simp [binOp, Op.intDiv, hb], .v rfl⟩
  all_goals exact pureV h rfl (by simp [binOp, Op.intArith, Op.intBits, Op.intCmp, bits])

theorem eqGuard_int {op : BinOp} {t : TypeId} {x y : Operand} {k k' : IntKind} {a b : Int} : (eqGuard op t x y (.int k a) (.int k' b)).run P w = .ok () w := by
  unfold eqGuard; cases op <;> rfl
theorem eqGuard_bool {op : BinOp} {t : TypeId} {x y : Operand} {a b : Bool} : (eqGuard op t x y (.bool a) (.bool b)).run P w = .ok () w := by
  unfold eqGuard; cases op <;> rfl

theorem run_equal_bool {t : TypeId} {a b : Bool} (e : P.underlying t = some .bool) : (Op.equal t (.bool a) (.bool b)).run P w = .ok (a == b) w := by
  have : ∀ d, (Op.equalIn (d + 1) t (.bool a) (.bool b)).run P w = .ok (a == b) w := by
    intro d
    unfold Op.equalIn
    simp only [Sem.run_bind, run_underlying, e, Result.andThen_ok]
    rfl
  exact this 9999
theorem run_binOp_bool {op : BinOp} {t : TypeId} {a b : Bool} (e : P.underlying t = some .bool) :
    (op = .eql → (binOp op t (.bool a) (.bool b)).run P w = .ok (.bool (a == b)) w) ∧ (op = .neq → (binOp op t (.bool a) (.bool b)).run P w = .ok (.bool (!(a == b))) w) := by
  constructor
  · rintro rfl
    show ((do pure (Value.bool (← Op.equal t (.bool a) (.bool b)))) : Sem Value).run P w = _
    simp only [Sem.run_bind, run_equal_bool e, Result.andThen_ok]; rfl
  · rintro rfl
    show ((do pure (Value.bool (!(← Op.equal t (.bool a) (.bool b))))) : Sem Value).run P w = _
    simp only [Sem.run_bind, run_equal_bool e, Result.andThen_ok]; rfl

theorem unT_ok {op : UnOp} {a : T} {va : Value} {o : Out} (h : unT op a = some o) (ha : TV w I m L a va) : PureOk P (Op.unary op va) w I m L o := by
  unfold unT at h
  split at h
  · obtain ⟨rfl, -⟩ := ha.v_inv; exact pureV h rfl (by simp [Op.unary])
  · obtain ⟨rfl, -⟩ := ha.v_inv; exact pureV h rfl (by simp [Op.unary, Op.intArith])
  · obtain ⟨rfl, -⟩ := ha.v_inv; exact pureV h rfl (by simp [Op.unary, Op.intBits, bits])
  · cases h
theorem convT_ok {src dst : TypeId} {a : T} {va : Value} {o : Out} (h : convT P src dst a = some o) (ha : TV w I m L a va) : PureOk P (convert src dst va) w I m L o := by
  unfold convT at h
  split at h
  · rename_i e1 e2
    obtain ⟨rfl, -⟩ := ha.v_inv
    exact pureV h rfl (by simp [convert, run_underlying, e1, e2, Conv.intToInt])
  · cases h

theorem TV.agg_inv {cs : List T} {y : Value} (h : TV w I m L (.agg cs) y) : ∃ vs, y = .agg vs ∧ TVs w I m L cs vs.toList := by cases h with | agg h => exact ⟨_, rfl, h⟩
theorem TV.tup_inv {cs : List T} {y : Value} (h : TV w I m L (.tup cs) y) : ∃ vs, y = .tuple vs ∧ TVs w I m L cs vs.toList := by cases h with | tup h => exact ⟨_, rfl, h⟩

theorem partT_ok {t : TypeId} {cs : List T} {off : Nat} {r : T} {vs : Array Value} (h : partT P t cs off = some r) (hv : TVs w I m L cs vs.toList) :
    ∃ v, (part t vs off).run P w = .ok v w ∧ TV w I m L r v := by
  unfold partT at h
  split at h
  · rename_i s e1 e2
    cases h
    refine ⟨.agg (vs.extract off (off + s)), by simp [part, agg_some e1, sz_some e2], .agg ?_⟩
    have := (hv.drop off).take s
    have e : (vs.extract off (off + s)).toList = (vs.toList.drop off).take s := by simp [List.extract_eq_take_drop]
    rw [e]; exact this
  · rename_i e1
    obtain ⟨v, h1, h2⟩ := hv.get h
    refine ⟨v, ?_, h2⟩
    have h1' : vs[off]? = some v := by simpa using h1
    simp [part, agg_some e1, h1']
  · cases h
theorem nilS_ok {t : T} {b : Bool} {v : Value} (h : nilS t = some b) (hv : TV w I m L t v) : ∃ a n c, v = .slice a n c ∧ a.isNone = b ∧ (b = true → n = 0 ∧ c = 0) := by
  unfold nilS at h
  split at h
  · obtain ⟨rfl, -⟩ := hv.v_inv; cases h; exact ⟨_, _, _, rfl, rfl, fun _ => ⟨rfl, rfl⟩⟩
  · cases h; cases hv with | fl => exact ⟨_, _, _, rfl, rfl, fun h => by cases h⟩
  · cases h; cases hv with | sl => exact ⟨_, _, _, rfl, rfl, fun h => by cases h⟩
  · cases h
theorem nilF_ok {t : T} {b : Bool} {v : Value} (h : nilF t = some b) (hv : TV w I m L t v) : (b = true ∧ v = .nilFunc) ∨ (b = false ∧ ∃ f x y, v = .func f x y) := by
  unfold nilF at h
  split at h
  · obtain ⟨rfl, -⟩ := hv.v_inv; cases h; exact .inl ⟨rfl, rfl⟩
  · obtain ⟨rfl, -⟩ := hv.v_inv; cases h; exact .inr ⟨rfl, _, _, _, rfl⟩
  · cases h; cases hv with | fn => exact .inr ⟨rfl, _, _, _, rfl⟩
  · cases h
theorem nilP_ok {t : T} {b : Bool} {v : Value} (h : nilP t = some b) (hv : TV w I m L t v) : ∃ a, v = .pointer a ∧ a.isNone = b := by
  unfold nilP at h
  split at h
  · obtain ⟨rfl, -⟩ := hv.v_inv; cases h; exact ⟨_, rfl, rfl⟩
  · cases h; cases hv with | fp => exact ⟨_, rfl, rfl⟩
  · cases h; cases hv with | sp => exact ⟨_, rfl, rfl⟩
  · cases h
theorem both_some {a b : Option Bool} {r : Bool} (h : both a b = some r) : ∃ x y, a = some x ∧ b = some y ∧ r = (x && y) := by
  unfold both at h
  split at h
  · cases h; exact ⟨_, _, rfl, rfl, rfl⟩
  · cases h
theorem eqF_ok {eq : TypeId → T → T → Option Bool} {d : Nat} (he : ∀ t a b va vb r, eq t a b = some r → TV w I m L a va → TV w I m L b vb → (Op.equalIn d t va vb).run P w = .ok r w) {xs ys : List T} {vx vy : Array Value}
    (hx : TVs w I m L xs vx.toList) (hy : TVs w I m L ys vy.toList) : ∀ (fs : List Field) (r : Bool), eqF eq P xs ys fs = some r → (Op.eqFields d vx vy fs).run P w = .ok r w := by
  intro fs
  induction fs with
  | nil => intro r h; cases h; rfl
  | cons f fs ih =>
    intro r h
    simp only [eqF] at h
    simp only [Op.eqFields]
    split at h
    · rename_i hn
      rw [if_pos hn]
      split at h
      · rename_i a b e1 e2
        obtain ⟨x, y, h1, h2, rfl⟩ := both_some h
        obtain ⟨va, p1, p2⟩ := partT_ok (P := P) e1 hx
        obtain ⟨vb, q1, q2⟩ := partT_ok (P := P) e2 hy
        simp only [Sem.run_bind, p1, q1, he _ _ _ _ _ _ h1 p2 q2, Result.andThen_ok]
        cases x
        · rfl
        · simp only [Bool.not_true, Bool.false_eq_true, if_false, Bool.true_and]; exact ih _ h2
      · cases h
    · rename_i hn
      rw [if_neg hn]; exact ih _ h
theorem eqI_ok {eq : TypeId → T → T → Option Bool} {d : Nat} (he : ∀ t a b va vb r, eq t a b = some r → TV w I m L a va → TV w I m L b vb → (Op.equalIn d t va vb).run P w = .ok r w) {xs ys : List T} {vx vy : Array Value}
    (hx : TVs w I m L xs vx.toList) (hy : TVs w I m L ys vy.toList) {e : TypeId} {s : Nat} : ∀ (n i : Nat) (r : Bool), eqI eq P e s xs ys n i = some r → (Op.eqItems d e s vx vy (List.range' i n)).run P w = .ok r w := by
  intro n
  induction n with
  | zero => intro i r h; cases h; rfl
  | succ n ih =>
    intro i r h
    simp only [eqI] at h
    rw [List.range'_succ]
    simp only [Op.eqItems]
    split at h
    · rename_i a b e1 e2
      obtain ⟨x, y, h1, h2, rfl⟩ := both_some h
      obtain ⟨va, p1, p2⟩ := partT_ok (P := P) e1 hx
      obtain ⟨vb, q1, q2⟩ := partT_ok (P := P) e2 hy
      simp only [Sem.run_bind, p1, q1, he _ _ _ _ _ _ h1 p2 q2, Result.andThen_ok]
      cases x
      · rfl
      · simp only [Bool.not_true, Bool.false_eq_true, if_false, Bool.true_and]; exact ih _ _ h2
    · cases h
theorem nilTwo_some {z : T → Bool} {f : T → Option Bool} {a b : T} {r : Bool} (h : nilTwo z f a b = some r) : (z a = true ∧ f b = some r) ∨ (z b = true ∧ f a = some r) := by
  unfold nilTwo at h
  cases e : z a <;> rw [e] at h
  · cases e2 : z b <;> rw [e2] at h
    · cases h
    · exact .inr ⟨rfl, h⟩
  · exact .inl ⟨rfl, h⟩
theorem zS_eq {t : T} (h : zS t = true) : t = .v (.slice none 0 0) := by
  unfold zS at h; split at h
  · rfl
  · cases h
theorem zF_eq {t : T} (h : zF t = true) : t = .v .nilFunc := by
  unfold zF at h; split at h
  · rfl
  · cases h
theorem zP_eq {t : T} (h : zP t = true) : t = .v (.pointer none) := by
  unfold zP at h; split at h
  · rfl
  · cases h
theorem eqT_ok {eqs : List Nat} (hq : ∀ t, hasN eqs t = true → P.stoodInHeld t = false) (D : Nat) : ∀ (d : Nat) (t : TypeId) (a b : T) (va vb : Value) (r : Bool), eqT P eqs d t a b = some r → TV w I m L a va → TV w I m L b vb → (Op.equalIn (d + D) t va vb).run P w = .ok r w := by
  intro d
  induction d with
  | zero => intro t a b va vb r h; cases h
  | succ d ih =>
    intro t a b va vb r h ha hb
    rw [Nat.add_right_comm]
    simp only [eqT] at h
    split at h
    · rename_i k e
      split at h
      · obtain ⟨rfl, -⟩ := ha.v_inv; obtain ⟨rfl, -⟩ := hb.v_inv
        split at h
        · rename_i hk; subst hk; cases h; exact run_equalIn_int w _ _ _ _ _ _ e
        · cases h
      · cases h
    · rename_i e
      split at h
      · obtain ⟨rfl, -⟩ := ha.v_inv; obtain ⟨rfl, -⟩ := hb.v_inv
        cases h; exact Go.run_equalIn_bool w _ _ _ _ e
      · cases h
    · rename_i fs e
      split at h
      · obtain ⟨vx, rfl, hx⟩ := ha.agg_inv; obtain ⟨vy, rfl, hy⟩ := hb.agg_inv
        cases hst' : hasN eqs t with
        | false => rw [hst'] at h; cases h
        | true =>
          have hst := hq t hst'
          rw [hst'] at h
          have hf : P.fieldsOf t = fs := by unfold Program.fieldsOf; rw [e]
          rw [run_equalIn_struct w _ _ _ _ (by rw [hf]; exact e) hst, hf]
          exact eqF_ok (fun t a b va vb r h1 h2 h3 => ih t a b va vb r h1 h2 h3) hx hy _ _ h
      · cases h
    · rename_i n el e
      split at h
      · rename_i xs ys s e2
        obtain ⟨vx, rfl, hx⟩ := ha.agg_inv; obtain ⟨vy, rfl, hy⟩ := hb.agg_inv
        obtain ⟨i, hi, hs⟩ : ∃ i, P.info? el = some i ∧ i.size = s := by
          unfold sz? at e2
          cases e3 : P.info? el with
          | none => rw [e3] at e2; cases e2
          | some i => rw [e3] at e2; simp only [someN_eq] at e2; cases e2; exact ⟨i, rfl, rfl⟩
        rw [run_equalIn_array w _ _ _ e hi]
        have hc : P.cellsOf el = s := by unfold Program.cellsOf; rw [hi]; exact hs
        rw [hc, List.range_eq_range']
        exact eqI_ok (fun t a b va vb r h1 h2 h3 => ih t a b va vb r h1 h2 h3) hx hy _ _ _ h
      · cases h
    · rename_i el e
      rcases nilTwo_some h with ⟨hz, h⟩ | ⟨hz, h⟩
      · rw [zS_eq hz] at ha
        obtain ⟨rfl, -⟩ := ha.v_inv
        obtain ⟨x, n, c, rfl, rfl, -⟩ := nilS_ok h hb
        simp [Op.equalIn, run_underlying, e]
      · rw [zS_eq hz] at hb
        obtain ⟨rfl, -⟩ := hb.v_inv
        obtain ⟨x, n, c, rfl, rfl, -⟩ := nilS_ok h ha
        cases x <;> simp [Op.equalIn, run_underlying, e]
    · rename_i e
      rcases nilTwo_some h with ⟨hz, h⟩ | ⟨hz, h⟩
      · rw [zF_eq hz] at ha
        obtain ⟨rfl, -⟩ := ha.v_inv
        rcases nilF_ok h hb with ⟨rfl, rfl⟩ | ⟨rfl, f, x, y, rfl⟩ <;> simp [Op.equalIn, run_underlying, e]
      · rw [zF_eq hz] at hb
        obtain ⟨rfl, -⟩ := hb.v_inv
        rcases nilF_ok h ha with ⟨rfl, rfl⟩ | ⟨rfl, f, x, y, rfl⟩ <;> simp [Op.equalIn, run_underlying, e]
    · rename_i e
      rcases nilTwo_some h with ⟨hz, h⟩ | ⟨hz, h⟩
      · rw [zP_eq hz] at ha
        obtain ⟨rfl, -⟩ := ha.v_inv
        obtain ⟨x, rfl, rfl⟩ := nilP_ok h hb
        simp [Op.equalIn, run_underlying, e]
      · rw [zP_eq hz] at hb
        obtain ⟨rfl, -⟩ := hb.v_inv
        obtain ⟨x, rfl, rfl⟩ := nilP_ok h ha
        cases x <;> simp [Op.equalIn, run_underlying, e]
    · cases h
theorem allL_iff {α : Type} {f : α → Bool} {l : List α} (h : allL f l = true) : ∀ a ∈ l, f a = true := by
  induction l with
  | nil => simp
  | cons a l ih =>
    simp only [allL] at h
    split at h
    · rename_i e; intro b hb; rcases List.mem_cons.1 hb with rfl | hb
      · exact e
      · exact ih h b hb
    · cases h
theorem noGuard_ok : ∀ (d : Nat) (t : TypeId), noGuard P d t = true → ∀ D, d ≤ D → P.eqGuardType D t = false := by
  intro d
  induction d with
  | zero => intro t h; cases h
  | succ d ih =>
    intro t h D hD
    obtain ⟨D, rfl⟩ : ∃ D', D = D' + 1 := ⟨D - 1, by omega⟩
    unfold noGuard at h
    unfold Program.eqGuardType
    split at h
    · cases h
    · rename_i fs e
      rw [e]
      simp only
      rw [← Bool.not_eq_true, Array.any_eq_true]
      rintro ⟨i, hi, hf⟩
      have := ih _ (allL_iff h fs[i] (by simp)) D (by omega)
      rw [this] at hf
      simp at hf
    · rename_i e; rw [e]; exact ih _ h D (by omega)
    · rename_i x h1 h2 h3
      split
      · exact absurd (by assumption) (h1 _)
      · exact absurd (by assumption) (h2 _)
      · exact absurd (by assumption) (h3 _ _)
      · rfl
theorem binE_ok {eqs : List Nat} (hq : ∀ t, hasN eqs t = true → P.stoodInHeld t = false) {op : BinOp} {t : TypeId} {x y : Operand} {a b : T} {va vb : Value} {o : Out}
    (h : (bif isAggT a && !(noGuard P 12 t && Nat.ble 12 P.depth) then none else match op, eqT P eqs 12 t a b with
      | .eql, some r => outV (.bool r)
      | .neq, some r => outV (.bool (!r))
      | _, _ => none) = some o) (hn1 : ∀ k x k' y, a = .v (.int k x) → b = .v (.int k' y) → False) (hn2 : ∀ x y, a = .v (.bool x) → b = .v (.bool y) → False) (ha : TV w I m L a va) (hb : TV w I m L b vb) :
    PureOk P (do eqGuard op t x y va vb; binOp op t va vb) w I m L o := by
  cases hg : (isAggT a && !(noGuard P 12 t && Nat.ble 12 P.depth)) with
  | true => rw [hg] at h; cases h
  | false =>
    rw [hg] at h
    simp only [cond_false] at h
    cases he : eqT P eqs 12 t a b with
    | none => rw [he] at h; cases op <;> cases h
    | some r =>
      rw [he] at h
      have hr := eqT_ok (P := P) (w := w) (I := I) (m := m) (L := L) hq 9988 12 t a b va vb r he ha hb
      have hsh : (∃ p q, va = .agg p ∧ vb = .agg q ∧ isAggT a = true) ∨ (∃ p1 p2 p3 q1 q2 q3, va = .slice p1 p2 p3 ∧ vb = .slice q1 q2 q3) ∨ (∃ p q, va = .pointer p ∧ vb = .pointer q) ∨
          ((va = .nilFunc ∨ ∃ p1 p2 p3, va = .func p1 p2 p3) ∧ (vb = .nilFunc ∨ ∃ p1 p2 p3, vb = .func p1 p2 p3)) := by
        simp only [eqT] at he
        split at he
        · cases he
        · cases he
        · split at he
          · obtain ⟨vx, rfl, hx⟩ := ha.agg_inv; obtain ⟨vy, rfl, hy⟩ := hb.agg_inv
            exact .inl ⟨_, _, rfl, rfl, rfl⟩
          · cases he
        · split at he
          · obtain ⟨vx, rfl, hx⟩ := ha.agg_inv; obtain ⟨vy, rfl, hy⟩ := hb.agg_inv
            exact .inl ⟨_, _, rfl, rfl, rfl⟩
          · cases he
        · rcases nilTwo_some he with ⟨hz, he⟩ | ⟨hz, he⟩
          · rw [zS_eq hz] at ha
            obtain ⟨rfl, -⟩ := ha.v_inv
            obtain ⟨x, n, c, rfl, -, -⟩ := nilS_ok he hb
            exact .inr (.inl ⟨_, _, _, _, _, _, rfl, rfl⟩)
          · rw [zS_eq hz] at hb
            obtain ⟨rfl, -⟩ := hb.v_inv
            obtain ⟨x, n, c, rfl, -, -⟩ := nilS_ok he ha
            exact .inr (.inl ⟨_, _, _, _, _, _, rfl, rfl⟩)
        · rcases nilTwo_some he with ⟨hz, he⟩ | ⟨hz, he⟩
          · rw [zF_eq hz] at ha
            obtain ⟨rfl, -⟩ := ha.v_inv
            refine .inr (.inr (.inr ⟨.inl rfl, ?_⟩))
            rcases nilF_ok he hb with ⟨-, rfl⟩ | ⟨-, f, x, y, rfl⟩
            · exact .inl rfl
            · exact .inr ⟨_, _, _, rfl⟩
          · rw [zF_eq hz] at hb
            obtain ⟨rfl, -⟩ := hb.v_inv
            refine .inr (.inr (.inr ⟨?_, .inl rfl⟩))
            rcases nilF_ok he ha with ⟨-, rfl⟩ | ⟨-, f, x, y, rfl⟩
            · exact .inl rfl
            · exact .inr ⟨_, _, _, rfl⟩
        · rcases nilTwo_some he with ⟨hz, he⟩ | ⟨hz, he⟩
          · rw [zP_eq hz] at ha
            obtain ⟨rfl, -⟩ := ha.v_inv
            obtain ⟨x, rfl, -⟩ := nilP_ok he hb
            exact .inr (.inr (.inl ⟨_, _, rfl, rfl⟩))
          · rw [zP_eq hz] at hb
            obtain ⟨rfl, -⟩ := hb.v_inv
            obtain ⟨x, rfl, -⟩ := nilP_ok he ha
            exact .inr (.inr (.inl ⟨_, _, rfl, rfl⟩))
        · cases he
      have hguard : (eqGuard op t x y va vb).run P w = .ok () w := by
        rcases hsh with ⟨p, q, rfl, rfl, e⟩ | ⟨_, _, _, _, _, _, rfl, rfl⟩ | ⟨_, _, rfl, rfl⟩ | ⟨rfl | ⟨_, _, _, rfl⟩, rfl | ⟨_, _, _, rfl⟩⟩
        · rw [e, Bool.true_and, Bool.not_eq_false', Bool.and_eq_true, Nat.ble_eq] at hg; exact run_eqGuard_agg w op t x y p q (noGuard_ok 12 t hg.1 _ hg.2)
        all_goals (unfold eqGuard; cases op <;> rfl)
      have hbe : op = .eql ∨ op = .neq := by cases op <;> first | exact .inl rfl | exact .inr rfl | cases h
      have hrun : (op = .eql → (binOp op t va vb).run P w = .ok (.bool r) w) ∧ (op = .neq → (binOp op t va vb).run P w = .ok (.bool (!r)) w) := by
        have hr' : (Op.equal t va vb).run P w = .ok r w := hr
        constructor
        · rintro rfl
          have : binOp .eql t va vb = (do pure (.bool (← Op.equal t va vb))) := by
            rcases hsh with ⟨p, q, rfl, rfl, e⟩ | ⟨_, _, _, _, _, _, rfl, rfl⟩ | ⟨_, _, rfl, rfl⟩ | ⟨rfl | ⟨_, _, _, rfl⟩, rfl | ⟨_, _, _, rfl⟩⟩ <;> rfl
          rw [this]; simp only [Sem.run_bind, hr', Result.andThen_ok]; rfl
        · rintro rfl
          have : binOp .neq t va vb = (do pure (.bool (!(← Op.equal t va vb)))) := by
            rcases hsh with ⟨p, q, rfl, rfl, e⟩ | ⟨_, _, _, _, _, _, rfl, rfl⟩ | ⟨_, _, rfl, rfl⟩ | ⟨rfl | ⟨_, _, _, rfl⟩, rfl | ⟨_, _, _, rfl⟩⟩ <;> rfl
          rw [this]; simp only [Sem.run_bind, hr', Result.andThen_ok]; rfl
      rcases hbe with rfl | rfl
      · exact pureV h rfl (by rw [Sem.run_bind, hguard, Result.andThen_ok, hrun.1 rfl])
      · exact pureV h rfl (by rw [Sem.run_bind, hguard, Result.andThen_ok, hrun.2 rfl])
theorem binT_ok {eqs : List Nat} (hq : ∀ t, hasN eqs t = true → P.stoodInHeld t = false) {op : BinOp} {t : TypeId} {x y : Operand} {a b : T} {va vb : Value} {o : Out} (h : binT P eqs op t a b = some o) (ho : o.ok) (ha : TV w I m L a va) (hb : TV w I m L b vb) :
    PureOk P (do eqGuard op t x y va vb; binOp op t va vb) w I m L o := by
  unfold binT at h
  split at h
  · obtain ⟨rfl, -⟩ := ha.v_inv; obtain ⟨rfl, -⟩ := hb.v_inv
    rename_i k p k' q
    split at h
    · exact pureC h ho fun hq => ⟨_, by simp [eqGuard_int, binOp, Op.shift, show ¬ q < 0 by omega], .v rfl⟩
    · exact pureC h ho fun hq => ⟨_, by simp [eqGuard_int, binOp, Op.shift, show ¬ q < 0 by omega], .v rfl⟩
    · split at h
      · rename_i e; subst e
        obtain ⟨v, h1, h2, h3⟩ := ari_ok (t := t) (w := w) (P := P) (I := I) (m := m) (L := L) h ho
        exact ⟨v, by simp [eqGuard_int, h1], h2, h3⟩
      · cases h
  · obtain ⟨rfl, -⟩ := ha.v_inv; obtain ⟨rfl, -⟩ := hb.v_inv
    split at h
    · rename_i e; exact pureV h rfl (by rw [Sem.run_bind, eqGuard_bool, Result.andThen_ok, (run_binOp_bool e).1 rfl])
    · rename_i e; exact pureV h rfl (by rw [Sem.run_bind, eqGuard_bool, Result.andThen_ok, (run_binOp_bool e).2 rfl])
    · cases h
  · rename_i hn1 hn2
    exact binE_ok hq h (fun k x k' y e1 e2 => hn1 _ _ _ _ e1 e2) (fun x y e1 e2 => hn2 _ _ e1 e2) ha hb

theorem nilAny_run {t el : TypeId} (e : P.underlying t = some (.slice el)) (x y : Operand) (a : Option Addr) (n c : Nat) :
    (do eqGuard .eql t x y (.slice a n c) (.slice none 0 0); binOp .eql t (.slice a n c) (.slice none 0 0)).run P w = .ok (.bool a.isNone) w ∧
    (do eqGuard .neq t x y (.slice a n c) (.slice none 0 0); binOp .neq t (.slice a n c) (.slice none 0 0)).run P w = .ok (.bool (!a.isNone)) w := by
  have hr : (Op.equal t (.slice a n c) (.slice none 0 0)).run P w = .ok a.isNone w := by
    have : ∀ d, (Op.equalIn (d + 1) t (.slice a n c) (.slice none 0 0)).run P w = .ok a.isNone w := by
      intro d; cases a <;> simp [Op.equalIn, run_underlying, e]
    exact this 9999
  have hg : ∀ op, (eqGuard op t x y (.slice a n c) (.slice none 0 0)).run P w = .ok () w := by intro op; unfold eqGuard; cases op <;> rfl
  have h1 : binOp .eql t (.slice a n c) (.slice none 0 0) = (do pure (.bool (← Op.equal t (.slice a n c) (.slice none 0 0)))) := rfl
  have h2 : binOp .neq t (.slice a n c) (.slice none 0 0) = (do pure (.bool (!(← Op.equal t (.slice a n c) (.slice none 0 0))))) := rfl
  constructor
  · rw [Sem.run_bind, hg, Result.andThen_ok, h1]; simp only [Sem.run_bind, hr, Result.andThen_ok]; rfl
  · rw [Sem.run_bind, hg, Result.andThen_ok, h2]; simp only [Sem.run_bind, hr, Result.andThen_ok]; rfl

theorem fieldT_ok {t : TypeId} {x : T} {f : Nat} {vx : Value} {o : Out} (h : fieldT P t x f = some o) (hx : TV w I m L x vx) : PureOk P (Instr.field t vx f) w I m L o := by
  unfold fieldT at h
  split at h
  · rename_i fs cs e
    split at h
    · rename_i fd e2
      split at h
      · rename_i r e3
        obtain ⟨vs, rfl, hv⟩ := hx.agg_inv
        obtain ⟨v, h1, h2⟩ := partT_ok (w := w) (P := P) e3 hv
        exact pureO h ⟨v, by simp [Instr.field, run_underlying, e, e2, asAgg, h1], h2⟩
      · cases h
    · cases h
  · cases h
theorem extractT_ok {x : T} {i : Nat} {vx : Value} {o : Out} (h : extractT x i = some o) (hx : TV w I m L x vx) : PureOk P (Instr.extract vx i) w I m L o := by
  unfold extractT at h
  split at h
  · split at h
    · rename_i e
      obtain ⟨vs, rfl, hv⟩ := hx.tup_inv
      obtain ⟨v, h1, h2⟩ := hv.get e
      have h1' : vs[i]? = some v := by simpa using h1
      exact pureO h ⟨v, by simp [Instr.extract, h1'], h2⟩
    · cases h
  · cases h

theorem ints_inv {cs : List T} {ks : List IntKind} {xs : List Int} {vs : List Value} (h : ints? cs = some (ks, xs)) (hv : TVs w I m L cs vs) :
    ks.length = xs.length ∧ vs.length = xs.length ∧ ∀ (i : Nat) (x : Int), xs[i]? = some x → ∃ k : IntKind, ks[i]? = some k ∧ vs[i]? = some (Value.int k x) := by
  induction cs generalizing ks xs vs with
  | nil => cases h; cases hv; exact ⟨rfl, rfl, fun i x hx => by simp at hx⟩
  | cons c cs ih =>
    cases hv with
    | cons hc hr =>
      rename_i v vs
      unfold ints? at h
      split at h
      · rename_i e; cases e
      · rename_i k x r e
        cases e
        obtain ⟨rfl, -⟩ := hc.v_inv
        split at h
        · rename_i ks' xs' e2
          cases h
          obtain ⟨h1, h2, h3⟩ := ih e2 hr
          refine ⟨by simp [h1], by simp [h2], fun i y hy => ?_⟩
          cases i with
          | zero => simp at hy; subst hy; exact ⟨k, rfl, rfl⟩
          | succ i => simp at hy; obtain ⟨k', a, b⟩ := h3 i y hy; exact ⟨k', by simpa using a, by simpa using b⟩
        · cases h
      · cases h

theorem ints_list {cs : List T} : ∀ {ks : List IntKind} {xs : List Int}, ints? cs = some (ks, xs) → cs.length = xs.length ∧ ks.length = xs.length ∧ ∀ (j : Nat), j < xs.length → ∃ k, ks[j]? = some k ∧ cs[j]? = some (.v (.int k (xs.getD j 0))) := by
  induction cs with
  | nil => intro ks xs h; cases h; exact ⟨rfl, rfl, fun j hj => by simp at hj⟩
  | cons c cs ih =>
    intro ks xs h
    unfold ints? at h
    split at h
    · rename_i e; cases e
    · rename_i k x r e
      cases e
      split at h
      · rename_i ks' xs' e2
        cases h
        obtain ⟨h1, h2, h3⟩ := ih e2
        refine ⟨by simp [h1], by simp [h2], fun j hj => ?_⟩
        cases j with
        | zero => exact ⟨k, rfl, rfl⟩
        | succ j => obtain ⟨q, a, b⟩ := h3 j (by simpa using hj); exact ⟨q, by simpa using a, by simpa using b⟩
      · cases h
    · cases h
theorem flatCells_get {ks : List IntKind} {xs : List Int} {b st i : Nat} : ∀ (n j q : Nat), (flatCells ks xs b st i n j)[q]? = if q < n then some (.v (.int (kat ks (b + (j + q)) st i) (xs.getD (b + i * st + (j + q)) 0))) else none := by
  intro n
  induction n with
  | zero => intro j q; simp [flatCells]
  | succ n ih =>
    intro j q
    cases q with
    | zero => simp [flatCells]
    | succ q =>
      simp only [flatCells, List.getElem?_cons_succ, ih, Nat.add_lt_add_iff_right]
      rw [show j + 1 + q = j + (q + 1) by omega]
theorem ints_flat {cs : List T} {k : IntKind} {ks : List IntKind} {xs : List Int} (h : ints? cs = some (ks, xs)) (hk : ∀ q ∈ ks, q = k) {i s : Nat} (hs : (i + 1) * s ≤ xs.length) : (cs.drop (i * s)).take s = flatCells [k] xs 0 s i s 0 := by
  obtain ⟨h1, h2, h3⟩ := ints_list h
  apply List.ext_getElem?
  intro q
  rw [flatCells_get]
  have hm : (i + 1) * s = i * s + s := by rw [Nat.add_mul, Nat.one_mul]
  by_cases hq : q < s
  · rw [if_pos hq, List.getElem?_take_of_lt hq, List.getElem?_drop]
    obtain ⟨k', a, b⟩ := h3 (i * s + q) (by omega)
    rw [b, hk k' (List.mem_of_getElem? a)]
    simp [kat]
  · rw [if_neg hq]
    exact List.getElem?_eq_none (by simp; omega)
theorem indexT_ok {t : TypeId} {x i : T} {lit : Bool} {vx vi : Value} {o : Out} (h : indexT P t x i lit = some o) (ho : o.ok) (hx : TV w I m L x vx) (hi : TV w I m L i vi) :
    PureOk P (Instr.index t vx vi) w I m L o := by
  unfold indexT at h
  split at h
  · rename_i n e cs kd q hu
    obtain ⟨rfl, -⟩ := hi.v_inv
    obtain ⟨vs, rfl, hv⟩ := hx.agg_inv
    split at h
    · cases h
    · rename_i s hs
      cases lit
      · simp only [cond_false] at h
        split at h
        · rename_i k ks xs e1 e2
          split at h
          · rename_i hk
            simp only [Bool.and_eq_true, List.all_eq_true, beq_iff_eq, Nat.beq_eq, Nat.ble_eq] at hk
            obtain ⟨⟨hk1, hk2⟩, hk3⟩ := hk
            refine pureC h ho fun hq => ?_
            obtain ⟨a1, a2, a3⟩ := ints_inv e2 hv
            have hlt : q.toNat < xs.length := by omega
            obtain ⟨k', b1, b2⟩ := a3 q.toNat _ (List.getElem?_eq_getElem hlt)
            have hkk : k' = k := hk1 k' (List.mem_of_getElem? b1)
            subst hkk
            refine ⟨_, ?_, .v rfl⟩
            have b2' : vs[q.toNat]? = some (Value.int k' (xs.getD q.toNat 0)) := by
              rw [← Array.getElem?_toList, b2, List.getD_eq_getElem?_getD, List.getElem?_eq_getElem hlt]; rfl
            simp [Instr.index, asIntOf, run_underlying, hu, hq.1, hq.2, sz_some hs, hk2, part, agg_some e1, b2']
          · cases h
        · rename_i k ks xs e1 e2
          split at h
          · rename_i hk
            simp only [Bool.and_eq_true, List.all_eq_true, beq_iff_eq, Nat.ble_eq] at hk
            obtain ⟨hk1, hk3⟩ := hk
            refine pureC h ho fun hq => ?_
            have hlt : (q.toNat + 1) * s ≤ xs.length := Nat.le_trans (Nat.mul_le_mul_right s (by omega : q.toNat + 1 ≤ n)) hk3
            have hr : partT P e cs (q.toNat * s) = some (.agg (flatCells [k] xs 0 s q.toNat s 0)) := by
              rw [← ints_flat e2 (fun q hq => hk1 q hq) hlt]
              unfold partT; rw [e1, hs]
            obtain ⟨v, h1, h2⟩ := partT_ok (w := w) (P := P) hr hv
            exact ⟨v, by simp [Instr.index, asIntOf, run_underlying, hu, hq.1, hq.2, sz_some hs, h1], h2⟩
          · cases h
        · cases h
      · simp only [cond_true] at h
        split at h
        · rename_i r hr
          refine pureC h ho fun hq => ?_
          obtain ⟨v, h1, h2⟩ := partT_ok (w := w) (P := P) hr hv
          exact ⟨v, by simp [Instr.index, asIntOf, run_underlying, hu, hq.1, hq.2, sz_some hs, h1], h2⟩
        · cases h
  · cases h
end
end Go.Proofs.YtnplgklnkcjmnaaGreatDoor.Am
namespace Go.Proofs.YtnplgklnkcjmnaaGreatDoor.Am
set_option linter.unusedVariables false
set_option linter.unusedSimpArgs false
open Go.RowKit

theorem add_at (b o n : Nat) : (⟨b, o, none⟩ : Addr).add n = ⟨b, o + n, none⟩ := by
  unfold Addr.add
  by_cases h : n = 0
  · subst h; simp
  · simp [h]
theorem alive_lens {g : Mem} {k : Nat} (h : g.alive k = true) : ∃ l, lens g k = some (some l) := by
  unfold Mem.alive at h
  split at h
  · rename_i ks xs e; exact ⟨_, lens_of e⟩
  · rename_i cs e; exact ⟨_, lens_of e⟩
  · cases h

section
variable {P : Program} {w : World} {I : Nat → Prop} {m : Nat → Option Nat} {L : Nat → Option (Option Nat)}

theorem TV.os_inv {k sz off n l : Nat} {y : Value} (h : TV w I m L (.os k sz off n) y) (hl : L k = some (some l)) :
    0 < sz ∧ (off + n) * sz ≤ l ∧ ((n = 0 ∧ ∃ a, y = .slice a 0 0) ∨ ∃ cap b, m k = some b ∧ y = .slice (some ⟨b, off * sz, none⟩) n cap ∧ (n ≤ cap ∧ n ≤ 9223372036854775807) ∧ Room w b ((off + cap) * sz)) := by
  cases h with
  | osx e => rw [hl] at e; cases e
  | os0 e h hz => rw [hl] at e; cases e; exact ⟨hz, by simpa using h, .inl ⟨rfl, _, rfl⟩⟩
  | os e hm h hc hz hr => rw [hl] at e; cases e; exact ⟨hz, h, .inr ⟨_, _, hm, rfl, hc, hr⟩⟩
theorem TV.mp_inv {k l : Nat} {y : Value} (h : TV w I m L (.mp k) y) (hl : L k = some (some l)) : ∃ b, m k = some b ∧ y = .map (some b) := by
  cases h with
  | mpx e => rw [hl] at e; cases e
  | mp e hm => exact ⟨_, hm, rfl⟩
theorem TV.op_inv {k b st i e l : Nat} {y : Value} (h : TV w I m L (.op k b st i e) y) (hl : L k = some (some l)) : b + i * st + e ≤ l ∧ ∃ bb, m k = some bb ∧ y = .pointer (some ⟨bb, b + i * st, none⟩) := by
  cases h with
  | opx e => rw [hl] at e; cases e
  | op e hm h => rw [hl] at e; cases e; exact ⟨h, _, hm, rfl⟩
theorem TV.fl_inv {ks : List IntKind} {n : Nat} {xs : List Int} {y : Value} (h : TV w I m L (.fl ks n xs) y) :
    (n = 0 ∧ xs = [] ∧ ∃ a cap, y = .slice a 0 cap) ∨ ∃ b off cap, y = .slice (some ⟨b, off, none⟩) n cap ∧ I b ∧ b < w.heap.size ∧ ks ≠ [] ∧ xs.length = n * ks.length ∧ (n ≤ cap ∧ n ≤ 9223372036854775807) ∧ 0 < n ∧ FlatAt w b off ks xs := by
  cases h with
  | fl0 => exact .inl ⟨rfl, rfl, _, _, rfl⟩
  | fl hI hb hk hn hc hp h => exact .inr ⟨_, _, _, rfl, hI, hb, hk, hn, hc, hp, h⟩
theorem TV.sl_inv {n sz : Nat} {cs : List T} {y : Value} (h : TV w I m L (.sl n sz cs) y) :
    (n = 0 ∧ cs = [] ∧ ∃ a cap, y = .slice a 0 cap) ∨ ∃ b off cap vs, y = .slice (some ⟨b, off, none⟩) n cap ∧ I b ∧ b < w.heap.size ∧ cs.length = n * sz ∧ (n ≤ cap ∧ n ≤ 9223372036854775807) ∧ 0 < n ∧ TVs w I m L cs vs ∧ CellsAt w b off vs := by
  cases h with
  | sl0 => exact .inl ⟨rfl, rfl, _, _, rfl⟩
  | sl hI hb hn hc hp hv h => exact .inr ⟨_, _, _, _, rfl, hI, hb, hn, hc, hp, hv, h⟩

theorem run_indexAt_slice {t : TypeId} {e : TypeId} {s b off n cap : Nat} {kd : IntKind} {i : Int} (hu : P.underlying t = some (.slice e)) (hs : sz? P e = some s) (h0 : 0 ≤ i) (h1 : i < n) :
    (Instr.indexAt t (.slice (some ⟨b, off, none⟩) n cap) (.int kd i)).run P w = .ok (.pointer (some ⟨b, off + i.toNat * s, none⟩)) w := by
  simp [Instr.indexAt, asIntOf, run_underlying, hu, h0, h1, sz_some hs, add_at]
theorem run_indexAt_array {t : TypeId} {e : TypeId} {s b off n : Nat} {kd : IntKind} {i : Int} (hu : P.underlying t = some (.array n e)) (hs : sz? P e = some s) (h0 : 0 ≤ i) (h1 : i < n) :
    (Instr.indexAt t (.pointer (some ⟨b, off, none⟩)) (.int kd i)).run P w = .ok (.pointer (some ⟨b, off + i.toNat * s, none⟩)) w := by
  simp [Instr.indexAt, asIntOf, run_underlying, hu, h0, h1, sz_some hs, add_at, Instr.sureAddr]

theorem TV.fp_inv {ks : List IntKind} {xs : List Int} {b0 st i e : Nat} {y : Value} (h : TV w I m L (.fp ks xs b0 st i e) y) :
    ∃ b off, y = .pointer (some ⟨b, off + (b0 + i * st), none⟩) ∧ I b ∧ b < w.heap.size ∧ ks ≠ [] ∧ b0 + i * st + e ≤ xs.length ∧ FlatAt w b off ks xs := by
  cases h with | fp hI hb hk he h => exact ⟨_, _, rfl, hI, hb, hk, he, h⟩
theorem TV.sp_inv {cs : List T} {i : Nat} {y : Value} (h : TV w I m L (.sp cs i) y) :
    ∃ b off vs, y = .pointer (some ⟨b, off + i, none⟩) ∧ I b ∧ b < w.heap.size ∧ TVs w I m L cs vs ∧ CellsAt w b off vs := by
  cases h with | sp hI hb hv h => exact ⟨_, _, _, rfl, hI, hb, hv, h⟩
end

theorem mul_lt_of {i n s : Nat} (h : i < n) : i * s + s ≤ n * s := by
  have : (i + 1) * s ≤ n * s := Nat.mul_le_mul_right s h
  rw [Nat.add_mul, Nat.one_mul] at this; exact this

theorem idxN_mul {j q st s : Nat} (h : st % s = 0) : idxN j (st / s) q * s = j * st + q * s := by
  rw [idxN_eq, Nat.add_mul, Nat.mul_assoc, Nat.div_mul_cancel (Nat.dvd_of_mod_eq_zero h)]
section
variable {P : Program} {w : World} {I : Nat → Prop} {m : Nat → Option Nat} {g : Mem}
theorem indexAddrT_ok {t : TypeId} {x i : T} {lit : Bool} {vx vi : Value} {o : Out} (h : indexAddrT P g t x i lit = some o) (ho : o.ok)
    (hx : TV w I m (lens g) x vx) (hi : TV w I m (lens g) i vi) : PureOk P (Instr.indexAt t vx vi) w I m (lens g) o := by
  unfold indexAddrT at h
  split at h
  · -- fl
    rename_i e ks n xs kd q hu
    obtain ⟨rfl, -⟩ := hi.v_inv
    split at h
    · rename_i s hs
      split at h
      · rename_i hsk; rw [Nat.beq_eq] at hsk
        refine pureC h ho fun hq => ?_
        rcases hx.fl_inv with ⟨rfl, rfl, a, cap, rfl⟩ | ⟨b, off, cap, rfl, hI, hb, hk, hn, hc, hp, hf⟩
        · omega
        · refine ⟨_, run_indexAt_slice hu hs hq.1 hq.2, ?_⟩
          rw [show off + q.toNat * s = off + (0 + q.toNat * s) by omega]
          refine .fp hI hb hk ?_ hf
          have := mul_lt_of (s := s) (show q.toNat < n by omega)
          rw [hn, ← hsk]; omega
      · cases h
    · cases h
  · -- sl
    rename_i e n sz cs kd q hu
    obtain ⟨rfl, -⟩ := hi.v_inv
    split at h
    · rename_i s hs
      split at h
      · refine pureC h ho fun hq => ?_
        rcases hx.sl_inv with ⟨rfl, rfl, a, cap, rfl⟩ | ⟨b, off, cap, vs, rfl, hI, hb, hn, hc, hp, hv, hf⟩
        · omega
        · exact ⟨_, run_indexAt_slice hu hs hq.1 hq.2, .sp hI hb hv hf⟩
      · cases h
    · cases h
  · -- os
    rename_i e k sz off n kd q hu
    obtain ⟨rfl, -⟩ := hi.v_inv
    split at h
    · rename_i s hs
      split at h
      · rename_i hsk
        simp only [Bool.and_eq_true, Nat.beq_eq] at hsk
        obtain ⟨hsk, hal⟩ := hsk
        obtain ⟨l, hl⟩ := alive_lens hal
        refine pureC h ho fun hq => ?_
        obtain ⟨hz, hle, h3⟩ := hx.os_inv hl
        rcases h3 with ⟨rfl, a, rfl⟩ | ⟨cap, bb, hm, rfl, hc, hr⟩
        · omega
        · refine ⟨_, run_indexAt_slice hu hs hq.1 hq.2, ?_⟩
          subst hsk
          rw [show addN off q.toNat = off + q.toNat from by unfold addN; cases e : Nat.beq off 0 with | false => rfl | true => rw [Nat.eq_of_beq_eq_true e]; simp]
          rw [show off * s + q.toNat * s = 0 + (off + q.toNat) * s by rw [Nat.add_mul]; omega]
          refine .op hl hm ?_
          have := mul_lt_of (s := s) (show off + q.toNat < off + n by omega)
          omega
      · cases h
    · cases h
  · -- array behind fp
    rename_i n e ks xs b st j wd kd q hu
    obtain ⟨rfl, -⟩ := hi.v_inv
    split at h
    · rename_i s hs
      obtain ⟨bb, off, rfl, hI, hb, hk, he, hf⟩ := hx.fp_inv
      cases lit
      · simp only [cond_false] at h
        split at h
        · rename_i hc
          simp only [Bool.and_eq_true, Nat.beq_eq, Nat.ble_eq] at hc
          obtain ⟨h0, hc⟩ := hc
          have e := idxN_mul (j := j) (q := q.toNat) h0
          refine pureC h ho fun hq => ?_
          refine ⟨_, run_indexAt_array hu hs hq.1 hq.2, ?_⟩
          rw [show off + (b + j * st) + q.toNat * s = off + (b + idxN j (st / s) q.toNat * s) by omega]
          refine .fp hI hb hk ?_ hf
          have := mul_lt_of (s := s) (show q.toNat < n by omega)
          omega
        · cases h
      · simp only [cond_true] at h
        split at h
        · rename_i hc
          rw [Nat.ble_eq, Nat.add_mul] at hc
          refine pureC h ho fun hq => ?_
          refine ⟨_, run_indexAt_array hu hs hq.1 hq.2, ?_⟩
          rw [show off + (b + j * st) + q.toNat * s = off + (b + q.toNat * s + j * st) by omega]
          exact .fp hI hb hk (by omega) hf
        · cases h
    · cases h
  · -- array behind sp
    rename_i n e cs j kd q hu
    obtain ⟨rfl, -⟩ := hi.v_inv
    split at h
    · rename_i s hs
      obtain ⟨bb, off, vs, rfl, hI, hb, hv, hf⟩ := hx.sp_inv
      refine pureC h ho fun hq => ⟨_, run_indexAt_array hu hs hq.1 hq.2, ?_⟩
      rw [Nat.add_assoc]
      exact .sp hI hb hv hf
    · cases h
  · -- array behind op
    rename_i n e k b st j wd kd q hu
    obtain ⟨rfl, -⟩ := hi.v_inv
    split at h
    · rename_i s hs
      split at h
      · rename_i hal
        obtain ⟨l, hl⟩ := alive_lens hal
        obtain ⟨hle, bo, hm, rfl⟩ := hx.op_inv hl
        cases lit
        · simp only [cond_false] at h
          split at h
          · rename_i hc
            simp only [Bool.and_eq_true, Nat.beq_eq, Nat.ble_eq] at hc
            obtain ⟨h0, hc⟩ := hc
            have e := idxN_mul (j := j) (q := q.toNat) h0
            refine pureC h ho fun hq => ⟨_, run_indexAt_array hu hs hq.1 hq.2, ?_⟩
            rw [show b + j * st + q.toNat * s = b + idxN j (st / s) q.toNat * s by omega]
            refine .op hl hm ?_
            have := mul_lt_of (s := s) (show q.toNat < n by omega)
            omega
          · cases h
        · simp only [cond_true] at h
          split at h
          · rename_i hc
            rw [Nat.ble_eq, Nat.add_mul] at hc
            refine pureC h ho fun hq => ⟨_, run_indexAt_array hu hs hq.1 hq.2, ?_⟩
            rw [show b + j * st + q.toNat * s = b + q.toNat * s + j * st by omega]
            exact .op hl hm (by omega)
          · cases h
      · cases h
    · cases h
  · cases h

theorem run_fieldAt {t : TypeId} {fs : Array Field} {fd : Field} {s b off f : Nat} (hu : P.underlying t = some (.struct fs)) (hf : fs[f]? = some fd) (hs : sz? P fd.type = some (s + 1)) :
    (Instr.fieldAt t (.pointer (some ⟨b, off, none⟩)) f).run P w = .ok (.pointer (some ⟨b, off + fd.offset, none⟩)) w := by
  simp [Instr.fieldAt, run_underlying, hu, hf, Instr.sureAddr, fieldPlace, sz_some hs, add_at]
theorem fieldAddrT_ok {t : TypeId} {x : T} {f : Nat} {vx : Value} {o : Out} (h : fieldAddrT P g t x f = some o) (hx : TV w I m (lens g) x vx) : PureOk P (Instr.fieldAt t vx f) w I m (lens g) o := by
  unfold fieldAddrT at h
  split at h
  · rename_i fs hu
    split at h
    · rename_i fd hf
      split at h
      · rename_i s hs
        split at h
        · rename_i ks xs b st i wd
          split at h
          · rename_i hc; rw [Nat.ble_eq] at hc
            obtain ⟨bb, off, rfl, hI, hb, hk, he, hfl⟩ := hx.fp_inv
            refine pureO h ⟨_, run_fieldAt hu hf hs, ?_⟩
            rw [show off + (b + i * st) + fd.offset = off + (b + fd.offset + i * st) by omega]
            exact .fp hI hb hk (by omega) hfl
          · cases h
        · rename_i cs j
          obtain ⟨bb, off, vs, rfl, hI, hb, hv, hfl⟩ := hx.sp_inv
          refine pureO h ⟨_, run_fieldAt hu hf hs, ?_⟩
          rw [Nat.add_assoc]
          exact .sp hI hb hv hfl
        · rename_i k b st i wd
          split at h
          · rename_i hc
            rw [Bool.and_eq_true, Nat.ble_eq] at hc
            obtain ⟨l, hl⟩ := alive_lens hc.1
            obtain ⟨hle, bo, hm, rfl⟩ := hx.op_inv hl
            refine pureO h ⟨_, run_fieldAt hu hf hs, ?_⟩
            rw [show b + i * st + fd.offset = b + fd.offset + i * st by omega]
            exact .op hl hm (by omega)
          · cases h
        · cases h
      · cases h
    · cases h
  · cases h

theorem sameK_getD {k : IntKind} : ∀ {r : List IntKind}, sameK k r = true → ∀ i, i < r.length → r.getD i .i64 = k
  | [], _, i, h => by simp at h
  | x :: r, hs, 0, _ => by
    simp only [sameK, Bool.and_eq_true] at hs
    exact eq_of_beq hs.1
  | x :: r, hs, i + 1, h => by
    simp only [sameK, Bool.and_eq_true] at hs
    have := sameK_getD hs.2 i (by simpa using h)
    simpa using this
theorem sameK_kc {k : IntKind} {r : List IntKind} (hs : sameK k r = true) (i : Nat) : kc (k :: r) i = k := by
  unfold kc
  have hl : i % (k :: r).length < (k :: r).length := Nat.mod_lt _ (by simp)
  exact sameK_getD (r := k :: r) (by simp only [sameK, Bool.and_eq_true]; exact ⟨beq_self_eq_true k, hs⟩) _ hl
theorem kat_kc (ks : List IntKind) (b st i : Nat) : kat ks b st i = kc ks (b + i * st) := by
  unfold kat
  split
  · rename_i k
    unfold kc
    simp [Nat.mod_one]
  · rename_i k r hr
    split
    · rename_i h; rw [Nat.beq_eq] at h; subst h; unfold kc; rw [Nat.add_mul_mod_self_right]
    · cases hs : sameK k r
      · rfl
      · exact (sameK_kc hs _).symm
  · rfl
theorem loadCells_ok {a : Addr} {vs : List Value} (n : Nat) (hn : n ≤ vs.length) (h : ∀ i v, vs[i]? = some v → w.cell? (a.add i) = some v) :
    (loadCells a n).run P w = .ok (vs.take n).toArray w := by
  have key : ∀ (n i : Nat) (acc : Array Value), i + n ≤ vs.length → (loadCellsFrom a i n acc).run P w = .ok (acc ++ ((vs.drop i).take n).toArray) w := by
    intro n
    induction n with
    | zero => intro i acc _; simp [loadCellsFrom]
    | succ n ih =>
      intro i acc hi
      have hlt : i < vs.length := by omega
      have hv := h i vs[i] (List.getElem?_eq_getElem hlt)
      simp only [loadCellsFrom, Sem.run_bind, run_load, hv, Result.andThen_ok]
      rw [ih (i + 1) _ (by omega)]
      congr 1
      apply Array.ext'
      simp only [Array.toList_append, Array.toList_push, List.append_assoc]
      congr 1
      rw [List.drop_eq_getElem_cons hlt]
      rfl
  unfold loadCells
  rw [key n 0 #[] (by omega)]
  simp

def flatVals (ks : List IntKind) (xs : List Int) (b st i : Nat) : Nat → Nat → List Value
  | 0, _ => []
  | n + 1, j => .int (kat ks (b + j) st i) (xs.getD (b + i * st + j) 0) :: flatVals ks xs b st i n (j + 1)
theorem flatVals_get (ks : List IntKind) (xs : List Int) (b st i : Nat) : ∀ (n j q : Nat), q < n → (flatVals ks xs b st i n j)[q]? = some (.int (kc ks (b + i * st + (j + q))) (xs.getD (b + i * st + (j + q)) 0)) := by
  intro n
  induction n with
  | zero => intro j q h; omega
  | succ n ih =>
    intro j q h
    cases q with
    | zero => simp only [flatVals, List.getElem?_cons_zero, kat_kc, Nat.add_zero]; rw [show b + j + i * st = b + i * st + j by omega]
    | succ q => simp only [flatVals, List.getElem?_cons_succ]; rw [ih (j + 1) q (by omega)]; rw [show j + 1 + q = j + (q + 1) by omega]
theorem flatVals_length (ks : List IntKind) (xs : List Int) (b st i : Nat) : ∀ (n j : Nat), (flatVals ks xs b st i n j).length = n := by
  intro n; induction n with
  | zero => intro j; rfl
  | succ n ih => intro j; simp [flatVals, ih]
theorem flatCells_vals {L : Nat → Option (Option Nat)} (ks : List IntKind) (xs : List Int) (b st i : Nat) : ∀ (n j : Nat), TVs w I m L (flatCells ks xs b st i n j) (flatVals ks xs b st i n j) := by
  intro n; induction n with
  | zero => intro j; exact .nil
  | succ n ih => intro j; exact .cons (.v rfl) (ih _)

theorem loadFlat_ok {t : TypeId} {ks : List IntKind} {xs : List Int} {b0 st i wd bb off : Nat} {r : T} {L : Nat → Option (Option Nat)} (h : loadFlat P t ks xs b0 st i wd = some r) (he : b0 + i * st + wd ≤ xs.length)
    (hf : FlatAt w bb off ks xs) : ∃ v, (Instr.loadAt t (.pointer (some ⟨bb, off + (b0 + i * st), none⟩))).run P w = .ok v w ∧ TV w I m L r v := by
  have hcell : ∀ q, q < wd → w.cell? ((⟨bb, off + (b0 + i * st), none⟩ : Addr).add q) = some (.int (kc ks (b0 + i * st + (0 + q))) (xs.getD (b0 + i * st + (0 + q)) 0)) := by
    intro q hq
    rw [add_at, Nat.add_assoc off, Nat.zero_add]
    have hlt : b0 + i * st + q < xs.length := by omega
    rw [hf _ _ (List.getElem?_eq_getElem hlt), List.getD_eq_getElem?_getD, List.getElem?_eq_getElem hlt]; rfl
  unfold loadFlat at h
  split at h
  · rename_i s ha hs
    split at h
    · rename_i hc; rw [Nat.ble_eq] at hc
      cases h
      refine ⟨.agg (flatVals ks xs b0 st i s 0).toArray, ?_, .agg (by simpa using flatCells_vals ks xs b0 st i s 0)⟩
      have hl := loadCells_ok (P := P) (w := w) (a := ⟨bb, off + (b0 + i * st), none⟩) (vs := flatVals ks xs b0 st i s 0) s (by rw [flatVals_length]; exact Nat.le_refl _) (fun q v hv => by
        have hq : q < s := by have := (List.getElem?_eq_some_iff.1 hv).1; rwa [flatVals_length] at this
        rw [flatVals_get _ _ _ _ _ _ _ _ hq] at hv; cases hv
        exact hcell q (by omega))
      rw [List.take_of_length_le (by rw [flatVals_length]; exact Nat.le_refl _)] at hl
      simp [Instr.loadAt, Instr.sureAddr, loadVar, agg_some ha, sz_some hs, hl]
    · cases h
  · rename_i ha
    split at h
    · rename_i hc; rw [Nat.ble_eq] at hc
      cases h
      refine ⟨_, ?_, .v rfl⟩
      have := hcell 0 (by omega)
      rw [add_at, Nat.add_zero, Nat.zero_add, Nat.add_zero, ← kat_kc] at this
      simp [Instr.loadAt, Instr.sureAddr, loadVar, agg_some ha, this]
    · cases h
  · cases h
theorem loadCellsT_ok {t : TypeId} {cs : List T} {vs : List Value} {i bb off : Nat} {r : T} {L : Nat → Option (Option Nat)} (h : loadCellsT P t cs i = some r) (hv : TVs w I m L cs vs)
    (hf : CellsAt w bb off vs) : ∃ v, (Instr.loadAt t (.pointer (some ⟨bb, off + i, none⟩))).run P w = .ok v w ∧ TV w I m L r v := by
  unfold loadCellsT at h
  split at h
  · rename_i s ha hs
    split at h
    · rename_i hc; rw [Nat.ble_eq] at hc
      cases h
      have hlen := hv.length
      refine ⟨.agg ((vs.drop i).take s).toArray, ?_, .agg (by simpa using (hv.drop i).take s)⟩
      have hl := loadCells_ok (P := P) (w := w) (a := ⟨bb, off + i, none⟩) (vs := vs.drop i) s (by simp; omega) (fun q v hq => by
        rw [add_at, Nat.add_assoc]; rw [List.getElem?_drop] at hq; exact hf _ _ hq)
      simp [Instr.loadAt, Instr.sureAddr, loadVar, agg_some ha, sz_some hs, hl]
    · cases h
  · rename_i ha
    obtain ⟨v, h1, h2⟩ := hv.get h
    refine ⟨v, ?_, h2⟩
    simp [Instr.loadAt, Instr.sureAddr, loadVar, agg_some ha, hf _ _ h1]
  · cases h
theorem loadT_ok {w0 O} (hr : HR w0 w O m g) {t : TypeId} {x r : T} {vx : Value} (h : loadT P g t x = some r) (hx : TV w (Im m g) m (lens g) x vx) :
    ∃ v, (Instr.loadAt t vx).run P w = .ok v w ∧ TV w (Im m g) m (lens g) r v := by
  unfold loadT at h
  split at h
  · obtain ⟨bb, off, rfl, hI, hb, hk, he, hf⟩ := hx.fp_inv; exact loadFlat_ok h he hf
  · obtain ⟨bb, off, vs, rfl, hI, hb, hv, hf⟩ := hx.sp_inv; exact loadCellsT_ok h hv hf
  · rename_i k b st i wd
    split at h
    · rename_i ks xs e
      obtain ⟨hle, bo, hm, rfl⟩ := hx.op_inv (lens_of e)
      have hb := hr.blk k _ e
      rw [hm] at hb
      have := loadFlat_ok (bb := bo) (off := 0) (w := w) (I := Im m g) (m := m) (L := lens g) h hle hb.2.2.2
      rwa [Nat.zero_add] at this
    · rename_i cs e
      obtain ⟨hle, bo, hm, rfl⟩ := hx.op_inv (lens_of e)
      have hb := hr.blk k _ e
      rw [hm] at hb
      obtain ⟨vs, hv, _, _, hf⟩ := hb
      have := loadCellsT_ok (bb := bo) (off := 0) (w := w) h hv hf
      rwa [Nat.zero_add] at this
    · cases h
  · cases h
theorem nilT_ok {x : T} {vx : Value} {o : Out} (h : nilT g x = some o) (hx : TV w I m (lens g) x vx) {op : Operand} {ρ : Operand → Value} (hρ : ρ op = vx) :
    (∃ v, (execOp ρ ⟨none, .nilCheck op, 0, "", #[], none⟩).run P w = .ok (.value v) w ∧ o.up = [] ∧ TV w I m (lens g) o.t v) := by
  have key : ∀ v, TV w I m (lens g) x v → o = ⟨none, x, []⟩ → (execOp ρ ⟨none, .nilCheck op, 0, "", #[], none⟩).run P w = .ok (.value v) w →
      (∃ v, (execOp ρ ⟨none, .nilCheck op, 0, "", #[], none⟩).run P w = .ok (.value v) w ∧ o.up = [] ∧ TV w I m (lens g) o.t v) := by
    rintro v hv rfl hr; exact ⟨v, hr, rfl, hv⟩
  unfold nilT at h
  split at h
  · cases h; obtain ⟨bb, off, rfl, _⟩ := hx.fp_inv; exact key _ hx rfl (by simp [execOp, hρ])
  · cases h; obtain ⟨bb, off, vs, rfl, _⟩ := hx.sp_inv; exact key _ hx rfl (by simp [execOp, hρ])
  · cases h; cases hx with | ifc hy => exact key _ (.ifc hy) rfl (by simp [execOp, hρ])
  · split at h
    · rename_i hal; cases h
      obtain ⟨l, hl⟩ := alive_lens hal
      obtain ⟨hle, bo, hm, rfl⟩ := hx.op_inv hl
      exact key _ hx rfl (by simp [execOp, hρ])
    · cases h
  · cases h; obtain ⟨rfl, hp⟩ := hx.v_inv; exact key _ hx rfl (by simp [execOp, hρ])
  · cases h; cases hx with | fn ha hc => exact key _ (.fn ha hc) rfl (by simp [execOp, hρ])
  · cases h
end
end Go.Proofs.YtnplgklnkcjmnaaGreatDoor.Am
namespace Go.Proofs.YtnplgklnkcjmnaaGreatDoor.Am
set_option linter.unusedVariables false
set_option linter.unusedSimpArgs false
open Go.RowKit

/-- An operation that may turn memory does what o says. -/
def StepOk (P : Program) (s : Sem Value) (w0 w : World) (O : Env) (m : Nat → Option Nat) (g : Mem) (o : Out) : Prop :=
  ∃ v w' m', s.run P w = .ok v w' ∧ HR w0 w' O m' (upd g o.up) ∧ Goes w w' (Im m g) (Im m' (upd g o.up)) m m' (lens g) (lens (upd g o.up)) ∧
    TV w' (Im m' (upd g o.up)) m' (lens (upd g o.up)) o.t v

section
variable {P : Program} {w0 w : World} {O : Env} {m : Nat → Option Nat} {g : Mem}

theorem Goes.refl (h : HR w0 w O m g) : Goes w w (Im m g) (Im m g) m m (lens g) (lens g) := Goes.of_below (Below.refl _ _) h
theorem StepOk.pure (h : HR w0 w O m g) {s : Sem Value} {o : Out} (hp : PureOk P s w (Im m g) m (lens g) o) : StepOk P s w0 w O m g o := by
  obtain ⟨v, h1, h2, h3⟩ := hp
  obtain ⟨c, t, up⟩ := o
  cases h2
  exact ⟨v, w, m, h1, h, Goes.refl h, h3⟩

theorem cell_new' (w : World) (c : Array Value) (e : TypeId) (i : Nat) : (w.alloc (.cells c e)).cell? ⟨w.heap.size, i, none⟩ = c[i]? := by
  simp only [World.cell?, World.alloc, Array.getElem?_push_size, Option.isSome_none, Bool.false_eq_true, if_false]
theorem frozen_new' (w : World) (c : Array Value) (e : TypeId) (i : Nat) : (w.alloc (.cells c e)).frozen? ⟨w.heap.size, i, none⟩ = false := by
  simp only [World.frozen?, World.alloc, Array.getElem?_push_size]; simp
theorem room_new' (w : World) (c : Array Value) (e : TypeId) (n : Nat) (h : n ≤ c.size) : Room (w.alloc (.cells c e)) w.heap.size n :=
  ⟨.cells c e, Array.getElem?_push_size, h⟩
theorem below_new (w : World) (o : Obj) : Below w.heap.size w (w.alloc o) := (Below.refl _ _).alloc (Nat.le_refl _) _

/-- A block may be told of these cells. -/
def BlkFor (cs : List T) (b : Blk) : Prop :=
  b = .cs cs ∨ ∃ ks xs k0, ints? cs = some (ks, xs) ∧ k0 ≠ [] ∧ (∀ i k, ks[i]? = some k → kc k0 i = k) ∧ b = .fl k0 xs
theorem perKs_ok {k0 : List IntKind} : ∀ {ks : List IntKind} {i : Nat}, perKs k0 i ks = true → ∀ j k, ks[j]? = some k → kc k0 (i + j) = k := by
  intro ks
  induction ks with
  | nil => intro i _ j k h; simp at h
  | cons a ks ih =>
    intro i h j k hj
    simp only [perKs, Bool.and_eq_true, decide_eq_true_eq] at h
    cases j with
    | zero => simp at hj; rw [Nat.add_zero, ← h.1, hj]
    | succ j => simp at hj; have := ih h.2 j k hj; rwa [Nat.add_assoc, Nat.add_comm 1 j] at this
theorem blkS_for (sz : Nat) (cs : List T) : BlkFor cs (blkS sz cs) := by
  unfold blkS
  split
  · rename_i k ks xs e
    split
    · rename_i hp
      exact .inr ⟨_, _, _, e, by simp, fun i k h => by have := perKs_ok hp i k h; rwa [Nat.zero_add] at this, rfl⟩
    · exact .inl rfl
  · exact .inl rfl

/-- A new block with these cells. -/
theorem newBlk (h : HR w0 w O m g) {k : Nat} (hk : g k = none) {cs : List T} {vs : List Value} (hv : TVs w (Im m g) m (lens g) cs vs) (e : TypeId) (rest : List Value) {B : Blk} (hB : BlkFor cs B) :
    let w' := w.alloc (.cells (vs ++ rest).toArray e); let g' := upd g [(k, B)]; let m' := mk1 m k (some w.heap.size)
    HR w0 w' O m' g' ∧ Goes w w' (Im m g) (Im m' g') m m' (lens g) (lens g') ∧ lens g' k = some (some cs.length) ∧ m' k = some w.heap.size ∧ Room w' w.heap.size (vs.length + rest.length) := by
  intro w' g' m'
  have hb : Below w.heap.size w w' := below_new _ _
  have G : Goes w w' (Im m g) (Im m' g') m m' (lens g) (lens g') := Goes.new h hb hk (fun q hq => by cases hq; exact Nat.le_refl _)
  have hroom : ∀ n, n ≤ vs.length + rest.length → Room w' w.heap.size n := fun n hn => room_new' _ _ _ _ (by simpa using hn)
  have hfrz : NoFrz w' w.heap.size := fun o => frozen_new' _ _ _ _
  have hcell : ∀ i v, vs[i]? = some v → w'.cell? ⟨w.heap.size, i, none⟩ = some v := fun i v hi => by
    have hlt : i < vs.length := (List.getElem?_eq_some_iff.1 hi).1
    rw [cell_new']; simp [List.getElem?_append_left hlt, hi]
  have hlen := hv.length
  have hbl : B.len? = some cs.length ∧ BVb O w' (Im m' g') m' (lens g') B w.heap.size := by
    rcases hB with rfl | ⟨ks, xs, k0, e0, hk0, hkc, rfl⟩
    · exact ⟨rfl, vs, hv.goes G, hroom _ (by omega), hfrz, fun i v hi => by rw [Nat.zero_add]; exact hcell _ _ hi⟩
    · obtain ⟨a1, a2, a3⟩ := ints_inv e0 hv
      refine ⟨by simp [Blk.len?]; omega, hk0, hroom _ (by omega), hfrz, fun i x hx => ?_⟩
      obtain ⟨k1, b1, b2⟩ := a3 i x hx
      rw [Nat.zero_add, hkc i k1 b1]
      exact hcell _ _ b2
  refine ⟨h.newB hb hk (fun q hq => by cases hq; exact Nat.le_refl _) hbl.2, G, ?_, if_pos rfl, hroom _ (Nat.le_refl _)⟩
  rw [lens_upd, if_pos rfl, hbl.1]

theorem plain_TVs {I : Nat → Prop} {L : Nat → Option (Option Nat)} {cs : List Value} (h : cs.all plain = true) : TVs w I m L (cs.map .v) cs := by
  induction cs with
  | nil => exact .nil
  | cons c cs ih => simp only [List.all_cons, Bool.and_eq_true] at h; exact .cons (.v h.1) (ih h.2)
theorem zeroT_some {I : Nat → Prop} {L : Nat → Option (Option Nat)} {t : TypeId} {cs : List T} (h : zeroT P t = some cs) :
    ∃ z : Value, (zeroValue t).run P w = .ok z w ∧ TVs w I m L cs z.cells.toList := by
  unfold zeroT at h
  split at h
  · rename_i i hi
    split at h
    · rename_i z hz
      simp only at h
      split at h
      · rename_i hp
        cases h
        exact ⟨z, by simp [zeroValue, run_typeInfo, hi, hz], plain_TVs hp⟩
      · cases h
    · cases h
  · cases h

theorem blkT_for (P : Program) (e : TypeId) (cs : List T) : BlkFor cs (blkT P e cs) := by
  unfold blkT; split
  · split
    · exact blkS_for _ cs
    · exact .inl rfl
  · exact .inl rfl
theorem newVarBlk (h : HR w0 w O m g) {key : Nat} (hk : g key = none) {cs : List T} {vs : List Value} (hv : TVs w (Im m g) m (lens g) cs vs) (e : TypeId) {B : Blk} (hB : BlkFor cs B) :
    let w' := w.alloc (.cells vs.toArray e); let g' := upd g [(key, B)]; let m' := mk1 m key (some w.heap.size)
    HR w0 w' O m' g' ∧ Goes w w' (Im m g) (Im m' g') m m' (lens g) (lens g') ∧ TV w' (Im m' g') m' (lens g') (.op key 0 cs.length 0 cs.length) (.pointer (some ⟨w.heap.size, 0, none⟩)) := by
  intro w' g' m'
  obtain ⟨a1, a2, a3, a4, a5⟩ := newBlk h hk hv e [] hB
  rw [List.append_nil] at *
  refine ⟨a1, a2, ?_⟩
  have : TV w' (Im m' g') m' (lens g') (.op key 0 cs.length 0 cs.length) (.pointer (some ⟨w.heap.size, 0 + 0 * cs.length, none⟩)) := TV.op a3 a4 (by omega)
  rw [Nat.zero_mul] at this
  exact this
theorem allocT_ok (h : HR w0 w O m g) {key : Nat} (hk : g key = none) {e : TypeId} {o : Out} (ho : allocT P key e = some o) : StepOk P (Instr.alloc e true (.tuple #[])) w0 w O m g o := by
  unfold allocT at ho
  split at ho
  · rename_i cs hz
    cases ho
    obtain ⟨z, h1, h2⟩ := zeroT_some (w := w) (m := m) (I := Im m g) (L := lens g) hz
    obtain ⟨a1, a2, a3⟩ := newVarBlk h hk h2 e (blkT_for P e cs)
    exact ⟨_, _, _, by simp [Instr.alloc, h1, newVar, newRow], a1, a2, a3⟩
  · cases ho

theorem cells_TVs {I : Nat → Prop} {L : Nat → Option (Option Nat)} {x : T} {vx : Value} (h : TV w I m L x vx) (hc : x.cells.all T.cell = true) : TVs w I m L x.cells vx.cells.toList := by
  cases h
  case agg h => exact h
  case v hp => cases vx <;> first | (simp [T.cells, T.cell] at hc; done) | exact .cons (.v hp) .nil
  case fl0 => exact .cons .fl0 .nil
  case fl h1 h2 h3 h4 h5 h6 h7 => exact .cons (.fl h1 h2 h3 h4 h5 h6 h7) .nil
  case fp h1 h2 h3 h4 h5 => exact .cons (.fp h1 h2 h3 h4 h5) .nil
  case sl0 => exact .cons .sl0 .nil
  case sl h1 h2 h3 h4 h5 h6 h7 => exact .cons (.sl h1 h2 h3 h4 h5 h6 h7) .nil
  case sp h1 h2 h3 h4 => exact .cons (.sp h1 h2 h3 h4) .nil
  case osx h1 => exact .cons (.osx h1) .nil
  case os0 h1 h2 h3 => exact .cons (.os0 h1 h2 h3) .nil
  case os h1 h2 h3 h4 h5 h6 => exact .cons (.os h1 h2 h3 h4 h5 h6) .nil
  case ow h1 h2 => have := TV.ow h2 h1; cases h2 <;> exact .cons this .nil
  case opx h1 => exact .cons (.opx h1) .nil
  case op h1 h2 h3 => exact .cons (.op h1 h2 h3) .nil
  case mpx h1 => exact .cons (.mpx h1) .nil
  case mp h1 h2 => exact .cons (.mp h1 h2) .nil
  case ifc h1 => exact .cons (.ifc h1) .nil
  case fn h1 h2 => exact .cons (.fn h1 h2) .nil
  all_goals (simp [T.cells, T.cell] at hc; done)

theorem boxT_ok (h : HR w0 w O m g) {key : Nat} (hk : g key = none) {e : TypeId} {x : T} {vx : Value} {o : Out} (ho : boxT P key e x = some o) (hx : TV w (Im m g) m (lens g) x vx) :
    StepOk P (Instr.box e vx) w0 w O m g o := by
  unfold boxT at ho
  split at ho
  · rename_i hc
    cases ho
    obtain ⟨a1, a2, a3⟩ := newVarBlk h hk (cells_TVs hx hc) e (blkT_for P e _)
    exact ⟨_, _, _, by simp [Instr.box, newVar, newRow], a1, a2, a3⟩
  · cases ho

/-! ### literals -/
theorem putCells_ok {I : Nat → Prop} {L : Nat → Option (Option Nat)} {cs : List T} {vs : List Value} (h : TVs w I m L cs vs) :
    ∀ {ts : List T} {us : List Value} (off : Nat), TVs w I m L ts us → TVs w I m L (putCells ts off cs) ((us.zipIdx).foldl (fun acc (c, j) => acc.set (off + j) c) vs) := by
  have key : ∀ (ts : List T) (us : List Value) (off n : Nat) (cs : List T) (vs : List Value), TVs w I m L cs vs → TVs w I m L ts us →
      TVs w I m L (putCells ts (off + n) cs) ((us.zipIdx n).foldl (fun acc (c, j) => acc.set (off + j) c) vs) := by
    intro ts
    induction ts with
    | nil => intro us off n cs vs h1 h2; cases h2; exact h1
    | cons t ts ih =>
      intro us off n cs vs h1 h2
      cases h2 with
      | cons hh hr =>
        simp only [putCells, List.zipIdx_cons, List.foldl_cons]
        exact ih _ off (n + 1) _ _ (h1.set hh) hr
  intro ts us off h2
  exact key ts us off 0 cs vs h h2
theorem foldl_set_toList (us : List (Value × Nat)) (off : Nat) : ∀ (a : Array Value), (us.foldl (fun cs (c, j) => cs.setIfInBounds (off + j) c) a).toList = us.foldl (fun acc (c, j) => acc.set (off + j) c) a.toList := by
  induction us with
  | nil => intro a; rfl
  | cons u us ih => intro a; simp only [List.foldl_cons]; rw [ih]; simp
theorem foldl_set_size (us : List (Value × Nat)) (off : Nat) : ∀ (a : Array Value), (us.foldl (fun cs (c, j) => cs.setIfInBounds (off + j) c) a).size = a.size := by
  induction us with
  | nil => intro a; rfl
  | cons u us ih => intro a; simp only [List.foldl_cons]; rw [ih]; simp
theorem fillT_ok {I : Nat → Prop} {L : Nat → Option (Option Nat)} {place : Nat → Option (Nat × Nat)} : ∀ {parts : List (Nat × T)} {vparts : List (Nat × Value)} {cs cs' : List T} {a : Array Value},
    fillT place parts cs = some cs' → TVs w I m L cs a.toList → parts.map (·.1) = vparts.map (·.1) → TVs w I m L (parts.map (·.2)) (vparts.map (·.2)) →
    ∃ a', Instr.fill place a vparts = some a' ∧ TVs w I m L cs' a'.toList := by
  intro parts
  induction parts with
  | nil =>
    intro vparts cs cs' a h1 h2 h3 h4
    cases vparts with
    | nil => cases h1; exact ⟨a, rfl, h2⟩
    | cons v vs => simp at h3
  | cons p parts ih =>
    intro vparts cs cs' a h1 h2 h3 h4
    cases vparts with
    | nil => simp at h3
    | cons v vs =>
      obtain ⟨i, x⟩ := p; obtain ⟨i', vx⟩ := v
      simp only [List.map_cons, List.cons.injEq] at h3
      obtain ⟨rfl, h3⟩ := h3
      cases h4 with
      | cons hx h4 =>
        unfold fillT at h1
        split at h1
        · rename_i off s hp
          split at h1
          · rename_i hc
            simp only [Bool.and_eq_true, Nat.beq_eq, Nat.ble_eq] at hc
            obtain ⟨⟨hc1, hc2⟩, hc3⟩ := hc
            have hcv := cells_TVs hx hc3
            have hl1 := hcv.length
            have hl2 := h2.length
            have hsz : vx.cells.size = s := by rw [← Array.length_toList, ← hl1, hc1]
            have hle : off + vx.cells.size ≤ a.size := by rw [hsz, ← Array.length_toList, ← hl2]; exact hc2
            have h5 := putCells_ok h2 off hcv
            rw [← foldl_set_toList] at h5
            obtain ⟨a', b1, b2⟩ := ih h1 h5 h3 h4
            refine ⟨a', ?_, b2⟩
            unfold Instr.fill
            rw [hp]
            simp only [hsz, ne_eq, not_true_eq_false, false_or, decide_false, Bool.false_or]
            rw [← hsz, if_neg (by simp; omega)]
            rw [← b1]
            congr 1
            rw [← Array.foldl_toList, Array.toList_zipIdx]
          · cases h1
        · cases h1

theorem fieldPlaces_ok {fs : List Field} {pl : List (Nat × Nat)} (h : fieldPlaces P fs = some pl) :
    (fs.mapM fun f => (do pure (f.offset, ← sizeOf f.type) : Sem (Nat × Nat))).run P w = .ok pl w := by
  induction fs generalizing pl with
  | nil => cases h; rfl
  | cons f fs ih =>
    unfold fieldPlaces at h
    split at h
    · rename_i s l e1 e2
      cases h
      rw [List.mapM_cons]
      simp only [Sem.run_bind, sz_some e1, Result.andThen_ok, Sem.run_pure, ih e2]
    · cases h

theorem buildT_ok (h : HR w0 w O m g) {t : TypeId} {parts : List (Nat × T)} {vparts : Array (Nat × Value)} {o : Out} (ho : buildT P t parts = some o)
    (h3 : parts.map (·.1) = vparts.toList.map (·.1)) (h4 : TVs w (Im m g) m (lens g) (parts.map (·.2)) (vparts.toList.map (·.2))) :
    StepOk P (Instr.build t vparts) w0 w O m g o := by
  unfold buildT at ho
  split at ho
  · cases ho
  · rename_i zs hz
    obtain ⟨z, z1, z2⟩ := zeroT_some (w := w) (m := m) (I := Im m g) (L := lens g) hz
    split at ho
    · rename_i fs hu
      split at ho
      · rename_i pl hp
        split at ho
        · rename_i cs hf
          cases ho
          obtain ⟨a', b1, b2⟩ := fillT_ok hf z2 h3 h4
          refine StepOk.pure h ⟨.agg a', ?_, rfl, .agg b2⟩
          have hpl := fieldPlaces_ok (w := w) hp
          simp only [Instr.build, Sem.run_bind, z1, Result.andThen_ok, run_underlying, hu]
          rw [Array.mapM_eq_mapM_toList, Sem.run_map, hpl]
          simp only [Result.andThen_ok]
          have : (fun i : Nat => pl.toArray[i]?) = fun i => pl[i]? := by funext i; simp
          rw [this, b1]
          rfl
        · cases ho
      · cases ho
    · rename_i n e hu
      split at ho
      · rename_i s hs
        split at ho
        · rename_i cs hf
          cases ho
          obtain ⟨a', b1, b2⟩ := fillT_ok hf z2 h3 h4
          refine StepOk.pure h ⟨.agg a', ?_, rfl, .agg b2⟩
          simp [Instr.build, z1, run_underlying, hu, sz_some hs, b1]
        · cases ho
      · cases ho
    · cases ho

theorem rep_ok {I : Nat → Prop} {L : Nat → Option (Option Nat)} {zs : List T} {vs : List Value} (h : TVs w I m L zs vs) : ∀ n, TVs w I m L (rep n zs) (List.replicate n vs).flatten := by
  intro n
  induction n with
  | zero => exact .nil
  | succ n ih => rw [List.replicate_succ, List.flatten_cons]; exact h.append ih
theorem flatten_rep {α : Type} [Inhabited α] (vs : List α) (s n : Nat) (hs : vs.length = s) (h0 : 0 < s) : (List.replicate n vs).flatten = (List.range (n * s)).map fun i => vs[i % s]! := by
  induction n with
  | zero => simp
  | succ n ih =>
    rw [List.replicate_succ', List.flatten_append, ih, Nat.add_mul, Nat.one_mul, List.range_add, List.map_append]
    congr 1
    simp only [List.flatten_cons, List.flatten_nil, List.append_nil, List.map_map]
    apply List.ext_getElem
    · simp [hs]
    · intro i h1 h2
      simp only [List.getElem_map, List.getElem_range, Function.comp]
      rw [Nat.add_comm (n * s), Nat.add_mul_mod_self_right, Nat.mod_eq_of_lt (by omega), getElem!_pos vs i h1]

theorem buildSliceT_ok (h : HR w0 w O m g) {key : Nat} (hk : g key = none) {t : TypeId} {len : Nat} {parts : List (Nat × T)} {vparts : Array (Nat × Value)} {o : Out} (ho : buildSliceT P key t len parts = some o)
    (h3 : parts.map (·.1) = vparts.toList.map (·.1)) (h4 : TVs w (Im m g) m (lens g) (parts.map (·.2)) (vparts.toList.map (·.2))) :
    StepOk P (Instr.buildSlice t len vparts) w0 w O m g o := by
  unfold buildSliceT at ho
  split at ho
  · rename_i e hu
    split at ho
    · rename_i s zs hs hz
      obtain ⟨z, z1, z2⟩ := zeroT_some (w := w) (m := m) (I := Im m g) (L := lens g) hz
      split at ho
      · rename_i hc
        rw [Bool.and_eq_true, Nat.beq_eq, Nat.ble_eq] at hc
        split at ho
        · rename_i cs hf
          cases ho
          have hzl : z.cells.size = s + 1 := by rw [← Array.length_toList, ← z2.length, hc.1]
          have hr := rep_ok z2 len
          rw [flatten_rep _ (s + 1) _ (by rw [Array.length_toList, hzl]) (by omega)] at hr
          have hr' : TVs w (Im m g) m (lens g) (rep len zs) ((Array.range (len * (s + 1))).map fun i => z.cells[i % (s + 1)]!).toList := by
            have e2 : (((Array.range (len * (s + 1))).map fun i => z.cells[i % (s + 1)]!).toList) = (List.range (len * (s + 1))).map fun i => z.cells.toList[i % (s + 1)]! := by
              rw [Array.toList_map, Array.toList_range]
              apply List.map_congr_left; intro i _
              cases z.cells; simp
            rw [e2]; exact hr
          obtain ⟨a', b1, b2⟩ := fillT_ok hf hr' h3 h4
          obtain ⟨a1, a2, a3, a4, a5⟩ := newBlk h hk b2 e [] (blkS_for (s + 1) cs)
          rw [List.append_nil] at *
          refine ⟨.slice (some ⟨w.heap.size, 0, none⟩) len len, _, _, ?_, a1, a2, ?_⟩
          · by_cases h0 : len = 0
            · subst h0
              have e0 : ∀ f : Nat → Value, Array.map f (Array.range 0) = #[] := fun f => by apply Array.ext'; simp
              rw [Nat.zero_mul, e0] at b1
              simp only [Instr.buildSlice, Sem.run_bind, run_underlying, hu, Result.andThen_ok, sz_some hs, Nat.zero_mul, show ¬ (0 > 2 ^ 24) by decide, if_false, if_true, Sem.run_pure, e0, b1, newRow, run_newObj]
              rfl
            · have h1 : ¬ 2 ^ 24 < len * (s + 1) := by omega
              have h2 : ¬ (len * (s + 1) = 0) := by
                intro e; rcases Nat.mul_eq_zero.1 e with e | e <;> omega
              have b1' : Instr.fill (fun i => some (i * (s + 1), s + 1)) ((Array.range (len * (s + 1))).map fun x => z.cells[x % z.cells.size]!) vparts.toList = some a' := by rw [hzl]; exact b1
              simp only [Instr.buildSlice, Sem.run_bind, run_underlying, hu, Result.andThen_ok, sz_some hs, if_neg (show ¬ (len * (s + 1) > 2 ^ 24) from h1), if_neg h2, z1, Sem.run_pure, b1', newRow, run_newObj]
              rfl
          · have hlen : cs.length = len * (s + 1) := by
              rw [b2.length, Array.length_toList]
              have : ∀ (ps : List (Nat × Value)) (a b : Array Value), Instr.fill (fun i => some (i * (s + 1), s + 1)) a ps = some b → b.size = a.size := by
                intro ps
                induction ps with
                | nil => intro a b hh; cases hh; rfl
                | cons p ps ih =>
                  intro a b hh
                  unfold Instr.fill at hh
                  simp only at hh
                  split at hh
                  · cases hh
                  · rw [ih _ _ hh, ← Array.foldl_toList, foldl_set_size]
              rw [this _ _ _ b1]; simp
            rw [hlen] at a3
            have e4 := a4
            have := TV.os (w := w.alloc (.cells a'.toList.toArray e)) (I := Im (mk1 m key (some w.heap.size)) (upd g [(key, blkS (s + 1) cs)])) (m := mk1 m key (some w.heap.size)) (off := 0) (n := len) (cap := len) (sz := s + 1) a3 a4 (by rw [Nat.zero_add]; exact Nat.le_refl _) ⟨Nat.le_refl _, Nat.le_trans (Nat.le_mul_of_pos_right len (Nat.succ_pos s)) (Nat.le_trans hc.2 (by decide))⟩ (by omega)
              (by rw [Nat.zero_add]; refine Room.of_cells Array.getElem?_push_size ?_; have := b2.length; rw [hlen] at this; simp at this ⊢; omega)
            rw [Nat.zero_mul] at this
            exact .ow this (.inr a3)
        · cases ho
      · cases ho
    · cases ho
  · cases ho

/-! ### stores -/
theorem cell_one {x : T} {vx : Value} {I : Nat → Prop} {L : Nat → Option (Option Nat)} (h : TV w I m L x vx) (hc : x.cell = true) : vx.oneCell' = true := by
  cases h <;> first
    | rfl
    | (simp [T.cell] at hc; done)
    | skip
  case v hp => cases vx <;> first | rfl | (simp [T.cell] at hc; done)
  case ow h => cases h <;> rfl

theorem setCells_run {b : Nat} : ∀ {ts : List T} {vs : List Value} (w : World) (o j : Nat), Room w b (o + j + vs.length) → NoFrz w b → (∀ v ∈ vs, v.oneCell' = true) →
    ∃ w', (storeCells ⟨b, o, none⟩ vs j).run P w = .ok () w' ∧ OnlyB w w' b ∧ NoFrz w' b ∧
      (∀ q, (q < o + j ∨ o + j + vs.length ≤ q) → w'.cell? ⟨b, q, none⟩ = w.cell? ⟨b, q, none⟩) ∧ ∀ q v, vs[q]? = some v → w'.cell? ⟨b, o + j + q, none⟩ = some v := by
  intro ts vs
  induction vs with
  | nil => intro w o j _ hf _; exact ⟨w, rfl, OnlyB.refl _ _, hf, fun _ _ => rfl, fun q v h => by simp at h⟩
  | cons v vs ih =>
    intro w o j hr hf hv
    obtain ⟨c, e, fz, hc, hl⟩ := hr.cells (by simp only [List.length_cons]; omega)
    have hlt : o + j < c.size := by simp at hl; omega
    have hcell : w.cell? ⟨b, o + j, none⟩ = some c[o + j] := by simp [World.cell?, hc, Array.getElem?_eq_getElem hlt]
    have h1 : (store (⟨b, o + j, none⟩ : Addr) v).run P w = .ok () (w.setCell ⟨b, o + j, none⟩ v) := by
      rw [run_store P w _ v _ (hv v (List.mem_cons_self ..)), hcell]
      simp [hf (o + j)]
    have ob := OnlyB.setCell w ⟨b, o + j, none⟩ v rfl
    have hf1 : NoFrz (w.setCell ⟨b, o + j, none⟩ v) b := fun q => by rw [World.frozen?_setCell]; exact hf q
    obtain ⟨w', a1, a2, a3, a4, a5⟩ := ih (w.setCell ⟨b, o + j, none⟩ v) o (j + 1) (ob.room _ (Room.of_cells hc (by simp at hl; omega))) hf1 (fun u hu => hv u (List.mem_cons_of_mem _ hu))
    refine ⟨w', ?_, ob.trans a2, a3, fun q hq => ?_, fun q u hu => ?_⟩
    · simp only [storeCells, Sem.run_bind, add_at, h1, Result.andThen_ok, a1]
    · simp only [List.length_cons] at hq
      rw [a4 q (by omega)]
      exact World.cell?_setCell_other _ _ _ _ (by intro e; injection e; omega)
    · cases q with
      | zero =>
        simp at hu; subst hu
        rw [Nat.add_zero, a4 (o + j) (by omega)]
        exact World.cell?_setCell_same _ _ _ hcell
      | succ q =>
        simp at hu
        rw [show o + j + (q + 1) = o + (j + 1) + q by omega]
        exact a5 q u hu

theorem setFlat_ok {ks : List IntKind} {b st i : Nat} : ∀ {ts : List T} {vs : List Value} {j : Nat} {xs ys : List Int} {I : Nat → Prop} {L : Nat → Option (Option Nat)}, setFlat ks b st i ts j xs = some ys → TVs w I m L ts vs → b + i * st + j + ts.length ≤ xs.length →
    ys.length = xs.length ∧ (∀ q, (q < b + i * st + j ∨ b + i * st + j + ts.length ≤ q) → ys[q]? = xs[q]?) ∧ ∀ q x, q < ts.length → ys[b + i * st + j + q]? = some x → vs[q]? = some (.int (kc ks (b + i * st + j + q)) x) := by
  intro ts
  induction ts with
  | nil => intro vs j xs ys I L h hv hl; cases h; exact ⟨rfl, fun _ _ => rfl, fun q x hq => by simp at hq⟩
  | cons t ts ih =>
    intro vs j xs ys I L h hv hl
    cases hv with
    | cons ht hv =>
      rename_i v vs
      unfold setFlat at h
      split at h
      · rename_i e; cases e
      · rename_i j xs l0 j2 xs2 k x r e
        cases e
        obtain ⟨rfl, -⟩ := ht.v_inv
        split at h
        · rename_i hk
          simp only [List.length_cons] at hl
          obtain ⟨a1, a2, a3⟩ := ih h hv (by simp; omega)
          refine ⟨by simpa using a1, fun q hq => ?_, fun q y hq hy => ?_⟩
          · simp only [List.length_cons] at hq
            rw [a2 q (by omega), List.getElem?_set_ne (by omega)]
          · cases q with
            | zero =>
              rw [Nat.add_zero, a2 _ (by omega), List.getElem?_set_self (by omega)] at hy
              cases hy
              rw [hk, kat_kc, Nat.add_zero, show b + j + i * st = b + i * st + j by omega]; rfl
            | succ q =>
              simp only [List.length_cons] at hq
              rw [show b + i * st + j + (q + 1) = b + i * st + (j + 1) + q by omega] at hy ⊢
              have := a3 q y (by omega) hy
              simpa using this
        · cases h
      · cases h

theorem storeT_ok (h : HR w0 w O m g) {t : TypeId} {a x : T} {va vx : Value} {o : Out} (ho : storeT P g t a x = some o) (ha : TV w (Im m g) m (lens g) a va) (hx : TV w (Im m g) m (lens g) x vx) :
    ∃ w', (Instr.storeAt t va vx).run P w = .ok () w' ∧ HR w0 w' O m (upd g o.up) ∧ Goes w w' (Im m g) (Im m (upd g o.up)) m m (lens g) (lens (upd g o.up)) ∧ o.t = .dead := by
  unfold storeT at ho
  split at ho
  · rename_i k b st i wd
    split at ho
    · rename_i s hs
      split at ho
      · rename_i hc
        simp only [Bool.and_eq_true, Nat.beq_eq, Nat.ble_eq] at hc
        obtain ⟨⟨hc1, hc2⟩, hc3⟩ := hc
        have hcv := cells_TVs hx hc3
        have hone : ∀ v ∈ vx.cells.toList, v.oneCell' = true := by
          intro v hv
          obtain ⟨q, hq⟩ := List.getElem?_of_mem hv
          obtain ⟨tq, h1, h2⟩ := hcv.get' hq
          exact cell_one h2 (List.all_eq_true.1 hc3 _ (List.mem_of_getElem? h1))
        have hlen : vx.cells.toList.length = s := by rw [← hcv.length, hc1]
        have hsz : vx.cells.size = s := by rw [← Array.length_toList]; exact hlen
        have run : ∀ {w' : World} {bo : Nat}, (storeCells (⟨bo, b + i * st, none⟩ : Addr) vx.cells.toList 0).run P w = .ok () w' →
            (Instr.storeAt t (.pointer (some ⟨bo, b + i * st, none⟩)) vx).run P w = .ok () w' := by
          intro w' bo hw
          simp [Instr.storeAt, Instr.sureAddr, storeVar, sz_some hs, hsz, hw]
        split at ho
        · rename_i ks xs e
          split at ho
          · rename_i ys hset
            cases ho
            have hbv := h.blk k _ e
            have hl := lens_of e
            obtain ⟨hle, bo, hm, rfl⟩ := ha.op_inv hl
            rw [hm] at hbv
            obtain ⟨w', a1, a2, a3, a4, a5⟩ := setCells_run (P := P) (ts := []) (vs := vx.cells.toList) (b := bo) w (b + i * st) 0 (by
              exact hbv.2.1.mono (by rw [hlen]; omega)) hbv.2.2.1 hone
            obtain ⟨b1, b2, b3⟩ := setFlat_ok hset hcv (by rw [hc1]; omega)
            refine ⟨w', run a1, h.setB hl hm a2 (by rw [Blk.len?, b1]) ⟨hbv.1, a2.room _ (by rw [b1]; exact hbv.2.1), a3, fun q y hy => ?_⟩, Goes.setB h hl hm a2 (by rw [Blk.len?, b1]), rfl⟩
            rw [Nat.zero_add]
            rw [hc1] at b2 b3
            rw [hlen] at a4
            by_cases hq : q < b + i * st + 0 ∨ b + i * st + 0 + s ≤ q
            · rw [a4 q hq]
              rw [b2 q hq] at hy
              have := hbv.2.2.2 q y hy
              rwa [Nat.zero_add] at this
            · obtain ⟨d, rfl⟩ : ∃ d, q = b + i * st + 0 + d := ⟨q - (b + i * st), by omega⟩
              exact a5 d _ (b3 d y (by omega) hy)
          · cases ho
        · rename_i cs e
          cases ho
          have hbv := h.blk k _ e
          have hl := lens_of e
          obtain ⟨hle, bo, hm, rfl⟩ := ha.op_inv hl
          rw [hm] at hbv
          obtain ⟨vs, v1, v2, v3, v4⟩ := hbv
          have hlv := v1.length
          obtain ⟨w', a1, a2, a3, a4, a5⟩ := setCells_run (P := P) (ts := []) (vs := vx.cells.toList) (b := bo) w (b + i * st) 0 (by
              exact v2.mono (by rw [hlen]; omega)) v3 hone
          have hll : (setCells x.cells (b + i * st) cs).length = cs.length := by
            have : ∀ (l : List T) (j : Nat) (c : List T), (setCells l j c).length = c.length := by
              intro l; induction l with
              | nil => intro j c; rfl
              | cons t l ih => intro j c; simp [setCells, ih]
            exact this _ _ _
          have G := Goes.setB h hl hm a2 (b := .cs (setCells x.cells (b + i * st) cs)) (by rw [Blk.len?, hll])
          have hnew : TVs w' (Im m (upd g [(k, .cs (setCells x.cells (b + i * st) cs))])) m (lens (upd g [(k, .cs (setCells x.cells (b + i * st) cs))])) (setCells x.cells (b + i * st) cs) ((vx.cells.toList.zipIdx).foldl (fun acc (c, j) => acc.set (b + i * st + j) c) vs) := by
            have e2 : ∀ (l : List T) (j : Nat) (c : List T), setCells l j c = putCells l j c := by
              intro l; induction l with
              | nil => intro j c; rfl
              | cons t l ih => intro j c; simp [setCells, putCells, ih]
            have := putCells_ok (v1.goes G) (b + i * st) (hcv.goes G)
            rwa [← e2] at this
          have hget : ∀ (us : List Value) (n : Nat) (acc : List Value) (q : Nat), b + i * st + n + us.length ≤ acc.length →
              ((us.zipIdx n).foldl (fun acc (c, j) => acc.set (b + i * st + j) c) acc)[q]? = if q < b + i * st + n ∨ b + i * st + n + us.length ≤ q then acc[q]? else us[q - (b + i * st + n)]? := by
            intro us
            induction us with
            | nil => intro n acc q _; simp; omega
            | cons u us ih =>
              intro n acc q hq
              simp only [List.length_cons] at hq ⊢
              simp only [List.zipIdx_cons, List.foldl_cons]
              rw [ih (n + 1) _ q (by simp; omega)]
              by_cases h1 : q < b + i * st + n
              · rw [if_pos (by omega), if_pos (by omega), List.getElem?_set_ne (by omega)]
              · by_cases h2 : q = b + i * st + n
                · subst h2
                  rw [if_pos (by omega), if_neg (by omega), List.getElem?_set_self (by omega), Nat.sub_self]; rfl
                · by_cases h3 : b + i * st + n + us.length + 1 ≤ q
                  · rw [if_pos (by omega), if_pos (by omega), List.getElem?_set_ne (by omega)]
                  · rw [if_neg (by omega), if_neg (by omega), show q - (b + i * st + n) = (q - (b + i * st + (n + 1))) + 1 by omega, List.getElem?_cons_succ]
          have hfin := hnew.length
          refine ⟨w', run a1, h.setB hl hm a2 (by rw [Blk.len?, hll]) ⟨_, hnew, a2.room _ (by rw [← hfin, hll, hlv]; exact v2), a3, fun q y hy => ?_⟩, G, rfl⟩
          rw [Nat.zero_add]
          rw [hget _ 0 _ q (by rw [hlen, ← hlv]; omega)] at hy
          rw [hlen] at a4 hy
          by_cases hq : q < b + i * st + 0 ∨ b + i * st + 0 + s ≤ q
          · rw [if_pos hq] at hy
            rw [a4 q hq]
            have := v4 q y hy
            rwa [Nat.zero_add] at this
          · rw [if_neg hq] at hy
            obtain ⟨d, rfl⟩ : ∃ d, q = b + i * st + 0 + d := ⟨q - (b + i * st), by omega⟩
            rw [Nat.add_sub_cancel_left] at hy
            exact a5 d y hy
        · cases ho
      · cases ho
    · cases ho
  · cases ho
end
end Go.Proofs.YtnplgklnkcjmnaaGreatDoor.Am
namespace Go.Proofs.YtnplgklnkcjmnaaGreatDoor.Am
set_option linter.unusedVariables false
set_option linter.unusedSimpArgs false
open Go.RowKit

theorem TV.low_ok {w : World} {I : Nat → Prop} {m : Nat → Option Nat} {L : Nat → Option (Option Nat)} {t : T} {v : Value} (h : TV w I m L t v) : TV w I m L t.low v := by
  cases t <;> first | exact h | (cases h with | ow h _ => exact h)

section
variable {P : Program} {w0 w : World} {O : Env} {m : Nat → Option Nat} {g : Mem}

theorem lenT_ok {I : Nat → Prop} {t : TypeId} {x : T} {vx : Value} {o : Out} {ty : TypeId} (hM : ∀ k kk vk es b, g k = some (.mp kk vk es) → m k = some b → ∃ ms c, w.heap[b]? = some (.map ms c) ∧ ((ms.toList.map (fun e => (e.key, e.val)) = es.map fun p => (Value.int kk p.1, mval vk p.2)) ∧ MapKept.Stamped ms c)) (h : lenT P g t x = some o) (hx : TV w I m (lens g) x vx) : PureOk P (Builtin.len_ #[t] ty #[vx]) w I m (lens g) o := by
  unfold lenT at h
  split at h
  · rename_i e ks n xs hu
    rcases hx.fl_inv with ⟨rfl, rfl, a, cap, rfl⟩ | ⟨b, off, cap, rfl, _⟩
    · exact pureV h rfl (by simp [Builtin.len_, run_underlying, hu, goInt])
    · exact pureV h rfl (by simp [Builtin.len_, run_underlying, hu, goInt])
  · rename_i e n sz cs hu
    rcases hx.sl_inv with ⟨rfl, rfl, a, cap, rfl⟩ | ⟨b, off, cap, vs, rfl, _⟩
    · exact pureV h rfl (by simp [Builtin.len_, run_underlying, hu, goInt])
    · exact pureV h rfl (by simp [Builtin.len_, run_underlying, hu, goInt])
  · rename_i e k sz off n hu
    split at h
    · rename_i hal
      obtain ⟨l, hl⟩ := alive_lens hal
      obtain ⟨_, _, h3⟩ := hx.os_inv hl
      rcases h3 with ⟨rfl, a, rfl⟩ | ⟨cap, b, hm, rfl, _⟩
      · exact pureV h rfl (by simp [Builtin.len_, run_underlying, hu, goInt])
      · exact pureV h rfl (by simp [Builtin.len_, run_underlying, hu, goInt])
    · cases h
  · rename_i e hu
    obtain ⟨rfl, -⟩ := hx.v_inv
    exact pureV h rfl (by simp [Builtin.len_, run_underlying, hu, goInt])
  · rename_i n e hu
    exact pureV h rfl (by cases vx <;> simp [Builtin.len_, run_underlying, hu, goInt])
  · rename_i e1 e2 k hu
    split at h
    · rename_i kk vk es hgk
      obtain ⟨b, hm, rfl⟩ := hx.mp_inv (lens_of hgk)
      obtain ⟨ms, c, h1, h2⟩ := hM k kk vk es b hgk hm
      exact pureV h rfl (by
        have := congrArg List.length h2.1
        simp only [List.length_map, Array.length_toList] at this
        simp [Builtin.len_, run_underlying, hu, goInt, MapKept.run_getObj_map h1, this])
    · cases h
  · rename_i hu
    obtain ⟨rfl, -⟩ := hx.v_inv
    exact pureV h rfl (by simp [Builtin.len_, run_underlying, hu, goInt])
  · cases h

theorem addN_eq (n s : Nat) : addN n s = n + s := by
  unfold addN
  cases e : Nat.beq n 0
  · rfl
  · have := Nat.eq_of_beq_eq_true e; subst this; simp
theorem mulN_eq (n s : Nat) : mulN n s = n * s := by
  unfold mulN
  cases e : Nat.beq s 1
  · rfl
  · have := Nat.eq_of_beq_eq_true e; subst this; simp

/-! ### parts of slices -/
/-- An operand that may be missing. -/
def OTV (w : World) (I : Nat → Prop) (m : Nat → Option Nat) (L : Nat → Option (Option Nat)) : Option T → Option Value → Prop
  | none, none => True
  | some a, some b => TV w I m L a b
  | _, _ => False
def voI : Option Value → Option Int → Prop
  | none, none => True
  | some (.int _ x), some y => x = y
  | _, _ => False
theorem intO_ok {I : Nat → Prop} {L : Nat → Option (Option Nat)} {t : Option T} {v : Option Value} {x : Option Int} (h : intO t = some x) (hv : OTV w I m L t v) : voI v x := by
  unfold intO at h
  split at h
  · cases h; cases v <;> first | exact hv | trivial
  · cases h
    cases v with
    | none => exact hv.elim
    | some b => obtain ⟨rfl, -⟩ := TV.v_inv hv; rfl
  · cases h

theorem run_sliceBounds {isS : Bool} {len cap : Nat} {lo hi : Option Value} {l h : Option Int} (hl : voI lo l) (hh : voI hi h) (hc : len ≤ cap) (ho : ∀ p, cutC len l h = some p → p) :
    (Instr.sliceBounds isS len cap lo hi none).run P w = .ok (loN l, hiN len h, cap) w ∧ loN l ≤ hiN len h ∧ hiN len h ≤ len ∧ cutL len l h = hiN len h - loN l := by
  cases l with
  | none =>
    cases lo with
    | some _ => cases ‹Value› <;> exact hl.elim
    | none =>
      cases h with
      | none =>
        cases hi with
        | some _ => cases ‹Value› <;> exact hh.elim
        | none => exact ⟨by simp [Instr.sliceBounds, loN, hiN], Nat.zero_le _, Nat.le_refl _, by simp [cutL, loN, hiN]⟩
      | some h =>
        cases hi with
        | none => exact hh.elim
        | some vh =>
          cases vh <;> try exact hh.elim
          rename_i k x
          have hh : x = h := hh
          subst hh
          have hp := ho _ rfl
          refine ⟨?_, Nat.zero_le _, by show x.toNat ≤ len; omega, by simp [cutL, loN, hiN]⟩
          simp [loN, hiN, Instr.sliceBounds, Instr.sliceBound, asIntOf, hp.1, show x ≤ (cap : Int) by omega]
  | some l =>
    cases lo with
    | none => exact hl.elim
    | some vl =>
      cases vl <;> try exact hl.elim
      rename_i k y
      have hl : y = l := hl
      subst hl
      cases h with
      | none =>
        cases hi with
        | some _ => cases ‹Value› <;> exact hh.elim
        | none =>
          have hp := ho _ rfl
          refine ⟨?_, by show y.toNat ≤ len; omega, Nat.le_refl _, by simp [cutL, loN, hiN]⟩
          simp [loN, hiN, Instr.sliceBounds, Instr.sliceBound, asIntOf, hp.1, hp.2]
      | some h =>
        cases hi with
        | none => exact hh.elim
        | some vh =>
          cases vh <;> try exact hh.elim
          rename_i k' x
          have hh : x = h := hh
          subst hh
          have hp := ho _ rfl
          refine ⟨?_, by show y.toNat ≤ x.toNat; omega, by show x.toNat ≤ len; omega, by simp [cutL, loN, hiN]⟩
          have h1 : (0 : Int) ≤ x := by omega
          have h2 : y ≤ (x.toNat : Int) := by omega
          simp [loN, hiN, Instr.sliceBounds, Instr.sliceBound, asIntOf, hp.1, h1, show x ≤ (cap : Int) by omega, show y ≤ max x 0 by omega]

theorem cutN_get {α : Type} {s n : Nat} {l h : Option Int} {xs : List α} (hn : xs.length = n * s) (h1 : loN l ≤ hiN n h) (h2 : hiN n h ≤ n) :
    (cutN s l h xs).length = (hiN n h - loN l) * s ∧ ∀ i, i < (hiN n h - loN l) * s → (cutN s l h xs)[i]? = xs[loN l * s + i]? := by
  have hm : hiN n h * s ≤ n * s := Nat.mul_le_mul_right s h2
  have hm2 : loN l * s ≤ hiN n h * s := Nat.mul_le_mul_right s h1
  have e : cutN s l h xs = (xs.take (hiN n h * s)).drop (loN l * s) := by
    cases l <;> cases h <;> simp only [cutN, mulN_eq, loN, hiN]
    · rw [← hn, List.take_length, Nat.zero_mul, List.drop_zero]
    · rw [Nat.zero_mul, List.drop_zero]
    · rw [← hn, List.take_length]
  rw [e, Nat.sub_mul]
  refine ⟨by simp; omega, fun i hi => ?_⟩
  rw [List.getElem?_drop, List.getElem?_take_of_lt (by omega)]

theorem sliceT_ok (hr0 : HR w0 w O m g) {t : TypeId} {x : T} {lo hi : Option T} {vx : Value} {vlo vhi : Option Value} {o : Out} (h : sliceT P g t x lo hi = some o) (ho : o.ok) (hx : TV w (Im m g) m (lens g) x vx)
    (hlo : OTV w (Im m g) m (lens g) lo vlo) (hhi : OTV w (Im m g) m (lens g) hi vhi) :
    PureOk P (Instr.sliceAt t vx vlo vhi none) w (Im m g) m (lens g) o := by
  unfold sliceT at h
  split at h
  · rename_i l hh e1 e2
    have hl' := intO_ok (w := w) e1 hlo
    have hh' := intO_ok (w := w) e2 hhi
    split at h
    · rename_i e hu
      split at h
      · rename_i s hs
        split at h
        · -- fl
          rename_i ks n xs
          split at h
          · rename_i hk; rw [Nat.beq_eq] at hk
            cases h
            rcases hx.fl_inv with ⟨rfl, rfl, a, cap, rfl⟩ | ⟨b, off, cap, rfl, hI, hb, hk0, hn, hc, hp, hf⟩
            · obtain ⟨r, b1, b2, b3⟩ := run_sliceBounds (P := P) (w := w) (isS := true) (cap := cap) hl' hh' (Nat.zero_le _) ho
              refine ⟨_, by simp only [Instr.sliceAt, Instr.slice, Sem.run_bind, run_underlying, hu, Result.andThen_ok, r, sz_some hs, Sem.run_pure]; rfl, rfl, ?_⟩
              have e0 : cutL 0 l hh = 0 := by rw [b3]; omega
              have e3 : cutN (s + 1) l hh ([] : List Int) = [] := by cases l <;> cases hh <;> simp [cutN]
              rw [e0, e3]
              have e4 : hiN 0 hh - loN l = 0 := by omega
              rw [e4]; exact .fl0
            · obtain ⟨r, b1, b2, b3⟩ := run_sliceBounds (P := P) (w := w) (isS := true) (cap := cap) hl' hh' hc.1 ho
              refine ⟨_, by simp only [Instr.sliceAt, Instr.slice, Sem.run_bind, run_underlying, hu, Result.andThen_ok, r, sz_some hs, Sem.run_pure]; rfl, rfl, ?_⟩
              obtain ⟨c1, c2⟩ := cutN_get (l := l) (h := hh) (hk ▸ hn) b1 b2
              rw [b3]
              change loN l ≤ hiN n hh at b1
              change hiN n hh ≤ n at b2
              change TV w _ m _ (.fl ks (hiN n hh - loN l) _) (.slice (if cap = loN l then some _ else (some _).map _) (hiN n hh - loN l) (cap - loN l))
              by_cases hz : hiN n hh - loN l = 0
              · have : cutN (s + 1) l hh xs = [] := List.eq_nil_of_length_eq_zero (by rw [c1, hz, Nat.zero_mul])
                rw [hz, this]; exact .fl0
              · rw [if_neg (by omega)]
                simp only [Option.map_some, add_at]
                refine .fl hI hb hk0 (by rw [c1, hk]) (by omega) (by omega) (fun i y hy => ?_)
                have hi : i < (hiN n hh - loN l) * (s + 1) := by rw [← c1]; exact (List.getElem?_eq_some_iff.1 hy).1
                rw [c2 i hi] at hy
                have := hf _ _ hy
                rw [Nat.add_assoc, this]
                have e5 : kc ks (loN l * (s + 1) + i) = kc ks i := by unfold kc; rw [hk, Nat.add_comm, Nat.add_mul_mod_self_right]
                rw [e5]
          · cases h
        · -- sl
          rename_i n sz cs
          split at h
          · rename_i hk; rw [Nat.beq_eq] at hk
            subst hk
            cases h
            rcases hx.sl_inv with ⟨rfl, rfl, a, cap, rfl⟩ | ⟨b, off, cap, vs, rfl, hI, hb, hn, hc, hp, hv, hf⟩
            · obtain ⟨r, b1, b2, b3⟩ := run_sliceBounds (P := P) (w := w) (isS := true) (cap := cap) hl' hh' (Nat.zero_le _) ho
              refine ⟨_, by simp only [Instr.sliceAt, Instr.slice, Sem.run_bind, run_underlying, hu, Result.andThen_ok, r, sz_some hs, Sem.run_pure]; rfl, rfl, ?_⟩
              have e0 : cutL 0 l hh = 0 := by rw [b3]; omega
              have e3 : cutN (s + 1) l hh ([] : List T) = [] := by cases l <;> cases hh <;> simp [cutN]
              rw [e0, e3]
              have e4 : hiN 0 hh - loN l = 0 := by omega
              rw [e4]; exact .sl0
            · obtain ⟨r, b1, b2, b3⟩ := run_sliceBounds (P := P) (w := w) (isS := true) (cap := cap) hl' hh' hc.1 ho
              refine ⟨_, by simp only [Instr.sliceAt, Instr.slice, Sem.run_bind, run_underlying, hu, Result.andThen_ok, r, sz_some hs, Sem.run_pure]; rfl, rfl, ?_⟩
              obtain ⟨c1, c2⟩ := cutN_get (l := l) (h := hh) hn b1 b2
              have hvl : vs.length = n * (s + 1) := by rw [← hv.length, hn]
              obtain ⟨d1, d2⟩ := cutN_get (l := l) (h := hh) hvl b1 b2
              rw [b3]
              change loN l ≤ hiN n hh at b1
              change hiN n hh ≤ n at b2
              change TV w _ m _ (.sl (hiN n hh - loN l) _ _) (.slice (if cap = loN l then some _ else (some _).map _) (hiN n hh - loN l) (cap - loN l))
              by_cases hz : hiN n hh - loN l = 0
              · have : cutN (s + 1) l hh cs = [] := List.eq_nil_of_length_eq_zero (by rw [c1, hz, Nat.zero_mul])
                rw [hz, this]; exact .sl0
              · rw [if_neg (by omega)]
                simp only [Option.map_some, add_at]
                have hvc : TVs w (Im m g) m (lens g) (cutN (s + 1) l hh cs) (cutN (s + 1) l hh vs) := by
                  cases l <;> cases hh <;> simp only [cutN]
                  · exact hv
                  · exact hv.take _
                  · exact hv.drop _
                  · exact (hv.take _).drop _
                refine .sl hI hb c1 (by omega) (by omega) hvc (fun i y hy => ?_)
                have hi : i < (hiN n hh - loN l) * (s + 1) := by rw [← d1]; exact (List.getElem?_eq_some_iff.1 hy).1
                rw [d2 i hi] at hy
                have := hf _ _ hy
                rw [Nat.add_assoc, this]
          · cases h
        · -- os
          rename_i k sz off n
          split at h
          · rename_i hk
            rw [Bool.and_eq_true, Nat.beq_eq] at hk
            obtain ⟨hal, rfl⟩ := hk
            obtain ⟨L1, hL⟩ := alive_lens hal
            cases h
            obtain ⟨hz, hle, h3⟩ := hx.os_inv hL
            rcases h3 with ⟨rfl, a, rfl⟩ | ⟨cap, b, hm, rfl, hc, hr⟩
            · obtain ⟨r, b1, b2, b3⟩ := run_sliceBounds (P := P) (w := w) (isS := true) (cap := 0) hl' hh' (Nat.zero_le _) ho
              refine ⟨_, by simp only [Instr.sliceAt, Instr.slice, Sem.run_bind, run_underlying, hu, Result.andThen_ok, r, sz_some hs, Sem.run_pure]; rfl, rfl, ?_⟩
              change loN l ≤ hiN 0 hh at b1
              change hiN 0 hh ≤ 0 at b2
              have e0 : cutL 0 l hh = 0 := by rw [b3]; change hiN 0 hh - loN l = 0; omega
              have e1 : loN l = 0 := by omega
              have e2 : addN off (loN l) = off := by rw [addN_eq, e1]; rfl
              rw [e0]
              change TV w _ m _ (.os k _ (addN off (loN l)) 0) (.slice (if 0 = loN l then a else a.map _) (hiN 0 hh - loN l) (0 - loN l))
              rw [e2, e1, if_pos rfl, show hiN 0 hh - 0 = 0 by omega]
              exact .os0 hL (by simpa using hle) hz
            · obtain ⟨r, b1, b2, b3⟩ := run_sliceBounds (P := P) (w := w) (isS := true) (cap := cap) hl' hh' hc.1 ho
              refine ⟨_, by simp only [Instr.sliceAt, Instr.slice, Sem.run_bind, run_underlying, hu, Result.andThen_ok, r, sz_some hs, Sem.run_pure]; rfl, rfl, ?_⟩
              change loN l ≤ hiN n hh at b1
              change hiN n hh ≤ n at b2
              have e2 : addN off (loN l) = off + loN l := addN_eq _ _
              rw [b3]
              change TV w _ m _ (.os k _ (addN off (loN l)) (hiN n hh - loN l)) (.slice (if cap = loN l then some _ else (some _).map _) (hiN n hh - loN l) (cap - loN l))
              rw [e2]
              have hle2 : (off + loN l + (hiN n hh - loN l)) * (s + 1) ≤ L1 := Nat.le_trans (Nat.mul_le_mul_right _ (by omega)) hle
              by_cases hq : cap = loN l
              · rw [if_pos hq, show hiN n hh - loN l = 0 by omega, show cap - loN l = 0 by omega]
                refine .os0 hL ?_ hz
                exact Nat.le_trans (Nat.mul_le_mul_right _ (by omega)) hle
              · rw [if_neg hq]
                simp only [Option.map_some, add_at]
                rw [← Nat.add_mul]
                refine .os hL hm hle2 (by omega) hz ?_
                rw [show off + loN l + (cap - loN l) = off + cap by omega]; exact hr
          · cases h
        · -- nil
          cases h
          obtain ⟨rfl, -⟩ := hx.v_inv
          obtain ⟨r, b1, b2, b3⟩ := run_sliceBounds (P := P) (w := w) (isS := true) (len := 0) (cap := 0) hl' hh' (Nat.zero_le _) ho
          refine ⟨_, by simp only [Instr.sliceAt, Instr.slice, Sem.run_bind, run_underlying, hu, Result.andThen_ok, r, sz_some hs, Sem.run_pure]; rfl, rfl, ?_⟩
          change loN l ≤ hiN 0 hh at b1
          change hiN 0 hh ≤ 0 at b2
          change TV w _ m _ _ (.slice (if 0 = loN l then none else _) (hiN 0 hh - loN l) (0 - loN l))
          rw [show loN l = 0 by omega, show hiN 0 hh = 0 by omega, if_pos rfl]
          exact .v rfl
        · cases h
      · cases h
    · rename_i n e hu
      split at h
      · rename_i s hs
        split at h
        · rename_i k b st i wd
          split at h
          · rename_i hk
            simp only [Bool.and_eq_true, Nat.beq_eq, Nat.ble_eq] at hk
            obtain ⟨⟨⟨⟨hal, rfl⟩, rfl⟩, hw⟩, hn40⟩ := hk
            obtain ⟨L1, hL⟩ := alive_lens hal
            cases h
            obtain ⟨hle, bb, hm, rfl⟩ := hx.op_inv hL
            obtain ⟨r, b1, b2, b3⟩ := run_sliceBounds (P := P) (w := w) (isS := false) (cap := n) hl' hh' (Nat.le_refl _) ho
            refine ⟨_, by simp only [Instr.sliceAt, Sem.run_bind, run_underlying, hu, Result.andThen_ok, Instr.sureAddr, r, sz_some hs, Sem.run_pure]; rfl, rfl, ?_⟩
            change loN l ≤ hiN n hh at b1
            change hiN n hh ≤ n at b2
            rw [b3]
            change TV w _ m _ (.os k _ (loN l) (hiN n hh - loN l)) (.slice (some (if n = loN l then _ else _)) (hiN n hh - loN l) (n - loN l))
            have hle2 : (loN l + (hiN n hh - loN l)) * (s + 1) ≤ L1 := Nat.le_trans (Nat.mul_le_mul_right _ (show _ ≤ n by omega)) (by omega)
            by_cases hq : n = loN l
            · rw [if_pos hq, show hiN n hh - loN l = 0 by omega, show n - loN l = 0 by omega]
              exact .os0 hL (Nat.le_trans (Nat.mul_le_mul_right _ (show _ ≤ n by omega)) (by omega)) (by omega)
            · rw [if_neg hq]
              simp only [add_at]
              rw [show 0 + 0 * st + loN l * (s + 1) = loN l * (s + 1) by omega]
              refine .os hL hm hle2 (by omega) (by omega) ?_
              rw [show loN l + (n - loN l) = n by omega]
              obtain ⟨B, hB, hBl⟩ := lens_some hL
              have hbv := hr0.blk k B hB
              rw [hm] at hbv
              exact (BVb.room hbv hBl).mono (by omega)
          · cases h
        · cases h
      · cases h
    · cases h
  · cases h
end
end Go.Proofs.YtnplgklnkcjmnaaGreatDoor.Am
namespace Go.Proofs.YtnplgklnkcjmnaaGreatDoor.Am
set_option linter.unusedVariables false
set_option linter.unusedSimpArgs false
open Go.RowKit

/-- A block's content, as cells. -/
def BC (w : World) (I : Nat → Prop) (m : Nat → Option Nat) (L : Nat → Option (Option Nat)) : Blk → List Value → Prop
  | .fl ks xs, vs => ks ≠ [] ∧ vs.length = xs.length ∧ ∀ (i : Nat) (x : Int), xs[i]? = some x → vs[i]? = some (Value.int (kc ks i) x)
  | .cs cs, vs => TVs w I m L cs vs
  | _, _ => False

section
variable {P : Program} {w0 w : World} {O : Env} {m : Nat → Option Nat} {g : Mem} {I : Nat → Prop} {L : Nat → Option (Option Nat)}

theorem BC.len {B : Blk} {vs : List Value} (h : BC w I m L B vs) : B.len? = some vs.length := by
  cases B with
  | fl ks xs => rw [Blk.len?, h.2.1]
  | cs cs => rw [Blk.len?, TVs.length h]
  | mp kk vk es => exact h.elim
  | gone => exact h.elim
  | gh id ts => exact h.elim
  | lp id l st pe n ts ps asg body => exact h.elim
theorem BC.blk {w' I' m' L'} {B : Blk} {vs : List Value} (h : BC w I m L B vs) (G : Goes w w' I I' m m' L L') {b : Nat} (hr : Room w' b vs.length) (hf : NoFrz w' b) (hc : CellsAt w' b 0 vs) : BVb O w' I' m' L' B b := by
  cases B with
  | fl ks xs => exact ⟨h.1, by rw [← h.2.1]; exact hr, hf, fun i x hx => hc i _ (h.2.2 i x hx)⟩
  | cs cs => exact ⟨vs, TVs.goes G h, hr, hf, hc⟩
  | mp kk vk es => exact h.elim
  | gone => trivial
  | gh id ts => exact h.elim
  | lp id l st pe n ts ps asg body => exact h.elim
theorem BC.goes {w' I' m' L'} {B : Blk} {vs : List Value} (G : Goes w w' I I' m m' L L') (h : BC w I m L B vs) : BC w' I' m' L' B vs := by
  cases B with
  | fl ks xs => exact h
  | cs cs => exact TVs.goes G h
  | mp kk vk es => exact h.elim
  | gone => exact h.elim
  | gh id ts => exact h.elim
  | lp id l st pe n ts ps asg body => exact h.elim
theorem kc_mod {ks : List IntKind} {a i : Nat} (h : a % ks.length = 0) : kc ks (a + i) = kc ks i := by
  unfold kc; rw [Nat.add_mod, h, Nat.zero_add, Nat.mod_mod]
theorem joinB_ok {B1 B2 B : Blk} {v1 v2 : List Value} (h : joinB B1 B2 = some B) (h1 : BC w I m L B1 v1) (h2 : BC w I m L B2 v2) (ha : ∀ ks xs, B1 = .fl ks xs → xs.length % ks.length = 0) : BC w I m L B (v1 ++ v2) := by
  unfold joinB at h
  split at h
  · cases h; cases h1; exact h2
  · cases h; cases h2; rw [List.append_nil]; exact h1
  · split at h
    · rename_i _ _ ks0 xs0 ks1 ys0 e; subst e
      cases h
      refine ⟨h1.1, by simp [h1.2.1, h2.2.1], fun i x hx => ?_⟩
      rw [List.getElem?_append] at hx ⊢
      rw [h1.2.1]
      split at hx
      · rename_i hi; rw [if_pos hi]; exact h1.2.2 i x hx
      · rename_i hi; rw [if_neg hi]
        have := h2.2.2 _ x hx
        rw [this]
        have e := kc_mod (i := i - xs0.length) (ha _ _ rfl)
        rw [← e]
        congr 3; omega
    · cases h
  · cases h; exact TVs.append h1 h2
  · cases h

theorem contT_ok (h : HR w0 w O m g) {sz n : Nat} (hz0 : 0 < sz) {x : T} {vx : Value} {B : Blk} (hc : contT g sz x = some (n, B)) (hx : TV w (Im m g) m (lens g) x vx) :
    ∃ a cap vs, vx = .slice a n cap ∧ (Builtin.firstCells sz n vx).run P w = .ok vs.toArray w ∧ vs.length = n * sz ∧ BC w (Im m g) m (lens g) B vs ∧ (∀ ks xs, B = .fl ks xs → xs.length % ks.length = 0) ∧ (n = 0 ∨ ∃ b off, a = some ⟨b, off, none⟩ ∧ CellsAt w b off vs) := by
  have load : ∀ (b off n : Nat) (vs : List Value), vs.length = n * sz → CellsAt w b off vs → (Builtin.firstCells sz n (.slice (some ⟨b, off, none⟩) n 0)).run P w = .ok vs.toArray w := by
    intro b off n vs hl hc
    have := loadCells_ok (P := P) (w := w) (a := ⟨b, off, none⟩) (vs := vs) (n * sz) (by omega) (fun i v hi => by rw [add_at]; exact hc i v hi)
    rw [List.take_of_length_le (by omega)] at this
    exact this
  have load0 : ∀ (a : Option Addr) (cap : Nat), (Builtin.firstCells sz 0 (.slice a 0 cap)).run P w = .ok ([] : List Value).toArray w := by
    intro a cap
    cases a with
    | none => rfl
    | some a => simp [Builtin.firstCells, loadCells, loadCellsFrom]
  unfold contT at hc
  split at hc
  · cases hc
    obtain ⟨rfl, -⟩ := hx.v_inv
    exact ⟨_, _, [], rfl, load0 _ _, by simp, .nil, (fun ks xs e => by cases e), .inl rfl⟩
  · rename_i ks n' xs
    split at hc
    · rename_i hk; rw [Nat.beq_eq] at hk
      cases hc
      rcases hx.fl_inv with ⟨rfl, rfl, a, cap, rfl⟩ | ⟨b, off, cap, rfl, hI, hb, hk0, hn, hcc, hp, hf⟩
      · by_cases hk0 : ks = []
        · subst hk0; simp at hk; omega
        · exact ⟨_, _, [], rfl, load0 _ _, by simp, ⟨hk0, rfl, fun i x hx => by simp at hx⟩, (fun ks xs e => by cases e; simp), .inl rfl⟩
      · let vs := (List.range xs.length).map fun i => Value.int (kc ks i) (xs.getD i 0)
        have hvl : vs.length = xs.length := by simp [vs]
        have hvg : ∀ (i : Nat) (x : Int), xs[i]? = some x → vs[i]? = some (Value.int (kc ks i) x) := by
          intro i x hx
          have hlt : i < xs.length := (List.getElem?_eq_some_iff.1 hx).1
          simp [vs, List.getElem?_range hlt, hx]
        have hca : CellsAt w b off vs := (fun i v hi => by
          have hlt : i < xs.length := by have := (List.getElem?_eq_some_iff.1 hi).1; omega
          have h1 := hvg i _ (List.getElem?_eq_getElem hlt)
          rw [hi] at h1; cases h1
          exact hf _ _ (List.getElem?_eq_getElem hlt))
        exact ⟨_, _, vs, rfl, load b off _ vs (by rw [hvl, hn, hk]) hca, by rw [hvl, hn, hk], ⟨hk0, hvl, hvg⟩, (fun ks' xs' e => by cases e; rw [hn]; exact Nat.mul_mod_left _ _), .inr ⟨_, _, rfl, hca⟩⟩
    · cases hc
  · rename_i n' s cs
    split at hc
    · rename_i hk; rw [Nat.beq_eq] at hk
      subst hk
      cases hc
      rcases hx.sl_inv with ⟨rfl, rfl, a, cap, rfl⟩ | ⟨b, off, cap, vs, rfl, hI, hb, hn, hcc, hp, hv, hf⟩
      · exact ⟨_, _, [], rfl, load0 _ _, by simp, .nil, (fun ks xs e => by cases e), .inl rfl⟩
      · exact ⟨_, _, vs, rfl, load b off _ vs (by rw [← hv.length, hn]) hf, by rw [← hv.length, hn], hv, (fun ks xs e => by cases e), .inr ⟨_, _, rfl, hf⟩⟩
    · cases hc
  · -- ow
    rename_i k s n'
    split at hc
    · rename_i hk; rw [Nat.beq_eq] at hk
      subst hk
      cases hx with
      | ow ho hl =>
        have key : ∀ (B0 : Blk) (l : Nat), g k = some B0 → B0.len? = some l → l = n' * s ∧ ((n' = 0 ∧ ∃ a, vx = .slice a 0 0) ∨ ∃ cap b, m k = some b ∧ vx = .slice (some ⟨b, 0, none⟩) n' cap ∧ BVb O w (Im m g) m (lens g) B0 b) := by
          intro B0 l e el
          have hL := lens_of e
          rw [el] at hL
          obtain ⟨hz, hle, h3⟩ := ho.os_inv hL
          refine ⟨by rcases hl with hl | hl <;> rw [hl] at hL <;> cases hL; rfl, ?_⟩
          rcases h3 with h3 | ⟨cap, b, hm, rfl, hcc, hr⟩
          · exact .inl h3
          · right
            have := h.blk k _ e
            rw [hm] at this
            exact ⟨cap, b, hm, by rw [Nat.zero_mul], this⟩
        split at hc
        · rename_i ks xs e
          split at hc
          · rename_i hks; rw [Nat.beq_eq] at hks
            cases hc
            obtain ⟨k1, k2⟩ := key _ _ e rfl
            have hbv := h.blk k _ e
            have hk0 : ks ≠ [] := by
              cases hmk : m k with
              | none => rw [hmk] at hbv; exact hbv.1
              | some b => rw [hmk] at hbv; exact hbv.1
            rcases k2 with ⟨rfl, a, rfl⟩ | ⟨cap, b, hm, rfl, hb⟩
            · have : xs = [] := List.eq_nil_of_length_eq_zero (by rw [k1]; simp)
              subst this
              exact ⟨_, _, [], rfl, load0 _ _, by simp, ⟨hk0, rfl, fun i x hx => by simp at hx⟩, (fun ks xs e => by cases e; simp), .inl rfl⟩
            · let vs := (List.range xs.length).map fun i => Value.int (kc ks i) (xs.getD i 0)
              have hvl : vs.length = xs.length := by simp [vs]
              have hvg : ∀ (i : Nat) (x : Int), xs[i]? = some x → vs[i]? = some (Value.int (kc ks i) x) := by
                intro i x hx
                have hlt : i < xs.length := (List.getElem?_eq_some_iff.1 hx).1
                simp [vs, List.getElem?_range hlt, hx]
              have hca : CellsAt w b 0 vs := (fun i v hi => by
                have hlt : i < xs.length := by have := (List.getElem?_eq_some_iff.1 hi).1; omega
                have h1 := hvg i _ (List.getElem?_eq_getElem hlt)
                rw [hi] at h1; cases h1
                exact hb.2.2.2 _ _ (List.getElem?_eq_getElem hlt))
              exact ⟨_, _, vs, rfl, load b 0 _ vs (by rw [hvl, k1]) hca, by rw [hvl, k1], ⟨hk0, hvl, hvg⟩, (fun ks' xs' e => by cases e; rw [k1, ← hks]; exact Nat.mul_mod_left _ _), .inr ⟨_, _, rfl, hca⟩⟩
          · cases hc
        · rename_i cs e
          cases hc
          obtain ⟨k1, k2⟩ := key _ _ e rfl
          rcases k2 with ⟨rfl, a, rfl⟩ | ⟨cap, b, hm, rfl, vs, hv, hr, hf, hcl⟩
          · have : cs = [] := List.eq_nil_of_length_eq_zero (by rw [k1]; simp)
            subst this
            exact ⟨_, _, [], rfl, load0 _ _, by simp, .nil, (fun ks xs e => by cases e), .inl rfl⟩
          · exact ⟨_, _, vs, rfl, load b 0 _ vs (by rw [← hv.length, k1]) hcl, by rw [← hv.length, k1], hv, (fun ks xs e => by cases e), .inr ⟨_, _, rfl, hcl⟩⟩
        · cases hc
    · cases hc
  · -- os
    rename_i k s off n'
    split at hc
    · rename_i hk; rw [Nat.beq_eq] at hk
      subst hk
      have key : ∀ (B0 : Blk) (l : Nat), g k = some B0 → B0.len? = some l → (off + n') * s ≤ l ∧ ((n' = 0 ∧ ∃ a, vx = .slice a 0 0) ∨ ∃ cap b, m k = some b ∧ vx = .slice (some ⟨b, off * s, none⟩) n' cap ∧ BVb O w (Im m g) m (lens g) B0 b) := by
        intro B0 l e el
        have hL := lens_of e
        rw [el] at hL
        obtain ⟨hz, hle, h3⟩ := hx.os_inv hL
        refine ⟨hle, ?_⟩
        rcases h3 with h3 | ⟨cap, b, hm, rfl, hcc, hr⟩
        · exact .inl h3
        · right
          have := h.blk k _ e
          rw [hm] at this
          exact ⟨cap, b, hm, rfl, this⟩
      have sub : ∀ (l : Nat), (off + n') * s ≤ l → off * s + n' * s ≤ l := by intro l hl; rwa [← Nat.add_mul]
      split at hc
      · rename_i ks xs e
        split at hc
        · rename_i hks; rw [Nat.beq_eq] at hks
          cases hc
          obtain ⟨k1, k2⟩ := key _ _ e rfl
          have k1 := sub _ k1
          have hbv := h.blk k _ e
          have hk0 : ks ≠ [] := by
            cases hmk : m k with
            | none => rw [hmk] at hbv; exact hbv.1
            | some b => rw [hmk] at hbv; exact hbv.1
          simp only [mulN_eq]
          rcases k2 with ⟨rfl, a, rfl⟩ | ⟨cap, b, hm, rfl, hb⟩
          · have : List.take (0 * s) (List.drop (off * s) xs) = [] := by simp
            rw [this]
            exact ⟨_, _, [], rfl, load0 _ _, by simp, ⟨hk0, rfl, fun i x hx => by simp at hx⟩, (fun ks xs e => by cases e; simp), .inl rfl⟩
          · let ys := List.take (n * s) (List.drop (off * s) xs)
            have hyl : ys.length = n * s := by simp [ys]; omega
            have hyg : ∀ i, i < n * s → ys[i]? = xs[off * s + i]? := by intro i hi; simp only [ys]; rw [List.getElem?_take_of_lt hi, List.getElem?_drop]
            let vs := (List.range ys.length).map fun i => Value.int (kc ks i) (ys.getD i 0)
            have hvl : vs.length = ys.length := by simp [vs]
            have hvg : ∀ (i : Nat) (x : Int), ys[i]? = some x → vs[i]? = some (Value.int (kc ks i) x) := by
              intro i x hx
              have hlt : i < ys.length := (List.getElem?_eq_some_iff.1 hx).1
              simp [vs, List.getElem?_range hlt, hx]
            have hca : CellsAt w b (off * s) vs := (fun i v hi => by
              have hlt : i < ys.length := by have := (List.getElem?_eq_some_iff.1 hi).1; omega
              have h0 := List.getElem?_eq_getElem hlt
              have h1 := hvg i _ h0
              rw [hi] at h1; cases h1
              rw [hyg i (by omega)] at h0
              have := hb.2.2.2 _ _ h0
              rw [Nat.zero_add] at this
              rw [this, kc_mod (by rw [← hks]; exact Nat.mul_mod_left _ _)])
            exact ⟨_, _, vs, rfl, load b (off * s) _ vs (by rw [hvl, hyl]) hca, by rw [hvl, hyl], ⟨hk0, hvl, hvg⟩, (fun ks' xs' e => by cases e; show ys.length % _ = 0; rw [hyl, ← hks]; exact Nat.mul_mod_left _ _), .inr ⟨_, _, rfl, hca⟩⟩
        · cases hc
      · rename_i cs e
        cases hc
        obtain ⟨k1, k2⟩ := key _ _ e rfl
        have k1 := sub _ k1
        simp only [mulN_eq]
        rcases k2 with ⟨rfl, a, rfl⟩ | ⟨cap, b, hm, rfl, vs, hv, hr, hf, hcl⟩
        · have : List.take (0 * s) (List.drop (off * s) cs) = [] := by simp
          rw [this]
          exact ⟨_, _, [], rfl, load0 _ _, by simp, .nil, (fun ks xs e => by cases e), .inl rfl⟩
        · have hvl := hv.length
          have hca : CellsAt w b (off * s) ((vs.drop (off * s)).take (n * s)) := by
            intro i v hi
            have hlt : i < n * s := by have := (List.getElem?_eq_some_iff.1 hi).1; simp at this; omega
            rw [List.getElem?_take_of_lt hlt, List.getElem?_drop] at hi
            have := hcl _ _ hi
            rwa [Nat.zero_add] at this
          exact ⟨_, _, (vs.drop (off * s)).take (n * s), rfl, load b (off * s) _ _ (by simp; omega) hca, by simp; omega, (hv.drop _).take _, (fun ks xs e => by cases e), .inr ⟨_, _, rfl, hca⟩⟩
      · cases hc
    · cases hc
  · cases hc

theorem growBy_le (n : Nat) : ∀ (r c : Nat), c < n + n + 512 → Builtin.growBy n r c < n + n + 512 := by
  intro r
  induction r with
  | zero => intro c h; exact h
  | succ r ih =>
    intro c h
    unfold Builtin.growBy
    split
    · exact h
    · exact ih _ (by omega)
theorem nextcap_le (n c : Nat) (h : c < n) : Builtin.nextslicecap n c < n + n + 512 := by
  unfold Builtin.nextslicecap
  split
  · omega
  · split
    · omega
    · exact growBy_le n 4 c (by omega)

/-- append where there is no room: a new row. -/
theorem run_append_grow {t t2 e ty : TypeId} {e2 : TypeId} {sz n n2 cap cap2 : Nat} {a a2 : Option Addr} {z : Value} {by_ : Nat} {v1 v2 : List Value}
    (hu : P.underlying t = some (.slice e)) (hu2 : P.underlying t2 = some (.slice e2)) (hs : sz? P e = some sz) (hz : ∀ w', (zeroValue e).run P w' = .ok z w') (hzl : z.cells.size = sz) (hb : bytes? P e = some by_)
    (h1 : (Builtin.firstCells sz n (.slice a n cap)).run P (w.drewN 1) = .ok v1.toArray (w.drewN 1)) (h2 : (Builtin.firstCells sz n2 (.slice a2 n2 cap2)).run P (w.drewN 1) = .ok v2.toArray (w.drewN 1))
    (hl1 : v1.length = n * sz) (hl2 : v2.length = n2 * sz) (hroom : ¬ n + n2 ≤ cap) (hby : 0 < by_) (hcap : ¬ Builtin.nextslicecap (n + n2) cap * by_ > 2 ^ 48) :
    ∃ newCap rest, (Builtin.append_ #[t, t2] ty #[.slice a n cap, .slice a2 n2 cap2]).run P w = .ok (.slice (some ⟨w.heap.size, 0, none⟩) (n + n2) newCap) ((w.drewN 1).alloc (.cells ((v1 ++ v2) ++ rest).toArray e)) ∧ n + n2 ≤ newCap ∧
      ((v1 ++ v2) ++ rest).length = newCap * sz := by
  have hbi : ∃ i, P.info? e = some i ∧ i.bytes = by_ := by
    unfold bytes? at hb
    cases hi : P.info? e with
    | none => rw [hi] at hb; cases hb
    | some i => rw [hi] at hb; cases hb; exact ⟨i, rfl, rfl⟩
  obtain ⟨i, hi, hib⟩ := hbi
  let q := Question.appendCap (n + n2) cap e
  let newCap := q.cut (w.tape w.drawn q)
  have hnc : n + n2 ≤ newCap := by show _ ≤ n + n2 + _; omega
  let rest := (Builtin.zeroCells z.cells (newCap - (n + n2))).toList
  refine ⟨newCap, rest, ?_, hnc, ?_⟩
  · have hti : ∀ w', (typeInfo e).run P w' = .ok i w' := fun w' => by rw [run_typeInfo, hi]
    simp only [Builtin.append_, Sem.run_bind, run_underlying, hu, hu2, Result.andThen_ok, sz_some hs, Array.getElem?_toList, List.getElem?_toArray, List.getElem?_cons_zero, List.getElem?_cons_succ, Sem.run_pure, Builtin.lenOf, hti, hib]
    simp only [show (TypeDesc.slice e2 matches TypeDesc.int _) = false from rfl, Bool.false_eq_true, if_false, Sem.run_bind, Sem.run_pure, Result.andThen_ok, if_neg hroom, Bool.not_false, if_true]
    simp only [Sem.run_ite, Sem.run_bind, Sem.run_pure, run_choose, Question.forced, Bool.false_eq_true, if_false, Result.andThen_ok, run_askRoom, hti, hib, if_neg hcap, hz]
    have hd : ({ w with drawn := w.drawn + 1 } : World) = w.drewN 1 := rfl
    rw [if_neg (by rintro ⟨_, h | h⟩ <;> first | (cases h; done) | omega)]
    simp only [Result.andThen_ok, hd, h1, h2, hz, newRow, Sem.run_bind, run_newObj, Sem.run_pure]
    have e1 : ((v1 ++ v2) ++ rest).toArray = v1.toArray ++ v2.toArray ++ Builtin.zeroCells z.cells (newCap - (n + n2)) := by apply Array.ext'; simp [rest]
    rw [e1]
    rfl
  · simp only [rest, Builtin.zeroCells]
    simp [hl1, hl2, hzl]
    rw [← Nat.add_mul, ← Nat.add_mul]
    congr 1; omega

/-- append where there is room. -/
theorem run_append_room {t t2 e ty : TypeId} {e2 : TypeId} {sz n n2 cap cap2 : Nat} {a a2 : Option Addr} {v2 : List Value} {w' : World}
    (hu : P.underlying t = some (.slice e)) (hu2 : P.underlying t2 = some (.slice e2)) (hs : sz? P e = some sz)
    (h2 : (Builtin.firstCells sz n2 (.slice a2 n2 cap2)).run P w = .ok v2.toArray w) (hroom : n + n2 ≤ cap)
    (hst : match (motive := Option Addr → Prop) a with | some a => (storeCells (a.add (n * sz)) v2).run P w = .ok () w' | none => w' = w) :
    (Builtin.append_ #[t, t2] ty #[.slice a n cap, .slice a2 n2 cap2]).run P w = .ok (.slice a (n + n2) cap) w' := by
  simp only [Builtin.append_, Sem.run_bind, run_underlying, hu, hu2, Result.andThen_ok, sz_some hs, Array.getElem?_toList, List.getElem?_toArray, List.getElem?_cons_zero, List.getElem?_cons_succ, Sem.run_pure, Builtin.lenOf]
  simp only [show (TypeDesc.slice e2 matches TypeDesc.int _) = false from rfl, Bool.false_eq_true, if_false, Sem.run_bind, Sem.run_pure, Result.andThen_ok, if_pos hroom, Bool.not_false, if_true, h2]
  cases a with
  | none => subst hst; rfl
  | some a => simp only [Sem.run_bind, hst, Result.andThen_ok, Sem.run_pure]

theorem zero_all {t : TypeId} {z : Value} (h : (zeroValue t).run P w = .ok z w) : ∀ w', (zeroValue t).run P w' = .ok z w' := by
  intro w'
  unfold zeroValue at h ⊢
  simp only [Sem.run_bind, run_typeInfo] at h ⊢
  cases hi : P.info? t with
  | none => rw [hi] at h; cases h
  | some i =>
    rw [hi] at h
    simp only [Result.andThen_ok] at h ⊢
    cases hq : i.zero with
    | none => rw [hq] at h; cases h
    | some v => rw [hq] at h; cases h; rfl

theorem newBlkC (h : HR w0 w O m g) {k : Nat} (hk : g k = none) {B : Blk} {vs : List Value} (hv : BC w (Im m g) m (lens g) B vs) (e : TypeId) (rest : List Value) :
    let w' := w.alloc (.cells (vs ++ rest).toArray e); let g' := upd g [(k, B)]; let m' := mk1 m k (some w.heap.size)
    HR w0 w' O m' g' ∧ Goes w w' (Im m g) (Im m' g') m m' (lens g) (lens g') ∧ lens g' k = some (some vs.length) ∧ m' k = some w.heap.size ∧ Room w' w.heap.size (vs.length + rest.length) := by
  intro w' g' m'
  have hb : Below w.heap.size w w' := below_new _ _
  have G : Goes w w' (Im m g) (Im m' g') m m' (lens g) (lens g') := Goes.new h hb hk (fun q hq => by cases hq; exact Nat.le_refl _)
  have hroom : ∀ n, n ≤ vs.length + rest.length → Room w' w.heap.size n := fun n hn => room_new' _ _ _ _ (by simpa using hn)
  have hfrz : NoFrz w' w.heap.size := fun o => frozen_new' _ _ _ _
  have hcell : CellsAt w' w.heap.size 0 vs := fun i v hi => by
    have hlt : i < vs.length := (List.getElem?_eq_some_iff.1 hi).1
    rw [Nat.zero_add, cell_new']; simp [List.getElem?_append_left hlt, hi]
  refine ⟨h.newB hb hk (fun q hq => by cases hq; exact Nat.le_refl _) (hv.blk G (hroom _ (by omega)) hfrz hcell), G, ?_, if_pos rfl, hroom _ (Nat.le_refl _)⟩
  rw [lens_upd, if_pos rfl, hv.len]

/-- A key is let go. -/
theorem Goes.drop (h : HR w0 w O m g) (k : Nat) : Goes w w (Im m g) (Im m (upd g [(k, .gone)])) m m (lens g) (lens (upd g [(k, .gone)])) := by
  refine ⟨⟨fun c hc hI ho => ?_, Nat.le_refl _, fun _ _ _ _ => rfl, fun j s hs => ?_, fun _ _ hr => hr⟩, fun _ _ ho _ => ho⟩
  · obtain ⟨j, l, hj, e⟩ := ho
    rw [lens_upd] at hj
    by_cases hkj : k = j
    · rw [if_pos hkj] at hj; cases hj
    · rw [if_neg hkj] at hj; exact hI ⟨j, l, hj, e⟩
  · rw [lens_upd]
    by_cases hkj : k = j
    · rw [if_pos hkj]; exact .inl rfl
    · rw [if_neg hkj]
      cases s with
      | none => exact .inl hs
      | some l => exact .inr ⟨l, rfl, hs, rfl⟩
theorem HR.drop (h : HR w0 w O m g) (k : Nat) : HR w0 w O m (upd g [(k, .gone)]) := by
  have hlen : ∀ j s, lens (upd g [(k, .gone)]) j = some (some s) → lens g j = some (some s) := fun j s hj => by
    rw [lens_upd] at hj
    by_cases hkj : k = j
    · rw [if_pos hkj] at hj; cases hj
    · rwa [if_neg hkj] at hj
  refine h.change h.fr (Goes.drop h k) (fun j c hj => ?_) (fun j j' l l' n hj hj' => h.inj _ _ _ _ _ (hlen _ _ hj) (hlen _ _ hj')) (fun j l n hj => h.new _ _ _ (hlen _ _ hj))
  rw [upd_one] at hj
  by_cases hkj : k = j
  · rw [if_pos hkj] at hj; cases hj; right; cases m j <;> trivial
  · rw [if_neg hkj] at hj; left; exact ⟨hj, fun l hl => ⟨rfl, fun n hn => ⟨fun _ => rfl, fun _ => rfl, fun _ hr => hr, rfl⟩⟩⟩
theorem Goes.trans {w1 w2 w3 : World} {I1 I2 I3 : Nat → Prop} {m1 m2 m3 : Nat → Option Nat} {L1 L2 L3 : Nat → Option (Option Nat)} (h : Goes w1 w2 I1 I2 m1 m2 L1 L2) (k : Goes w2 w3 I2 I3 m2 m3 L2 L3) : Goes w1 w3 I1 I3 m1 m3 L1 L3 := by
  refine ⟨⟨fun b hb hI => k.imm b (Nat.lt_of_lt_of_le hb h.size) (h.imm b hb hI), Nat.le_trans h.size k.size, fun b o hb hI => (k.cell b o (Nat.lt_of_lt_of_le hb h.size) (h.imm b hb hI)).trans (h.cell b o hb hI), fun j s hs => ?_, fun b n hr => k.room _ _ (h.room _ _ hr)⟩, fun b o ho hod => k.odd b o (h.odd b o ho hod) hod⟩
  · rcases h.own j s hs with e | ⟨l, rfl, e, em⟩
    · rcases k.own j _ e with e' | ⟨l, e', _⟩
      · exact .inl e'
      · cases e'
    · rcases k.own j _ e with e' | ⟨l', e', e2, em'⟩
      · exact .inl e'
      · cases e'; exact .inr ⟨l, rfl, e2, em'.trans em⟩

theorem upd_two (g : Mem) (a b : Nat × Blk) : upd g [a, b] = upd (upd g [b]) [a] := by
  funext k; obtain ⟨j, x⟩ := a; obtain ⟨i, y⟩ := b; simp [upd]


/-- A block changes its name, and is written. -/
theorem moveB {w' : World} (h : HR w0 w O m g) {k key b l l' : Nat} (hk : g key = none) (hl : lens g k = some (some l)) (hm : m k = some b) (ob : OnlyB w w' b) {B : Blk} (hB : B.len? = some l')
    (hv : ∀ (G : Goes w w' (Im m g) (Im (mk1 m key (some b)) (upd g [(key, B), (k, .gone)])) m (mk1 m key (some b)) (lens g) (lens (upd g [(key, B), (k, .gone)]))),
      BVb O w' (Im (mk1 m key (some b)) (upd g [(key, B), (k, .gone)])) (mk1 m key (some b)) (lens (upd g [(key, B), (k, .gone)])) B b) :
    HR w0 w' O (mk1 m key (some b)) (upd g [(key, B), (k, .gone)]) ∧ Goes w w' (Im m g) (Im (mk1 m key (some b)) (upd g [(key, B), (k, .gone)])) m (mk1 m key (some b)) (lens g) (lens (upd g [(key, B), (k, .gone)])) ∧
      lens (upd g [(key, B), (k, .gone)]) key = some (some l') ∧ mk1 m key (some b) key = some b := by
  have hne : key ≠ k := fun e => by subst e; unfold lens at hl; rw [hk] at hl; cases hl
  have hL : ∀ j, lens (upd g [(key, B), (k, .gone)]) j = if key = j then some (some l') else if k = j then some none else lens g j := by
    intro j
    rw [upd_two, lens_upd, lens_upd, hB]; rfl
  have hG : ∀ j, upd g [(key, B), (k, .gone)] j = if key = j then some B else if k = j then some .gone else g j := by
    intro j; rw [upd_two, upd_one, upd_one]
  have G : Goes w w' (Im m g) (Im (mk1 m key (some b)) (upd g [(key, B), (k, .gone)])) m (mk1 m key (some b)) (lens g) (lens (upd g [(key, B), (k, .gone)])) := by
    refine ⟨⟨fun c hc hI ho => ?_, Nat.le_of_eq ob.size.symm, fun c o hc hI => (SameB.of_block (ob.block c (fun e => hI ⟨k, l, hl, e ▸ hm⟩))).cell o, fun j s hs => ?_, fun q n hr => ?_⟩, fun c o ho hod => (ob.block c (fun e => ?_)).trans ho⟩
    · obtain ⟨j, l2, hj, e⟩ := ho
      rw [hL] at hj
      unfold mk1 at e
      by_cases h1 : key = j
      · rw [if_pos h1] at e; cases e; exact hI ⟨k, l, hl, hm⟩
      · rw [if_neg h1] at hj e
        by_cases h2 : k = j
        · rw [if_pos h2] at hj; cases hj
        · rw [if_neg h2] at hj; exact hI ⟨j, l2, hj, e⟩
    · have h1 : key ≠ j := fun e => by subst e; unfold lens at hs; rw [hk] at hs; cases hs
      rw [hL, if_neg h1]
      by_cases h2 : k = j
      · rw [if_pos h2]; exact .inl rfl
      · rw [if_neg h2]
        cases s with
        | none => exact .inl hs
        | some l => exact .inr ⟨l, rfl, hs, if_neg h1⟩
    · by_cases e : q = b
      · subst e; exact ob.room _ hr
      · exact (SameB.of_block (ob.block _ e)).room _ hr
    · subst e
      obtain ⟨b0, e1, e2⟩ := lens_some hl
      have hv0 := h.blk k b0 e1
      rw [hm] at hv0
      rw [(BVb.room hv0 e2).not_odd ho] at hod; cases hod
  have hlen : ∀ j s q, lens (upd g [(key, B), (k, .gone)]) j = some (some s) → mk1 m key (some b) j = some q → (key = j ∧ q = b) ∨ (key ≠ j ∧ k ≠ j ∧ lens g j = some (some s) ∧ m j = some q) := by
    intro j s q hj hq
    rw [hL] at hj
    unfold mk1 at hq
    by_cases h1 : key = j
    · rw [if_pos h1] at hq; cases hq; exact .inl ⟨h1, rfl⟩
    · rw [if_neg h1] at hj hq
      by_cases h2 : k = j
      · rw [if_pos h2] at hj; cases hj
      · rw [if_neg h2] at hj; exact .inr ⟨h1, h2, hj, hq⟩
  refine ⟨h.change ⟨ob.os.trans h.fr.os, ob.tape.trans h.fr.tape, ob.output.trans h.fr.output, by rw [ob.size]; exact h.fr.size, fun c hc ho => ?_⟩ G (fun j c hj => ?_) (fun j j' s s' q hj hj' e e' => ?_) (fun j s q hj hq => ?_), G, by rw [hL, if_pos rfl], if_pos rfl⟩
  · refine (ob.block c (fun e => ?_)).trans (h.fr.block c hc ho)
    rcases h.new _ _ _ hl hm with h1 | h1
    · omega
    · exact ho (e ▸ h1)
  · rw [hG] at hj
    by_cases h1 : key = j
    · subst h1; rw [if_pos rfl] at hj; cases hj; right; unfold mk1; rw [if_pos rfl]; exact hv G
    · rw [if_neg h1] at hj
      by_cases h2 : k = j
      · rw [if_pos h2] at hj; cases hj; right; cases mk1 m key (some b) j <;> trivial
      · rw [if_neg h2] at hj
        left; refine ⟨hj, fun s hs => ⟨if_neg h1, fun q hq => SameB.of_block (ob.block _ (fun e => h2 ?_))⟩⟩
        subst e
        exact (h.inj _ _ _ _ _ (by rw [lens_of hj, hs]) hl hq hm).symm
  · rcases hlen _ _ _ hj e with ⟨h1, h2⟩ | ⟨h1, h2, h3, h4⟩ <;> rcases hlen _ _ _ hj' e' with ⟨k1, k2⟩ | ⟨k1, k2, k3, k4⟩
    · omega
    · subst h2; exact absurd (h.inj _ _ _ _ _ hl k3 hm k4) k2
    · subst k2; exact absurd (h.inj _ _ _ _ _ hl h3 hm h4) h2
    · exact h.inj _ _ _ _ _ h3 k3 h4 k4
  · rcases hlen _ _ _ hj hq with ⟨h1, h2⟩ | ⟨h1, h2, h3, h4⟩
    · subst h2; exact h.new _ _ _ hl hm
    · exact h.new _ _ _ h3 h4

theorem BC.none {B : Blk} {vs : List Value} (h : BC w I m L B vs) (h0 : vs.length = 0) {I' m' L'} {w' : World} : BV O w' I' m' L' B none := by
  cases B with
  | fl ks xs => exact ⟨h.1, List.eq_nil_of_length_eq_zero (by rw [← h.2.1, h0])⟩
  | cs cs => exact List.eq_nil_of_length_eq_zero (by rw [TVs.length h, h0])
  | mp kk vk es => exact h.elim
  | gone => trivial
  | gh id ts => exact h.elim
  | lp id l st pe n ts ps asg body => exact h.elim

theorem cellB_one {B : Blk} {vs : List Value} (h : BC w I m L B vs) (hc : cellB B = true) : ∀ v ∈ vs, v.oneCell' = true := by
  intro v hv
  obtain ⟨i, hi⟩ := List.getElem?_of_mem hv
  cases B with
  | fl ks xs =>
    have hlt : i < xs.length := by have := (List.getElem?_eq_some_iff.1 hi).1; rw [h.2.1] at this; exact this
    have := h.2.2 i _ (List.getElem?_eq_getElem hlt)
    rw [hi] at this; cases this; rfl
  | cs cs =>
    obtain ⟨t, h1, h2⟩ := TVs.get' h hi
    exact cell_one h2 (List.all_eq_true.1 hc t (List.mem_of_getElem? h1))
  | mp kk vk es => exact h.elim
  | gone => exact h.elim
  | gh id ts => exact h.elim
  | lp id l st pe n ts ps asg body => exact h.elim

set_option maxHeartbeats 1000000 in
theorem append_own (h : HR w0 w O m g) {key : Nat} (hk : g key = none) {t t2 ty e e2 : TypeId} {sz by_ n2 cap2 : Nat} {z : Value} {s x : T} {vs : Value} {a2 : Option Addr} {B2 : Blk}
    (hu : P.underlying t = some (.slice e)) (hu2 : P.underlying t2 = some (.slice e2)) (hsz : sz? P e = some (sz + 1)) (hby : bytes? P e = some by_) (hby64 : by_ ≤ 64) (hby1 : 1 ≤ by_)
    (z1 : (zeroValue e).run P w = .ok z w) (hzs : z.cells.size = sz + 1) (hcx : contT g (sz + 1) x = some (n2, B2)) (hcell : cellB B2 = true) (hs : TV w (Im m g) m (lens g) s vs) (hx : TV w (Im m g) m (lens g) x (.slice a2 n2 cap2))
    {k n : Nat} {B1 B : Blk} (hos : ∀ I', TV w I' m (lens g) s vs → TV w I' m (lens g) (.os k (sz + 1) 0 n) vs) (hal : ∃ l, lens g k = some (some l)) (hc1 : contT g (sz + 1) s = some (n, B1)) (hj : joinB B1 B2 = some B)
    (hn : n + n2 ≤ 1099511627776) : StepOk P (Builtin.append_ #[t, t2] ty #[vs, .slice a2 n2 cap2]) w0 w O m g ⟨some (n + n2 ≤ 1099511627776), .ow key (sz + 1) (n + n2), [(key, B), (k, .gone)]⟩ := by
  have hdr : Below w.heap.size w (w.drewN 1) := ⟨rfl, rfl, rfl, Nat.le_refl _, fun _ _ => rfl⟩
  have hd := h.below hdr
  have Gd := Goes.of_below hdr h
  obtain ⟨_, _, v2, e0, x1, x2, x3, x4, _⟩ := contT_ok (P := P) h (by omega) hcx hx
  cases e0
  obtain ⟨_, _, v2', e5, y1, y2, y3, y4, _⟩ := contT_ok (P := P) hd (by omega) hcx (hx.goes Gd)
  cases e5
  obtain ⟨l, hl⟩ := hal
  have hne : key ≠ k := fun e => by subst e; unfold lens at hl; rw [hk] at hl; cases hl
  obtain ⟨a1, cap1, v1, e1, p1, p2, p3, p4, p5⟩ := contT_ok (P := P) h (by omega) hc1 hs
  obtain ⟨a1', cap1', v1', e1', q1, q2, q3, q4, _⟩ := contT_ok (P := P) hd (by omega) hc1 (hs.goes Gd)
  rw [e1] at e1'; cases e1'
  obtain ⟨hz0, hle, h3⟩ := (hos _ hs).os_inv hl
  subst e1
  have hlen12 : ∀ {u1 u2 : List Value}, u1.length = n * (sz + 1) → u2.length = n2 * (sz + 1) → (u1 ++ u2).length = (n + n2) * (sz + 1) := by
    intro u1 u2 h1 h2; rw [List.length_append, h1, h2, Nat.add_mul]
  by_cases hroom : n + n2 ≤ cap1
  · have hbc := joinB_ok hj p3 x3 p4
    rcases h3 with ⟨rfl, a, e3⟩ | ⟨cap, b, hm, e3, hcc, hr⟩
    · cases e3
      have hn2 : n2 = 0 := by omega
      subst hn2
      have hv2 : v2 = [] := List.eq_nil_of_length_eq_zero (by simpa using x2)
      have hv1 : v1 = [] := List.eq_nil_of_length_eq_zero (by simpa using p2)
      subst hv2; subst hv1
      have hrun := run_append_room (P := P) (w := w) (w' := w) (ty := ty) (n := 0) (cap := 0) (a := a1) hu hu2 hsz x1 (by omega) (by cases a1 <;> rfl)
      have hg1 : upd g [(k, Blk.gone)] key = none := by rw [upd_one, if_neg (Ne.symm hne)]; exact hk
      have hN := (h.drop k).newB (k := key) (n := none) (b := B) (Below.refl _ w) hg1 (fun q hq => by cases hq) (hbc.none rfl)
      have hGN := Goes.new (h.drop k) (k := key) (n := none) (b := B) (Below.refl _ w) hg1 (fun q hq => by cases hq)
      rw [← upd_two] at hN hGN
      refine ⟨_, w, _, hrun, hN, (Goes.drop h k).trans hGN, ?_⟩
      have hlk : lens (upd g [(key, B), (k, .gone)]) key = some (some 0) := by rw [upd_two, lens_upd, if_pos rfl, hbc.len]; rfl
      exact .ow (.os0 hlk (by omega) (by omega)) (.inr (by rw [hlk]; simp))
    · cases e3
      rw [Nat.zero_mul] at *
      have hvone : ∀ v ∈ v2, v.oneCell' = true := cellB_one x3 hcell
      obtain ⟨w', c1, c2, c3, c4, c5⟩ := setCells_run (P := P) (ts := []) (vs := v2) (b := b) w (n * (sz + 1)) 0 (by
        exact hr.mono (by rw [x2, Nat.add_zero, ← Nat.add_mul]; exact Nat.mul_le_mul_right _ (by omega))) (by
        obtain ⟨B0, hB0, hBl⟩ := lens_some hl
        have := h.blk k B0 hB0
        rw [hm] at this
        cases B0 with
        | fl ks xs => exact this.2.2.1
        | cs cs => exact this.choose_spec.2.2.1
        | mp kk vk es => obtain ⟨ms, c, h1, _⟩ := this; intro o; simp [World.frozen?, h1]
        | gone => cases hBl
        | gh id ts => cases hBl
        | lp id l st pe n ts ps asg body => cases hBl) hvone
      have hrun := run_append_room (P := P) (w := w) (w' := w') (ty := ty) (n := n) (cap := cap1) (a := some ⟨b, 0, none⟩) (cap2 := cap2) hu hu2 hsz x1 hroom (by
        show (storeCells ((⟨b, 0, none⟩ : Addr).add (n * (sz + 1))) v2).run P w = _
        rw [add_at, Nat.zero_add]; exact c1)
      have hroom' : Room w' b ((n + n2) * (sz + 1)) := c2.room _ (by
        exact hr.mono (Nat.mul_le_mul_right _ (by omega)))
      have hcells : CellsAt w' b 0 (v1 ++ v2) := by
        intro i v hi
        rw [Nat.zero_add]
        rw [List.getElem?_append] at hi
        split at hi
        · rename_i hlt
          rw [c4 i (by left; omega)]
          rcases p5 with p5 | ⟨b5, o5, e5, hca⟩
          · subst p5; simp at p2; subst p2; simp at hlt
          · cases e5
            have := hca i v hi
            rwa [Nat.zero_add] at this
        · rename_i hlt
          have := c5 _ v hi
          rw [p2, Nat.add_zero] at this
          rwa [show n * (sz + 1) + (i - n * (sz + 1)) = i by omega] at this
      obtain ⟨M1, M2, M3, M4⟩ := moveB h hk hl hm c2 (B := B) (hbc.len.trans (by rw [hlen12 p2 x2])) (fun G => hbc.blk G (by rw [hlen12 p2 x2]; exact hroom') c3 hcells)
      refine ⟨_, w', _, hrun, M1, M2, ?_⟩
      have htv := TV.os (w := w') (I := Im (mk1 m key (some b)) (upd g [(key, B), (k, .gone)])) (off := 0) (n := n + n2) (cap := cap1) (sz := sz + 1) M3 M4 (by rw [Nat.zero_add]; exact Nat.le_refl _) (by omega) (by omega) (by rw [Nat.zero_add]; rw [Nat.zero_add] at hr; exact c2.room _ hr)
      rw [Nat.zero_mul] at htv
      exact .ow htv (.inr M3)
  · have hbc := joinB_ok hj q3 y3 q4
    have hcap1 : cap1 < n + n2 := by omega
    have hnc := nextcap_le _ _ hcap1
    obtain ⟨newCap, rest, r1, r2, r3⟩ := run_append_grow (P := P) (w := w) (ty := ty) (a2 := a2) (cap2 := cap2) hu hu2 hsz (zero_all z1) hzs hby q1 y1 q2 y2 hroom hby1 (by
      have : Builtin.nextslicecap (n + n2) cap1 * by_ ≤ (n + n2 + (n + n2) + 512) * 64 := Nat.mul_le_mul (by omega) hby64
      omega)
    have hg1 : upd g [(k, Blk.gone)] key = none := by rw [upd_one, if_neg (Ne.symm hne)]; exact hk
    obtain ⟨N1, N2, N3, N4, N5⟩ := newBlkC (hd.drop k) hg1 (hbc.goes (Goes.drop hd k)) e rest
    rw [← upd_two] at N1 N2 N3
    refine ⟨_, _, _, r1, N1, Gd.trans ((Goes.drop hd k).trans N2), ?_⟩
    have hb0 : (v1' ++ v2').length + rest.length = newCap * (sz + 1) := by rw [← r3, List.length_append (bs := rest)]
    rw [hlen12 q2 y2] at N3
    have htv := TV.os (w := (w.drewN 1).alloc (.cells ((v1' ++ v2') ++ rest).toArray e)) (I := Im (mk1 m key (some (w.drewN 1).heap.size)) (upd g [(key, B), (k, .gone)])) (off := 0) (n := n + n2) (cap := newCap) (sz := sz + 1) N3 N4 (by rw [Nat.zero_add]; exact Nat.le_refl _) (by omega) (by omega) (by rw [Nat.zero_add, ← hb0]; exact N5)
    rw [Nat.zero_mul] at htv
    exact .ow htv (.inr N3)
set_option maxHeartbeats 1000000 in
theorem appendT_ok (h : HR w0 w O m g) {key : Nat} (hk : g key = none) {t t2 ty : TypeId} {s x : T} {vs vx : Value} {o : Out} (ho : appendT P g key t t2 s x = some o) (hok : o.ok)
    (hs : TV w (Im m g) m (lens g) s vs) (hx : TV w (Im m g) m (lens g) x vx) : StepOk P (Builtin.append_ #[t, t2] ty #[vs, vx]) w0 w O m g o := by
  unfold appendT at ho
  split at ho
  · rename_i e e2 hu hu2
    split at ho
    · rename_i sz zs by_ hsz hz hby
      split at ho
      · rename_i hc
        rw [Bool.and_eq_true, Bool.and_eq_true, Nat.beq_eq, Nat.ble_eq, Nat.ble_eq] at hc
        obtain ⟨⟨hzl, hby64⟩, hby1⟩ := hc
        obtain ⟨z, z1, z2⟩ := zeroT_some (w := w) (m := m) (I := Im m g) (L := lens g) hz
        have hzs : z.cells.size = sz + 1 := by rw [← Array.length_toList, ← z2.length, hzl]
        have hdr : Below w.heap.size w (w.drewN 1) := ⟨rfl, rfl, rfl, Nat.le_refl _, fun _ _ => rfl⟩
        have hd := h.below hdr
        have Gd := Goes.of_below hdr h
        split at ho
        · rename_i n2 B2 hcx
          obtain ⟨a2, cap2, v2, rfl, x1, x2, x3, x4, _⟩ := contT_ok (P := P) h (by omega) hcx hx
          obtain ⟨a2', cap2', v2', e5, y1, y2, y3, y4, _⟩ := contT_ok (P := P) hd (by omega) hcx (hx.goes Gd)
          cases e5
          split at ho
          case isFalse => cases ho
          rename_i hcell
          split at ho
          · -- nil
            have ho' := ho
            cases ho
            have hq := hok _ rfl
            obtain ⟨rfl, -⟩ := hs.v_inv
            by_cases hn2 : n2 = 0
            · subst hn2
              have hv2 : v2 = [] := List.eq_nil_of_length_eq_zero (by simpa using x2)
              subst hv2
              have hrun := run_append_room (P := P) (w := w) (w' := w) (ty := ty) (n := 0) (cap := 0) (a := none) hu hu2 hsz x1 (by omega) rfl
              have hN := h.newB (k := key) (n := none) (b := B2) (Below.refl _ w) hk (fun q hq => by cases hq) (x3.none rfl)
              refine ⟨_, w, _, hrun, hN, Goes.new h (k := key) (n := none) (b := B2) (Below.refl _ w) hk (fun q hq => by cases hq), ?_⟩
              have hlk : lens (upd g [(key, B2)]) key = some (some 0) := by rw [lens_upd, if_pos rfl, x3.len]; rfl
              exact .ow (.os0 hlk (by omega) (by omega)) (.inr (by rw [hlk]; simp))
            · obtain ⟨newCap, rest, r1, r2, r3⟩ := run_append_grow (P := P) (w := w) (ty := ty) (n := 0) (cap := 0) (a := none) (a2 := a2) (cap2 := cap2) (v1 := []) hu hu2 hsz (zero_all z1) hzs hby rfl y1 (by simp) y2 (by omega) hby1 (by
                have : Builtin.nextslicecap (0 + n2) 0 = n2 := by unfold Builtin.nextslicecap; rw [if_pos (by omega)]; omega
                rw [this]; omega)
              simp only [List.nil_append, Nat.zero_add] at r1 r2 r3
              have hqn : n2 ≤ 140737488355328 := Nat.le_trans (Nat.le_mul_of_pos_right n2 (by omega)) hq
              obtain ⟨N1, N2, N3, N4, N5⟩ := newBlkC hd hk y3 e rest
              refine ⟨_, _, _, r1, N1, Gd.trans N2, ?_⟩
              have hb0 : v2'.length + rest.length = newCap * (sz + 1) := by rw [← r3, List.length_append]
              rw [y2] at N3
              have htv := TV.os (w := (w.drewN 1).alloc (.cells (v2' ++ rest).toArray e)) (I := Im (mk1 m key (some (w.drewN 1).heap.size)) (upd g [(key, B2)])) (off := 0) (n := n2) (cap := newCap) (sz := sz + 1) N3 N4 (by rw [Nat.zero_add]; exact Nat.le_refl _) (by omega) (by omega) (by rw [Nat.zero_add, ← hb0]; exact N5)
              rw [Nat.zero_mul] at htv
              exact .ow htv (.inr N3)
          · rename_i k s1 n
            split at ho
            · rename_i hs1; rw [Nat.beq_eq] at hs1
              subst hs1
              split at ho
              · rename_i n' B1 hc1
                split at ho
                · rename_i B hj
                  have ho' := ho
                  cases ho
                  have hal : g.alive k = true := by
                    unfold contT at hc1; simp only [Nat.beq_refl, if_true] at hc1
                    unfold Mem.alive; split at hc1 <;> first | (rename_i e9; rw [e9]; done) | (rename_i e9; simp [e9]; done) | cases hc1
                  have hn' : n' = n := by
                    unfold contT at hc1; simp only [Nat.beq_refl, if_true] at hc1
                    split at hc1
                    · split at hc1 <;> cases hc1; rfl
                    · cases hc1; rfl
                    · cases hc1
                  subst hn'
                  obtain ⟨l, hl⟩ := alive_lens hal
                  exact append_own h hk hu hu2 hsz hby hby64 hby1 z1 hzs hcx hcell hs hx (fun I' hh => by cases hh with | ow hh _ => exact hh) ⟨l, hl⟩ hc1 hj (hok _ rfl)
                · cases ho
              · cases ho
            · cases ho
          · rename_i k s1 n
            split at ho
            · rename_i hs1; rw [Nat.beq_eq] at hs1
              subst hs1
              split at ho
              · rename_i n' B1 hc1
                split at ho
                · rename_i B hj
                  have ho' := ho
                  cases ho
                  have hal : g.alive k = true := by
                    unfold contT at hc1; simp only [Nat.beq_refl, if_true] at hc1
                    unfold Mem.alive; split at hc1 <;> first | (rename_i e9; rw [e9]; done) | (rename_i e9; simp [e9]; done) | cases hc1
                  have hn' : n' = n := by
                    unfold contT at hc1; simp only [Nat.beq_refl, if_true] at hc1
                    split at hc1
                    · split at hc1 <;> cases hc1; rfl
                    · cases hc1; rfl
                    · cases hc1
                  subst hn'
                  obtain ⟨l, hl⟩ := alive_lens hal
                  exact append_own h hk hu hu2 hsz hby hby64 hby1 z1 hzs hcx hcell hs hx (fun I' hh => hh) ⟨l, hl⟩ hc1 hj (hok _ rfl)
                · cases ho
              · cases ho
            · cases ho
          · cases ho
        · cases ho
      · cases ho
    · cases ho
  · cases ho

theorem wrap_small {x : Int} (h0 : 0 ≤ x) (h1 : x ≤ 1099511627776) : IntKind.i64.wrap x = x := by
  have e : IntKind.i64.wrap x = (if x % 18446744073709551616 ≥ 9223372036854775808 then x % 18446744073709551616 - 18446744073709551616 else x % 18446744073709551616) := by
    simp [IntKind.wrap, IntKind.bits, IntKind.signed]
  rw [e, Int.emod_eq_of_lt h0 (by omega), if_neg (by omega)]

theorem map_zero {z : Value} {s n : Nat} (hl : z.cells.size = s + 1) :
    (Array.range n).map (fun x => z.cells[x % z.cells.size]!) = ((List.range n).map fun i => z.cells.toList[i % (s + 1)]!).toArray := by
  apply Array.ext'
  rw [Array.toList_map, Array.toList_range, hl]
  apply List.map_congr_left; intro i _
  cases z.cells; simp

set_option maxHeartbeats 1000000 in
theorem makeSliceT_ok (h : HR w0 w O m g) {key : Nat} (hk : g key = none) {t : TypeId} {l c : T} {vl vc : Value} {o : Out} (ho : makeSliceT P key t l c = some o) (hok : o.ok)
    (hl : TV w (Im m g) m (lens g) l vl) (hc : TV w (Im m g) m (lens g) c vc) : StepOk P (Instr.makeSlice t vl vc) w0 w O m g o := by
  unfold makeSliceT at ho
  split at ho
  · rename_i e k1 l k2 c hu
    obtain ⟨rfl, -⟩ := hl.v_inv
    obtain ⟨rfl, -⟩ := hc.v_inv
    split at ho
    · rename_i sz zs by_ hsz hz hby
      split at ho
      · rename_i hcc
        rw [Bool.and_eq_true, Nat.beq_eq, Nat.ble_eq] at hcc
        obtain ⟨hzl, hby64⟩ := hcc
        obtain ⟨z, z1, z2⟩ := zeroT_some (w := w) (m := m) (I := Im m g) (L := lens g) hz
        have hzs : z.cells.size = sz + 1 := by rw [← Array.length_toList, ← z2.length, hzl]
        obtain ⟨i, hi, hib⟩ : ∃ i, P.info? e = some i ∧ i.bytes = by_ := by
          unfold bytes? at hby
          cases hi : P.info? e with
          | none => rw [hi] at hby; cases hby
          | some i => rw [hi] at hby; cases hby; exact ⟨i, rfl, rfl⟩
        have main : ∀ (B : Blk), (0 ≤ l ∧ l ≤ c ∧ c ≤ 1099511627776) → BC w (Im m g) m (lens g) B ((List.range (l.toNat * (sz + 1))).map fun i => z.cells.toList[i % (sz + 1)]!) →
            StepOk P (Instr.makeSlice t (.int k1 l) (.int k2 c)) w0 w O m g ⟨some (0 ≤ l ∧ l ≤ c ∧ c ≤ 1099511627776), .ow key (sz + 1) l.toNat, [(key, B)]⟩ := by
          intro B ⟨h0, h1, h2⟩ hB
          have e1 : IntKind.i64.wrap l = l := wrap_small h0 (by omega)
          have e2 : IntKind.i64.wrap c = c := wrap_small (by omega) h2
          have hsplit : c.toNat * (sz + 1) = l.toNat * (sz + 1) + (c.toNat - l.toNat) * (sz + 1) := by rw [← Nat.add_mul]; congr 1; omega
          have e3 : ((List.range (c.toNat * (sz + 1))).map fun i => z.cells.toList[i % (sz + 1)]!) = ((List.range (l.toNat * (sz + 1))).map fun i => z.cells.toList[i % (sz + 1)]!) ++ ((List.range ((c.toNat - l.toNat) * (sz + 1))).map fun i => z.cells.toList[i % (sz + 1)]!) := by
            rw [hsplit, List.range_add, List.map_append]
            congr 1
            rw [List.map_map]
            apply List.map_congr_left; intro i _
            simp only [Function.comp]
            rw [Nat.add_comm, Nat.add_mul_mod_self_right]
          obtain ⟨N1, N2, N3, N4, N5⟩ := newBlkC h hk hB e ((List.range ((c.toNat - l.toNat) * (sz + 1))).map fun i => z.cells.toList[i % (sz + 1)]!)
          rw [← e3] at N1 N2 N5
          refine ⟨.slice (some ⟨w.heap.size, 0, none⟩) l.toNat c.toNat, _, _, ?_, N1, N2, ?_⟩
          · have hbc : (by_ : Int) * c ≤ 2 ^ 48 := by
              have : (by_ : Int) * c ≤ 64 * 1099511627776 := Int.mul_le_mul (by omega) h2 (by omega) (by omega)
              omega
            have hti : (typeInfo e).run P w = .ok i w := by rw [run_typeInfo, hi]
            simp only [Instr.makeSlice, Sem.run_bind, run_underlying, hu, Result.andThen_ok, asInt, asIntOf, Sem.run_pure, hti, hib, e1, e2]
            rw [if_neg (by simp; omega)]
            simp only [Sem.run_bind, run_askRoom, Result.andThen_ok, sz_some hsz, Sem.run_pure]
            by_cases hn0 : c.toNat * (sz + 1) = 0
            · rw [if_pos hn0, hn0]
              have e9 : ∀ f : Nat → Value, Array.map f (Array.range 0) = #[] := fun f => by apply Array.ext'; simp
              simp only [Sem.run_bind, Sem.run_pure, Result.andThen_ok, newRow, run_newObj, e9]
              rfl
            · rw [if_neg hn0]
              simp only [Sem.run_bind, z1, Sem.run_pure, Result.andThen_ok, newRow, run_newObj, map_zero hzs]
              rfl
          · have hlen : ((List.range (l.toNat * (sz + 1))).map fun i => z.cells.toList[i % (sz + 1)]!).length = l.toNat * (sz + 1) := by simp
            rw [hlen] at N3
            have htv := TV.os (w := w.alloc (.cells ((List.range (c.toNat * (sz + 1))).map fun i => z.cells.toList[i % (sz + 1)]!).toArray e)) (I := Im (mk1 m key (some w.heap.size)) (upd g [(key, B)])) (off := 0) (n := l.toNat) (cap := c.toNat) (sz := sz + 1) N3 N4 (by rw [Nat.zero_add]; exact Nat.le_refl _) (by omega) (by omega)
              (by rw [Nat.zero_add]; have N6 := N5; simp only [List.length_map, List.length_range] at N6; rwa [← hsplit] at N6)
            rw [Nat.zero_mul] at htv
            exact .ow htv (.inr N3)
        have hzlen : z.cells.toList.length = sz + 1 := by rw [Array.length_toList, hzs]
        split at ho
        · rename_i k ks xs e0
          split at ho
          · rename_i h00
            cases ho
            refine main _ (hok _ rfl) ?_
            obtain ⟨a1, a2, a3⟩ := ints_inv e0 z2
            have hxl : xs.length = sz + 1 := by rw [← a2, hzlen]
            refine ⟨by simp, by simp [mulN_eq], fun i x hx => ?_⟩
            rw [mulN_eq] at hx
            have hlt : i < l.toNat * (sz + 1) := by have := (List.getElem?_eq_some_iff.1 hx).1; simpa using this
            rw [List.getElem?_replicate_of_lt hlt] at hx
            cases hx
            rw [List.getElem?_map, List.getElem?_range hlt]
            have hm : i % (sz + 1) < xs.length := by rw [hxl]; exact Nat.mod_lt _ (by omega)
            obtain ⟨k', b1, b2⟩ := a3 _ _ (List.getElem?_eq_getElem hm)
            have hx0 : xs[i % (sz + 1)] = 0 := by
              have := List.all_eq_true.1 h00 _ (List.getElem_mem hm)
              simpa using this
            simp only [Option.map_some]
            rw [getElem!_pos _ _ (by rw [hzlen]; exact Nat.mod_lt _ (by omega))]
            rw [List.getElem?_eq_getElem (by rw [hzlen]; exact Nat.mod_lt _ (by omega))] at b2
            rw [Option.some.inj b2, hx0]
            have hkl : (k :: ks).length = sz + 1 := by rw [a1, hxl]
            have : kc (k :: ks) i = k' := by
              unfold kc; rw [hkl, List.getD_eq_getElem?_getD, b1]; rfl
            rw [this]
          · cases ho
        · cases ho
          refine main _ (hok _ rfl) ?_
          have := rep_ok z2 l.toNat
          rw [flatten_rep _ (sz + 1) _ hzlen (by omega)] at this
          exact this
      · cases ho
    · cases ho
  · cases ho

theorem minT_ok {ty : TypeId} {ats : Array TypeId} {x y : T} {vx vy : Value} {o : Out} (h : minT x y = some o) (hx : TV w I m L x vx) (hy : TV w I m L y vy) : PureOk P (Builtin.min_ ats ty #[vx, vy]) w I m L o := by
  unfold minT at h
  split at h
  · split at h
    · rename_i e; subst e
      obtain ⟨rfl, -⟩ := hx.v_inv; obtain ⟨rfl, -⟩ := hy.v_inv
      exact pureV h rfl (by simp [Builtin.min_, Builtin.min2])
    · cases h
  · cases h
theorem maxT_ok {ty : TypeId} {ats : Array TypeId} {x y : T} {vx vy : Value} {o : Out} (h : maxT x y = some o) (hx : TV w I m L x vx) (hy : TV w I m L y vy) : PureOk P (Builtin.max_ ats ty #[vx, vy]) w I m L o := by
  unfold maxT at h
  split at h
  · split at h
    · rename_i e; subst e
      obtain ⟨rfl, -⟩ := hx.v_inv; obtain ⟨rfl, -⟩ := hy.v_inv
      exact pureV h rfl (by simp [Builtin.max_, Builtin.max2])
    · cases h
  · cases h
theorem isZ_ok {t : T} {v : Value} (h : isZ t = true) (hv : TV w I m L t v) : ∃ k, v = .int k 0 := by
  unfold isZ at h
  split at h
  · obtain ⟨rfl, -⟩ := hv.v_inv; exact ⟨_, by rw [eq_of_beq h]⟩
  · cases h
theorem isSl_ok {t : T} {v : Value} (h : isSl t = true) (hv : TV w I m L t v) : ∃ a n c, v = .slice a n c := by
  unfold isSl at h
  split at h
  · cases hv <;> exact ⟨_, _, _, rfl⟩
  · cases hv <;> exact ⟨_, _, _, rfl⟩
  · cases hv <;> exact ⟨_, _, _, rfl⟩
  · cases hv with | ow h _ => cases h <;> exact ⟨_, _, _, rfl⟩
  · obtain ⟨rfl, -⟩ := hv.v_inv; exact ⟨_, _, _, rfl⟩
  · cases h
theorem clipT_ok (h : HR w0 w O m g) {key : Nat} (hk : g key = none) {t : TypeId} {x mx : T} {lo hi : Option T} {vx vm : Value} {vlo vhi : Option Value} {o : Out} (ho : clipT P key t x lo hi mx = some o)
    (hx : TV w (Im m g) m (lens g) x vx) (hlo : OTV w (Im m g) m (lens g) lo vlo) (hhi : OTV w (Im m g) m (lens g) hi vhi) (hm : TV w (Im m g) m (lens g) mx vm) :
    StepOk P (Instr.sliceAt t vx vlo vhi (some vm)) w0 w O m g o := by
  unfold clipT at ho
  split at ho
  · rename_i e hi' hu
    split at ho
    · rename_i s hs
      split at ho
      · rename_i hc
        simp only [Bool.and_eq_true] at hc
        obtain ⟨⟨⟨c1, c2⟩, c3⟩, c4⟩ := hc
        cases ho
        obtain ⟨a, n, c, rfl⟩ := isSl_ok c1 hx
        obtain ⟨km, rfl⟩ := isZ_ok c4 hm
        obtain ⟨kh, rfl⟩ : ∃ kh, vhi = some (.int kh 0) := by
          cases vhi with
          | none => exact hhi.elim
          | some v => obtain ⟨k, rfl⟩ := isZ_ok c3 hhi; exact ⟨k, rfl⟩
        have hl : vlo = none ∨ ∃ k, vlo = some (.int k 0) := by
          cases vlo with
          | none => exact .inl rfl
          | some v =>
            cases lo with
            | none => exact hlo.elim
            | some t => obtain ⟨k, rfl⟩ := isZ_ok (t := t) c2 hlo; exact .inr ⟨k, rfl⟩
        have hb : (Instr.sliceBounds true n c vlo (some (.int kh 0)) (some (.int km 0))).run P w = .ok (0, 0, 0) w := by
          rcases hl with rfl | ⟨k, rfl⟩ <;> simp [Instr.sliceBounds, Instr.sliceBound, asIntOf]
        have hrun : (Instr.sliceAt t (.slice a n c) vlo (some (.int kh 0)) (some (.int km 0))).run P w = .ok (.slice a 0 0) w := by
          simp [Instr.sliceAt, Instr.slice, Sem.run_bind, run_underlying, hu, hb, sz_some hs]
        have hN := h.newB (k := key) (n := none) (b := .cs []) (Below.refl _ w) hk (fun q hq => by cases hq) rfl
        refine ⟨_, w, _, hrun, hN, Goes.new h (k := key) (n := none) (b := .cs []) (Below.refl _ w) hk (fun q hq => by cases hq), ?_⟩
        have hlk : lens (upd g [(key, .cs [])]) key = some (some 0) := by rw [lens_upd, if_pos rfl]; rfl
        exact .ow (.os0 hlk (by omega) (by omega)) (.inr (by rw [hlk]; simp))
      · cases ho
    · cases ho
  · cases ho
theorem spl_len {xs ys : List Int} {o : Nat} (h : o + ys.length ≤ xs.length) : (spl xs o ys).length = xs.length := by
  unfold spl; simp only [List.length_append, List.length_take, List.length_drop]; omega
theorem spl_at {xs ys : List Int} {o i : Nat} (h : o + ys.length ≤ xs.length) : (spl xs o ys)[i]? = if i < o then xs[i]? else if i < o + ys.length then ys[i - o]? else xs[i]? := by
  unfold spl
  rw [List.getElem?_append]
  have hl : (xs.take o).length = o := by rw [List.length_take]; omega
  rw [hl]
  by_cases h1 : i < o
  · rw [if_pos h1, if_pos h1, List.getElem?_take_of_lt h1]
  · rw [if_neg h1, if_neg h1, List.getElem?_append]
    by_cases h2 : i < o + ys.length
    · rw [if_pos (by omega), if_pos h2]
    · rw [if_neg (by omega), if_neg h2, List.getElem?_drop]
      congr 1; omega
theorem copyT_ok (h : HR w0 w O m g) {t t2 ty : TypeId} {s x : T} {vs vx : Value} {o : Out} (ho : copyT P g t s x = some o)
    (hs : TV w (Im m g) m (lens g) s vs) (hx : TV w (Im m g) m (lens g) x vx) : StepOk P (Builtin.copy_ #[t, t2] ty #[vs, vx]) w0 w O m g o := by
  unfold copyT at ho
  split at ho
  · rename_i e hu
    split at ho
    · rename_i sz hsz
      split at ho
      · rename_i n2 ks ys k s1 off n hcx hos
        split at ho
        · rename_i ks1 xs hgk
          split at ho
          · rename_i hc
            simp only [Bool.and_eq_true, decide_eq_true_eq, Nat.beq_eq] at hc
            obtain ⟨⟨rfl, rfl⟩, hkl⟩ := hc
            cases ho
            obtain ⟨a2, cap2, v2, rfl, x1, x2, x3, _, x5⟩ := contT_ok (P := P) h (by omega) hcx hx
            have hl : lens g k = some (some xs.length) := by rw [lens_of hgk]; rfl
            have hs' : TV w (Im m g) m (lens g) (.os k (sz + 1) off n) vs := by
              cases s <;> simp only [osOf] at hos <;> cases hos
              · exact hs
              · cases hs with | ow hh _ => exact hh
            obtain ⟨hz0, hle, h3⟩ := hs'.os_inv hl
            have hmin : Nat.min n2 n = minN n2 n := by
              unfold minN
              split
              · exact Nat.min_eq_left (by assumption)
              · exact Nat.min_eq_right (by omega)
            have hm1 : minN n2 n ≤ n2 := by unfold minN; split <;> omega
            have hm2 : minN n2 n ≤ n := by unfold minN; split <;> omega
            generalize hcn : minN n2 n = c at *
            obtain ⟨hne, y1, y2⟩ := x3
            have hfc : (Builtin.firstCells (sz + 1) c (.slice a2 n2 cap2)).run P w = .ok (v2.take (c * (sz + 1))).toArray w := by
              rcases x5 with x5 | ⟨b5, o5, rfl, hca⟩
              · subst x5
                obtain rfl : c = 0 := by omega
                rw [Nat.zero_mul, List.take_zero]
                cases a2
                · rfl
                · rename_i a0
                  have := loadCells_ok (P := P) (w := w) (a := a0) (vs := []) (0 * (sz + 1)) (by simp) (fun i v hi => by simp at hi)
                  rw [List.take_nil] at this
                  exact this
              · exact loadCells_ok (P := P) (w := w) (a := ⟨b5, o5, none⟩) (vs := v2) (c * (sz + 1)) (by rw [x2]; exact Nat.mul_le_mul_right _ hm1) (fun i v hi => by rw [add_at]; exact hca i v hi)
            have hoff : off * (sz + 1) % ks1.length = 0 := by rw [hkl]; exact Nat.mul_mod_left _ _
            have hyl : (ys.take (mulN c (sz + 1))).length = c * (sz + 1) := by
              rw [mulN_eq, List.length_take, ← y1, x2]
              have := Nat.mul_le_mul_right (sz + 1) hm1
              omega
            have hfit : off * (sz + 1) + (ys.take (mulN c (sz + 1))).length ≤ xs.length := by
              rw [hyl, ← Nat.add_mul]
              exact Nat.le_trans (Nat.mul_le_mul_right _ (by omega)) hle
            have run : ∀ (a1 : Option Addr) (cap1 : Nat) (w' : World), (match a1 with | some a => (storeCells a (v2.take (c * (sz + 1)))).run P w = .ok () w' | none => w' = w) →
                (Builtin.copy_ #[t, t2] ty #[.slice a1 n cap1, .slice a2 n2 cap2]).run P w = .ok (.int .i64 c) w' := by
              intro a1 cap1 w' hw
              cases a1 with
              | none =>
                dsimp only at hw
                subst hw
                simp only [Builtin.copy_, Sem.run_bind, run_underlying, hu, Result.andThen_ok, sz_some hsz, Array.getElem?_toList, List.getElem?_toArray, List.getElem?_cons_zero, List.getElem?_cons_succ, Sem.run_pure, Builtin.lenOf, hmin, hfc]
                rfl
              | some a =>
                dsimp only at hw
                simp only [Builtin.copy_, Sem.run_bind, run_underlying, hu, Result.andThen_ok, sz_some hsz, Array.getElem?_toList, List.getElem?_toArray, List.getElem?_cons_zero, List.getElem?_cons_succ, Sem.run_pure, Builtin.lenOf, hmin, hfc, hw]
                rfl
            rcases h3 with ⟨rfl, a, e3⟩ | ⟨cap, b, hmk, e3, hcc, hr⟩
            · subst e3
              obtain rfl : c = 0 := by omega
              have hsame : upd g [(k, .fl ks1 (spl xs (mulN off (sz + 1)) (ys.take (mulN 0 (sz + 1)))))] = g := by
                funext j
                rw [upd_one]
                by_cases hj : k = j
                · subst hj; rw [if_pos rfl, hgk]; simp [mulN_eq, spl, List.take_append_drop]
                · rw [if_neg hj]
              refine ⟨.int .i64 0, w, m, run a 0 w ?_, ?_, ?_, .v rfl⟩
              · cases a
                · rfl
                · simp [storeCells]
              · rw [hsame]; exact h
              · rw [hsame]; exact Goes.refl h
            · subst e3
              have hvl : (v2.take (c * (sz + 1))).length = c * (sz + 1) := by
                rw [List.length_take, x2]
                have := Nat.mul_le_mul_right (sz + 1) hm1
                omega
              have hB := h.blk k _ hgk
              rw [hmk] at hB
              obtain ⟨b1, b2, b3, b4⟩ := hB
              have hone : ∀ v ∈ v2.take (c * (sz + 1)), v.oneCell' = true := by
                intro v hv
                obtain ⟨i, hi, e⟩ := List.getElem_of_mem (List.mem_of_mem_take hv)
                have := y2 i ys[i] (List.getElem?_eq_getElem (by omega))
                rw [List.getElem?_eq_getElem hi, e] at this
                rw [Option.some.inj this]; rfl
              obtain ⟨w', c1, c2, c3, c4, c5⟩ := setCells_run (P := P) (ts := []) (vs := v2.take (c * (sz + 1))) (b := b) w (off * (sz + 1)) 0 (by
                refine hr.mono ?_
                rw [hvl, Nat.add_zero, ← Nat.add_mul]
                exact Nat.mul_le_mul_right _ (by omega)) b3 hone
              have hfit' : mulN off (sz + 1) + (ys.take (mulN c (sz + 1))).length ≤ xs.length := by rw [mulN_eq]; exact hfit
              have hlen : (Blk.fl ks1 (spl xs (mulN off (sz + 1)) (ys.take (mulN c (sz + 1))))).len? = some xs.length := by simp only [Blk.len?, spl_len hfit']
              refine ⟨.int .i64 c, w', m, run (some ⟨b, off * (sz + 1), none⟩) cap w' c1, h.setB hl hmk c2 hlen ⟨b1, by rw [spl_len hfit']; exact c2.room _ b2, c3, fun i y hy => ?_⟩, Goes.setB h hl hmk c2 hlen, .v rfl⟩
              rw [spl_at hfit', mulN_eq] at hy
              rw [hyl] at hy
              rw [Nat.zero_add]
              have old : ∀ j, xs[j]? = some y → j = i → w.cell? ⟨b, i, none⟩ = some (.int (kc ks1 i) y) := by
                rintro j hj rfl
                have := b4 j y hj
                rwa [Nat.zero_add] at this
              by_cases h1 : i < off * (sz + 1)
              · rw [if_pos h1] at hy
                rw [c4 i (by left; omega)]; exact old i hy rfl
              · rw [if_neg h1] at hy
                by_cases h2 : i < off * (sz + 1) + c * (sz + 1)
                · rw [if_pos h2, mulN_eq, List.getElem?_take_of_lt (by omega)] at hy
                  have hv := y2 _ y hy
                  have hv' : (v2.take (c * (sz + 1)))[i - off * (sz + 1)]? = some (Value.int (kc ks1 (i - off * (sz + 1))) y) := by rw [List.getElem?_take_of_lt (by omega)]; exact hv
                  have := c5 _ _ hv'
                  rw [show off * (sz + 1) + 0 + (i - off * (sz + 1)) = i by omega] at this
                  rw [this, ← kc_mod (i := i - off * (sz + 1)) hoff, show off * (sz + 1) + (i - off * (sz + 1)) = i by omega]
                · rw [if_neg h2] at hy
                  rw [c4 i (by right; rw [hvl]; omega)]; exact old i hy rfl
          · cases ho
        · cases ho
      · cases ho
    · cases ho
  · cases ho
end
end Go.Proofs.YtnplgklnkcjmnaaGreatDoor.Am
namespace Go.Proofs.YtnplgklnkcjmnaaGreatDoor.Am
set_option linter.unusedVariables false
open Go.RowKit

section
variable {P : Program} {w0 w : World} {O : Env} {m : Nat → Option Nat} {g : Mem}

theorem makeMapT_ok (h : HR w0 w O m g) {key : Nat} (hk : g key = none) {t : TypeId} {r : Option T} {vr : Option Value} (hr : r = none → vr = none) {o : Out} (ho : makeMapT P key t r = some o) : StepOk P (Instr.makeMap t vr) w0 w O m g o := by
  unfold makeMapT at ho
  split at ho
  · rw [hr rfl]
    split at ho
    · rename_i kk vk e
      cases ho
      have hb : Below w.heap.size w (w.alloc (.map #[] 0)) := (Below.refl _ w).alloc (Nat.le_refl _) _
      have hn : ∀ q, some w.heap.size = some q → w.heap.size ≤ q := fun q e => by cases e; exact Nat.le_refl _
      have N := HR.newB (b := .mp kk vk []) (n := some w.heap.size) h hb hk hn ⟨#[], 0, (MapKept.heap_alloc w _).1, rfl, MapKept.stamped_empty 0⟩
      refine ⟨.map (some w.heap.size), _, _, rfl, N, Goes.new h hb hk hn, TV.mp ?_ ?_⟩
      · show lens (upd g [(key, .mp kk vk [])]) key = _
        rw [lens_upd, if_pos rfl]; rfl
      · unfold mk1; rw [if_pos rfl]
    · cases ho
  · cases ho
def kv (e : MapEntry) : Value × Value := (e.key, e.val)
def kvT (kk : IntKind) (vk : MK) (p : Int × Int) : Value × Value := (.int kk p.1, mval vk p.2)
theorem find_none {kk : IntKind} {vk : MK} {a : Int} : ∀ {ms : List MapEntry} {es : List (Int × Int)} {i : Nat}, ms.map kv = es.map (kvT kk vk) → mgetL es a = none →
    Instr.findNow (.int kk) (.int kk a) ms i = some none ∧ ∀ b, mputL es a b = es ++ [(a, b)]
  | ms, [], i, h, hg => by
    cases ms with
    | nil => exact ⟨rfl, fun b => rfl⟩
    | cons e r => simp at h
  | [], p :: es, i, h, hg => by simp at h
  | e :: ms, (x, y) :: es, i, h, hg => by
    simp only [List.map_cons, List.cons.injEq] at h
    obtain ⟨h1, h2⟩ := h
    simp only [kv, kvT, Prod.mk.injEq] at h1
    simp only [mgetL] at hg
    split at hg
    · cases hg
    · rename_i hne
      obtain ⟨r1, r2⟩ := find_none (i := i + 1) h2 hg
      refine ⟨?_, fun b => by simp only [mputL, if_neg hne, r2 b, List.cons_append]⟩
      simp only [Instr.findNow, h1.1, Instr.sameNow, if_pos]
      rw [show (a == x) = false from by simpa using hne]
      exact r1
theorem find_some {kk : IntKind} {vk : MK} {a v : Int} : ∀ {ms : List MapEntry} {es : List (Int × Int)} {i : Nat}, ms.map kv = es.map (kvT kk vk) → mgetL es a = some v →
    ∃ j, Instr.findNow (.int kk) (.int kk a) ms i = some (some (i + j, mval vk v)) ∧ (∃ e, ms[j]? = some e ∧ e.key = .int kk a) ∧
      ∀ b (f : MapEntry → MapEntry), (∀ e, kv (f e) = (.int kk a, mval vk b)) → (ms.modify j f).map kv = (mputL es a b).map (kvT kk vk)
  | ms, [], i, h, hg => by cases hg
  | [], p :: es, i, h, hg => by simp at h
  | e :: ms, (x, y) :: es, i, h, hg => by
    simp only [List.map_cons, List.cons.injEq] at h
    obtain ⟨h1, h2⟩ := h
    have h1' := h1
    simp only [kv, kvT, Prod.mk.injEq] at h1
    simp only [mgetL] at hg
    split at hg
    · rename_i he
      subst he
      cases hg
      refine ⟨0, ?_, ⟨e, rfl, h1.1⟩, fun b f hf => ?_⟩
      · simp only [Instr.findNow, h1.1, Instr.sameNow, if_pos]
        simp [h1.2]
      · simp only [List.modify_zero_cons, List.map_cons, mputL, if_pos, hf, h2, kvT]
    · rename_i hne
      obtain ⟨j, r1, r2, r3⟩ := find_some (i := i + 1) h2 hg
      refine ⟨j + 1, ?_, by simpa using r2, fun b f hf => ?_⟩
      · simp only [Instr.findNow, h1.1, Instr.sameNow, if_pos]
        rw [show (a == x) = false from by simpa using hne]
        simp only [r1, Option.some.injEq, Prod.mk.injEq, and_true]
        omega
      · simp only [List.modify_succ_cons, List.map_cons, mputL, if_neg hne, r3 b f hf, h1']
theorem mget_key {kk : IntKind} {vk : MK} {a : Int} : ∀ {ms : List MapEntry} {es : List (Int × Int)}, ms.map kv = es.map (kvT kk vk) → mgetL es a = none → ∀ x ∈ ms, x.key ≠ .int kk a
  | [], _, _, _, x, hx => by cases hx
  | e :: ms, [], h, _, _, _ => by simp at h
  | e :: ms, (x, y) :: es, h, hg, z, hz => by
    simp only [List.map_cons, List.cons.injEq] at h
    obtain ⟨h1, h2⟩ := h
    simp only [kv, kvT, Prod.mk.injEq] at h1
    simp only [mgetL] at hg
    split at hg
    · cases hg
    · rename_i hne
      rcases List.mem_cons.1 hz with rfl | hz
      · rw [h1.1]; intro e; exact hne (Value.int.inj e).2.symm
      · exact mget_key h2 hg z hz
theorem mpKind_some {k e : TypeId} {kk : IntKind} {vk : MK} (h : mpKind P k e = some (kk, vk)) : P.underlying k = some (.int kk) := by
  unfold mpKind at h
  split at h
  · rename_i h1 _; cases h; exact h1
  · rename_i h1 _; cases h; exact h1
  · rename_i h1 _; cases h; exact h1
  · cases h
theorem mvOf_some {vk : MK} {t : T} {v : Value} {b : Int} {I : Nat → Prop} {L : Nat → Option (Option Nat)} (h : mvOf vk t = some b) (hv : TV w I m L t v) : v = mval vk b := by
  unfold mvOf at h
  split at h
  · split at h
    · rename_i e; cases h; subst e; exact hv.v_inv.1
    · cases h
  · cases h
    cases hv with
    | agg h =>
      rename_i vs
      cases vs with
      | mk l => cases h; rfl
  · cases h; exact hv.v_inv.1
  · rename_i f
    cases h
    rw [hv.v_inv.1]
    show _ = fnV (((f + 1 : Nat) : Int).toNat)
    rw [Int.toNat_natCast]
    rfl
  · rename_i f
    cases h
    cases hv with
    | fn ha hc =>
      rename_i as cs
      cases as with
      | mk l => cases cs with
        | mk l2 =>
          cases ha; cases hc
          show _ = fnV (((f + 1 : Nat) : Int).toNat)
          rw [Int.toNat_natCast]
          rfl
  · cases h
theorem run_setMap {b : Nat} {ms : Array MapEntry} {c : Nat} (o : Obj) (hb : w.heap[b]? = some (.map ms c)) : (setObj b o).run P w = .ok () { w with heap := w.heap.setIfInBounds b o } := MapKept.run_setObj_map o hb
theorem only_map {b : Nat} {ms ms' : Array MapEntry} {c c' : Nat} (hb : w.heap[b]? = some (.map ms c)) : OnlyB w { w with heap := w.heap.setIfInBounds b (.map ms' c') } b := by
  obtain ⟨h1, h2⟩ := MapKept.heap_set (o' := .map ms' c') hb
  refine ⟨rfl, rfl, rfl, by simp, h2, fun l ⟨o, e1, e2⟩ => ⟨_, h1, ?_⟩⟩
  rw [hb] at e1; cases e1
  exact e2
theorem mapUpdT_ok (h : HR w0 w O m g) {t : TypeId} {x k v : T} {vx vkey vv : Value} {o : Out} (ho : mapUpdT P g t x k v = some o) (hx : TV w (Im m g) m (lens g) x vx) (hk : TV w (Im m g) m (lens g) k vkey) (hv : TV w (Im m g) m (lens g) v vv) :
    ∃ w', (Instr.mapUpdate t vx vkey vv).run P w = .ok () w' ∧ HR w0 w' O m (upd g o.up) ∧ Goes w w' (Im m g) (Im m (upd g o.up)) m m (lens g) (lens (upd g o.up)) ∧ o.t = .dead := by
  unfold mapUpdT at ho
  split at ho
  · rename_i kt e q kq a hu
    split at ho
    · rename_i kk vk kk' vk' es hmk hgq
      split at ho
      · rename_i hc
        obtain ⟨rfl, rfl, rfl⟩ := hc
        split at ho
        · rename_i b hb
          cases ho
          have hl : lens g q = some (some 0) := lens_of hgq
          obtain ⟨n, hm, rfl⟩ := hx.mp_inv hl
          obtain rfl := hk.v_inv.1
          obtain rfl := mvOf_some hb hv
          have hB := h.blk q _ hgq
          rw [hm] at hB
          obtain ⟨ms, c, h1, h2, hst⟩ := hB
          have hkt := mpKind_some hmk
          have fin : ∀ ms' c', ms'.toList.map kv = (mputL es a b).map (kvT kq vk) → MapKept.Stamped ms' c' →
              HR w0 { w with heap := w.heap.setIfInBounds n (.map ms' c') } O m (upd g [(q, .mp kq vk (mputL es a b))]) ∧
              Goes w { w with heap := w.heap.setIfInBounds n (.map ms' c') } (Im m g) (Im m (upd g [(q, .mp kq vk (mputL es a b))])) m m (lens g) (lens (upd g [(q, .mp kq vk (mputL es a b))])) := fun ms' c' e hs =>
            ⟨h.setB hl hm (only_map h1) rfl ⟨ms', c', (MapKept.heap_set h1).1, e, hs⟩, Goes.setB h hl hm (only_map h1) rfl⟩
          have hrun : (Instr.mapUpdate t (.map (some n)) (.int kq a) (mval vk b)).run P w = ((do
              match ← Instr.findKey kt (.int kq a) ms.toList with
              | some (i, _) => do
                let key ← Instr.keyThatStays (((ms[i]?).map (·.key)).getD (.int kq a)) (.int kq a)
                setObj n (.map (ms.modify i fun e => { e with key, val := mval vk b }) c)
              | none => setObj n (.map (ms.push { key := .int kq a, val := mval vk b, born := c }) (c + 1)) : Sem Unit)).run P w := by
            unfold Instr.mapUpdate
            have hut : (underlying t).run P w = .ok (.map kt e) w := by simp [run_underlying, hu]
            simp only [Sem.run_bind, hut, Result.andThen_ok, MapKept.run_getObj_map h1, MapKept.run_checkKey hkt (k := .int kq a) rfl]
            rfl
          cases hg : mgetL es a with
          | none =>
            obtain ⟨r1, r2⟩ := find_none (i := 0) h2 hg
            have hs2 : MapKept.Stamped (ms.push { key := .int kq a, val := mval vk b, born := c }) (c + 1) := MapKept.stamped_push hst (mget_key h2 hg)
            refine ⟨_, ?_, (fin (ms.push { key := .int kq a, val := mval vk b, born := c }) (c + 1) ?_ hs2).1, (fin _ _ ?_ hs2).2, rfl⟩
            · rw [hrun]
              simp only [Sem.run_bind, MapKept.run_findKey hkt r1, Result.andThen_ok, run_setMap _ h1]
            all_goals (rw [r2 b]; simp only [Array.toList_push, List.map_append, List.map_cons, List.map_nil]; rw [show ms.toList.map kv = es.map (kvT kq vk) from h2]; rfl)
          | some v0 =>
            obtain ⟨j, r1, ⟨e0, r2, r3⟩, r4⟩ := find_some (i := 0) h2 hg
            rw [Nat.zero_add] at r1
            have hs2 : MapKept.Stamped (ms.modify j fun e => { e with key := .int kq a, val := mval vk b }) c := MapKept.stamped_modify hst j _ (fun e _ => rfl) (fun e _ he => by
              rw [← Array.getElem?_toList, r2] at he; cases he; exact r3.symm)
            have hj : (ms[j]?).map (·.key) = some (.int kq a) := by rw [← Array.getElem?_toList, r2]; simp [r3]
            refine ⟨_, ?_, (fin (ms.modify j fun e => { e with key := .int kq a, val := mval vk b }) c ?_ hs2).1, (fin _ _ ?_ hs2).2, rfl⟩
            · rw [hrun]
              simp only [Sem.run_bind, MapKept.run_findKey hkt r1, Result.andThen_ok, hj, Option.getD_some]
              have : (Instr.keyThatStays (.int kq a) (.int kq a)).run P w = .ok (.int kq a) w := by simp [Instr.keyThatStays, Instr.sameBits]
              simp only [this, Result.andThen_ok, run_setMap _ h1]
            all_goals (rw [Array.toList_modify]; exact r4 b _ fun e => rfl)
        · cases ho
      · cases ho
    · cases ho
  · cases ho
theorem zMv_ok {e : TypeId} {vk : MK} (h : zMv P e vk = true) : (zeroValue e).run P w = .ok (mval vk 0) w := by
  unfold zMv at h
  split at h
  · rename_i i hi
    split at h
    · rename_i q' z q hz
      simp only [Bool.and_eq_true, decide_eq_true_eq, beq_iff_eq] at h
      obtain ⟨rfl, rfl⟩ := h
      simp [zeroValue, run_typeInfo, hi, hz, mval]
    · rename_i hz
      simp [zeroValue, run_typeInfo, hi, hz, mval]
    · rename_i hz
      simp [zeroValue, run_typeInfo, hi, hz, mval, fnV]
    · cases h
  · cases h
theorem lookT_ok (h : HR w0 w O m g) {t : TypeId} {x k : T} {vx vkey : Value} {ok : Bool} {o : Out} (ho : lookT P g t x k ok = some o) (hx : TV w (Im m g) m (lens g) x vx) (hk : TV w (Im m g) m (lens g) k vkey) :
    PureOk P (Instr.lookup t vx vkey ok) w (Im m g) m (lens g) o := by
  unfold lookT at ho
  split at ho
  · rename_i kt e q kq a hu
    split at ho
    · rename_i kk vk kk' vk' es hmk hgq
      split at ho
      · rename_i hc
        obtain ⟨rfl, rfl, rfl, hz⟩ := hc
        cases ho
        have hl : lens g q = some (some 0) := lens_of hgq
        obtain ⟨n, hm, rfl⟩ := hx.mp_inv hl
        obtain rfl := hk.v_inv.1
        have hB := h.blk q _ hgq
        rw [hm] at hB
        obtain ⟨ms, c, h1, h2, hst⟩ := hB
        have hkt := mpKind_some hmk
        have hut : (underlying t).run P w = .ok (.map kt e) w := by simp [run_underlying, hu]
        have hrun : (Instr.lookup t (.map (some n)) (.int kq a) ok).run P w = .ok (if ok then .tuple #[mval vk ((mgetL es a).getD 0), .bool (mgetL es a).isSome] else mval vk ((mgetL es a).getD 0)) w := by
          unfold Instr.lookup
          simp only [Sem.run_bind, hut, Result.andThen_ok, MapKept.run_getObj_map h1, Sem.run_pure, MapKept.run_checkKey hkt (k := .int kq a) rfl]
          cases hg : mgetL es a with
          | none =>
            obtain ⟨r1, -⟩ := find_none (i := 0) h2 hg
            simp only [Sem.run_bind, MapKept.run_findKey hkt r1, Result.andThen_ok, zMv_ok hz, Sem.run_pure]
            rfl
          | some v0 =>
            obtain ⟨j, r1, -, -⟩ := find_some (i := 0) h2 hg
            simp only [Sem.run_bind, MapKept.run_findKey hkt r1, Result.andThen_ok, Sem.run_pure]
            rfl
        have hT : ∀ b, TV w (Im m g) m (lens g) (mvT vk b) (mval vk b) := fun b => by
          cases vk with
          | none => exact .agg .nil
          | some q => exact .v rfl
          | fn =>
            show TV w (Im m g) m (lens g) (.v (fnV b.toNat)) (fnV b.toNat)
            cases b.toNat <;> exact .v rfl
        refine ⟨_, hrun, rfl, ?_⟩
        cases ok
        · exact hT _
        · exact .tup (.cons (hT _) (.cons (.v rfl) .nil))
      · cases ho
    · cases ho
  · cases ho
end
end Go.Proofs.YtnplgklnkcjmnaaGreatDoor.Am
namespace Go.Proofs.YtnplgklnkcjmnaaGreatDoor.Am
set_option linter.unusedVariables false
set_option linter.unusedSimpArgs false
open Go.RowKit

/-- A fence that lets all in; ro: is it of a round of a loop over a function? -/
def FR (ro : Option Nat) : Fence := { Fence.wide with round := ro }
theorem callsIn_FR {ro : Option Nat} {n : Nat} {P : Program} {f : FuncId} {args : Array Value} {w : World} {R : Ending → World → Prop} : CallsIn (FR ro) n P f args w R ↔ Calls P f args w R := callsIn_wide (n := n)
theorem rowsIn_FR {ro : Option Nat} {n : Nat} {P : Program} {row : String} {args : Array Value} {w : World} {R : Value → World → Prop} (h : Rows P row args w R) : RowsIn (FR ro) n P row args w R :=
  fun c cs _ => let ⟨v, w', r, s⟩ := h c cs; ⟨v, w', r, stepsIn_wide.2 s⟩
/-- An operation that is no 'defer', within a round or not. -/
theorem wpIn_of_wp {P : Program} {ro : Option Nat} {o : Oper} {a : Act} {w : World} {next : Act → World → Prop} {Q : Exit → Act → World → Prop} (hd : ∀ c, o.op ≠ .defer c) (h : o.wp P a w next Q) : o.wpIn (FR ro) 0 P a w next Q := by
  refine ⟨fun _ _ => trivial, ?_⟩
  rw [Oper.semAt_eq _ _ _ hd]
  unfold Oper.wp at h
  generalize (execOp a.eval o).run P w = r at h
  cases r with
  | ok x w' =>
    cases x <;> simp only [Oper.upon, Oper.uponIn] at h ⊢ <;> first
      | exact h
      | exact ⟨fun hh => (by cases hh), callsIn_FR.2 h⟩
      | exact ⟨fun hh => (by cases hh), rowsIn_FR h⟩
      | exact h.elim
  | halt x w' => cases x <;> simp only [Oper.upon, Oper.uponIn] at h ⊢ <;> exact h

/-- A function that is walked where it is called: its number, its text, its code, the slots that are looked at in more than one region. -/
structure Inl where
  f : FuncId
  fn : Func
  c : Code
  lv : List Nat
structure Inl.ok (P : Program) (i : Inl) : Prop where
  hf : P.funcs[i.f]? = some i.fn
  hb : i.fn.body = some i.c
  he : ∀ vs w, (callFunc i.f vs).run P w = .ok (.enter i.f vs) w
/-- What is known beside a state: the program, what its variables hold, what calls make of their arguments. -/
structure Ctx where
  P : Program
  gl : Nat → T
  spec : Nat → FuncId → List T → Mem → Option Out
  eqs : List Nat
  heq : ∀ t, hasN eqs t = true → P.stoodInHeld t = false
  inl : List Inl
  hinl : ∀ i ∈ inl, i.ok P

def AT (w : World) (I : Nat → Prop) (m : Nat → Option Nat) (L : Nat → Option (Option Nat)) (ts : Sl) (a : Act) : Prop := ∀ i, TV w I m L (tget ts i) (a.tmps.getD i undef)
theorem AT.goes {w w' : World} {I I' m m' L L'} (G : Goes w w' I I' m m' L L') {ts : Sl} {a : Act} (h : AT w I m L ts a) : AT w' I' m' L' ts a := fun i => (h i).goes G

def ev (C : Ctx) (ts : Sl) : Operand → T
  | .tmp t => tget ts t
  | .const v => T.ofV v
  | .global g => C.gl g
  | .func f => .v (.func (.func f) ⟨[]⟩ ⟨[]⟩)
def isLit : Operand → Bool
  | .const _ => true
  | _ => false
def evO (C : Ctx) (ts : Sl) : Option Operand → Option T
  | none => none
  | some x => some (ev C ts x)
def evL (C : Ctx) (ts : Sl) : List Operand → List T
  | [] => []
  | x :: r => ev C ts x :: evL C ts r
def evP (C : Ctx) (ts : Sl) : List (Nat × Operand) → List (Nat × T)
  | [] => []
  | (i, x) :: r => (i, ev C ts x) :: evP C ts r
def isNew (g : Mem) (k : Nat) : Bool := match g k with
  | none => true
  | some _ => false
def news (g : Mem) (k : Nat) : Bool := isNew g k && isNew g (k + 1) && isNew g (k + 2) && isNew g (k + 3)
/-- A function that a value stands for, and what it bears ahead of its arguments and behind them. -/
def fnOf : T → Option (FuncId × List T × List T)
  | .v (.func (.func f) ⟨[]⟩ ⟨[]⟩) => some (f, [], [])
  | .fn (.func f) a c => some (f, a, c)
  | _ => none
def callT (C : Ctx) (g : Mem) (key : Nat) (ts : Sl) (c : Call) : Option Out := match c.callee, c.args.toList, c.argTypes.toList with
  | .builtin .len, [x], t :: _ => lenT C.P g t (ev C ts x).low
  | .builtin .append, [s, x], [t, t2] => if isNew g key then appendT C.P g key t t2 (ev C ts s) (ev C ts x) else none
  | .builtin .copy, [s, x], [t, _] => copyT C.P g t (ev C ts s) (ev C ts x)
  | .builtin .min, [x, y], _ => minT (ev C ts x) (ev C ts y)
  | .builtin .max, [x, y], _ => maxT (ev C ts x) (ev C ts y)
  | .value f, as, _ => match fnOf (ev C ts f) with
    | some (f, a, b) => if news g key then C.spec key f (a ++ evL C ts as ++ b) g else none
    | none => none
  | _, _, _ => none
def stepO (C : Ctx) (g : Mem) (ts : Sl) (key : Nat) (op : Op) : Option Out := match op with
  | .move x => out (ev C ts x)
  | .assign x => out (ev C ts x)
  | .pick c a b => match ev C ts c with
    | .v (.bool x) => out (condT x (ev C ts a) (ev C ts b))
    | _ => none
  | .alloc e => if isNew g key then allocT C.P key e else none
  | .box e x => if isNew g key then boxT C.P key e (ev C ts x) else none
  | .build t ps => buildT C.P t (evP C ts ps.toList)
  | .buildSlice t n ps => if isNew g key then buildSliceT C.P key t n (evP C ts ps.toList) else none
  | .load t a => match loadT C.P g t (ev C ts a) with
    | some r => out r
    | none => none
  | .store t a x => storeT C.P g t (ev C ts a) (ev C ts x)
  | .nilCheck x => nilT g (ev C ts x)
  | .binOp op t x y _ => binT C.P C.eqs op t (ev C ts x) (ev C ts y)
  | .unOp op _ x => unT op (ev C ts x)
  | .convert s d x => convT C.P s d (ev C ts x)
  | .field t x f => fieldT C.P t (ev C ts x) f
  | .index t x i => indexT C.P t (ev C ts x) (ev C ts i) (isLit i)
  | .indexAddr t x i => indexAddrT C.P g t (ev C ts x).low (ev C ts i) (isLit i)
  | .fieldAddr t x f => fieldAddrT C.P g t (ev C ts x) f
  | .slice t x lo hi none => sliceT C.P g t (ev C ts x).low (evO C ts lo) (evO C ts hi)
  | .slice t x lo hi (some mx) => if isNew g key then clipT C.P key t (ev C ts x) (evO C ts lo) (evO C ts hi) (ev C ts mx) else none
  | .makeFunc fn a c => out (.fn fn (evL C ts a.toList) (evL C ts c.toList))
  | .makeSlice t l c => if isNew g key then makeSliceT C.P key t (ev C ts l) (ev C ts c) else none
  | .extract x i => extractT (ev C ts x) i
  | .call c => callT C g key ts c
  | .makeMap t r => if isNew g key then makeMapT C.P key t (evO C ts r) else none
  | .mapUpdate t x k v => mapUpdT C.P g t (ev C ts x) (ev C ts k) (ev C ts v)
  | .lookup t x k ok => lookT C.P g t (ev C ts x) (ev C ts k) ok
  | _ => none

/-- A call gives what o tells. -/
def CallOk (P : Program) (f : FuncId) (vs : Array Value) (w : World) (R : Value → World → Prop) : Prop :=
  ((callFunc f vs).run P w = .ok (.enter f vs) w ∧ Calls P f vs w fun e w' => ∃ v, e = .returned v ∧ R v w') ∨ ∃ v w', (callFunc f vs).run P w = .ok (.value v) w' ∧ R v w'
/-- The program's variables hold what is told of them. -/
def GlOk (C : Ctx) (w : World) (I : Nat → Prop) (m : Nat → Option Nat) (L : Nat → Option (Option Nat)) : Prop := ∀ g, TV w I m L (C.gl g) (.pointer (some ⟨g, 0, none⟩))
/-- What is told of calls is so. -/
def Ctx.ok (C : Ctx) : Prop := ∀ key f args g o w0 w O m vs, C.spec key f args g = some o → o.ok → news g key = true → HR w0 w O m g → GlOk C w (Im m g) m (lens g) → TVs w (Im m g) m (lens g) args vs →
  CallOk C.P f vs.toArray w fun v w' => ∃ m', HR w0 w' O m' (upd g o.up) ∧ Goes w w' (Im m g) (Im m' (upd g o.up)) m m' (lens g) (lens (upd g o.up)) ∧ TV w' (Im m' (upd g o.up)) m' (lens (upd g o.up)) o.t v
theorem GlOk.goes {C : Ctx} {w w' : World} {I I' m m' L L'} (G : Goes w w' I I' m m' L L') (h : GlOk C w I m L) : GlOk C w' I' m' L' := fun g => (h g).goes G

section
variable {C : Ctx} {w0 w : World} {O : Env} {m : Nat → Option Nat} {g : Mem} {ts : Sl} {a : Act}

theorem ofV_ok {I : Nat → Prop} {L : Nat → Option (Option Nat)} (v : Value) : TV w I m L (T.ofV v) v := by
  unfold T.ofV
  split
  · rename_i h; exact .v h
  · split
    · split
      · rename_i cs h; exact .agg (plain_TVs h)
      · exact .dead
    · exact .dead
theorem ev_ok {I : Nat → Prop} {L : Nat → Option (Option Nat)} (ht : AT w I m L ts a) (hg : GlOk C w I m L) (x : Operand) : TV w I m L (ev C ts x) (a.eval x) := by
  cases x with
  | tmp t => exact ht t
  | const v => exact ofV_ok v
  | global g => exact hg g
  | func f => exact .v rfl
theorem evO_ok {I : Nat → Prop} {L : Nat → Option (Option Nat)} (ht : AT w I m L ts a) (hg : GlOk C w I m L) (x : Option Operand) : OTV w I m L (evO C ts x) (x.map a.eval) := by
  cases x with
  | none => trivial
  | some x => exact ev_ok ht hg x
theorem evL_ok {I : Nat → Prop} {L : Nat → Option (Option Nat)} (ht : AT w I m L ts a) (hg : GlOk C w I m L) (xs : List Operand) : TVs w I m L (evL C ts xs) (xs.map a.eval) := by
  induction xs with
  | nil => exact .nil
  | cons x xs ih => exact .cons (ev_ok ht hg x) ih
theorem evP_ok {I : Nat → Prop} {L : Nat → Option (Option Nat)} (ht : AT w I m L ts a) (hg : GlOk C w I m L) (ps : List (Nat × Operand)) :
    (evP C ts ps).map (·.1) = (ps.map fun (i, x) => (i, a.eval x)).map (·.1) ∧ TVs w I m L ((evP C ts ps).map (·.2)) ((ps.map fun (i, x) => (i, a.eval x)).map (·.2)) := by
  induction ps with
  | nil => exact ⟨rfl, .nil⟩
  | cons p ps ih => exact ⟨by simp [evP, ih.1], .cons (ev_ok ht hg p.2) ih.2⟩

theorem isNew_none {k : Nat} (h : isNew g k = true) : g k = none := by
  unfold isNew at h
  split at h
  · assumption
  · cases h

/-- An operation that gives a value. -/
theorem wp_value {P : Program} {o : Oper} {next : Act → World → Prop} {Q : Exit → Act → World → Prop} {s : Sem Value} {ot : Out} (he : execOp a.eval o = (do pure (.value (← s))))
    (hs : StepOk P s w0 w O m g ot)
    (hn : ∀ v w' m', HR w0 w' O m' (upd g ot.up) → Goes w w' (Im m g) (Im m' (upd g ot.up)) m m' (lens g) (lens (upd g ot.up)) → TV w' (Im m' (upd g ot.up)) m' (lens (upd g ot.up)) ot.t v → next (a.put o.dst v) w') :
    o.wp P a w next Q := by
  obtain ⟨v, w', m', h1, h2, h3, h4⟩ := hs
  unfold Oper.wp
  rw [he]
  simp only [Sem.run_bind, h1, Result.andThen_ok, Sem.run_pure, Oper.upon_value]
  exact hn v w' m' h2 h3 h4

set_option maxHeartbeats 2000000 in
theorem step_ok (hC : C.ok) (h : HR w0 w O m g) (ht : AT w (Im m g) m (lens g) ts a) (hg : GlOk C w (Im m g) m (lens g)) {o : Oper} {key : Nat} {ot : Out} (hs : stepO C g ts key o.op = some ot) (hok : ot.ok)
    {next : Act → World → Prop} {Q : Exit → Act → World → Prop}
    (hn : ∀ v w' m', HR w0 w' O m' (upd g ot.up) → Goes w w' (Im m g) (Im m' (upd g ot.up)) m m' (lens g) (lens (upd g ot.up)) → TV w' (Im m' (upd g ot.up)) m' (lens (upd g ot.up)) ot.t v → next (a.put o.dst v) w') {ro : Option Nat} :
    o.wpIn (FR ro) 0 C.P a w next Q := by
  refine wpIn_of_wp (fun c e => (by rw [e] at hs; cases hs)) ?_
  have pureN : ∀ {s : Sem Value}, (execOp a.eval o = (do pure (.value (← s)))) → PureOk C.P s w (Im m g) m (lens g) ot → o.wp C.P a w next Q := fun he hp => wp_value he (StepOk.pure h hp) hn
  have valN : ∀ {x : T} {v : Value}, out x = some ot → TV w (Im m g) m (lens g) x v → execOp a.eval o = pure (.value v) → o.wp C.P a w next Q := by
    intro x v hx hv he
    cases hx
    unfold Oper.wp
    rw [he]
    exact hn v w m h (Goes.refl h) hv
  obtain ⟨dst, op, type, pos, after, guard⟩ := o
  cases op with
  | move x => exact valN hs (ev_ok ht hg x) rfl
  | assign x => exact valN hs (ev_ok ht hg x) rfl
  | pick c x y =>
    simp only [stepO] at hs
    split at hs
    · rename_i b e
      have hc := ev_ok ht hg c
      rw [e] at hc
      obtain ⟨hc, -⟩ := hc.v_inv
      have hx := ev_ok ht hg x
      have hy := ev_ok ht hg y
      cases hs
      unfold Oper.wp
      simp only [execOp, hc, asBool, Sem.run_bind, Sem.run_pure, Result.andThen_ok, Oper.upon_value]
      refine hn _ w m h (Goes.refl h) ?_
      have key : ∀ {p q : T} {vp vq : Value}, TV w (Im m g) m (lens g) p vp → TV w (Im m g) m (lens g) q vq → TV w (Im m g) m (lens g) (condT b p q) (if b then vp else vq) := by
        intro p q vp vq hp hq
        unfold condT
        split
        · obtain ⟨rfl, -⟩ := hp.v_inv; obtain ⟨rfl, -⟩ := hq.v_inv
          cases b <;> exact .v rfl
        · split
          · rename_i e; subst e
            obtain ⟨rfl, -⟩ := hp.v_inv; obtain ⟨rfl, -⟩ := hq.v_inv
            cases b <;> exact .v rfl
          · cases b
            · exact hq
            · exact hp
        · cases b
          · exact hq
          · exact hp
      exact key hx hy
    · cases hs
  | alloc e =>
    simp only [stepO] at hs
    split at hs
    · rename_i hnw; exact wp_value (s := Instr.alloc e true (.tuple #[])) rfl (allocT_ok h (isNew_none hnw) hs) hn
    · cases hs
  | box e x =>
    simp only [stepO] at hs
    split at hs
    · rename_i hnw; exact wp_value (s := Instr.box e (a.eval x)) rfl (boxT_ok h (isNew_none hnw) hs (ev_ok ht hg x)) hn
    · cases hs
  | build t ps =>
    obtain ⟨p1, p2⟩ := evP_ok (a := a) ht hg ps.toList
    exact wp_value (s := Instr.build t (ps.map fun (i, x) => (i, a.eval x))) rfl (buildT_ok h hs (by simpa using p1) (by simpa using p2)) hn
  | buildSlice t n ps =>
    simp only [stepO] at hs
    split at hs
    · rename_i hnw
      obtain ⟨p1, p2⟩ := evP_ok (a := a) ht hg ps.toList
      exact wp_value (s := Instr.buildSlice t n (ps.map fun (i, x) => (i, a.eval x))) rfl (buildSliceT_ok h (isNew_none hnw) hs (by simpa using p1) (by simpa using p2)) hn
    · cases hs
  | load t x =>
    simp only [stepO] at hs
    split at hs
    · rename_i r e
      obtain ⟨v, h1, h2⟩ := loadT_ok (P := C.P) h e (ev_ok ht hg x)
      exact pureN (s := Instr.loadAt t (a.eval x)) rfl (pureO hs ⟨v, h1, h2⟩)
    · cases hs
  | store t x y =>
    obtain ⟨w', h1, h2, h3, h4⟩ := storeT_ok (P := C.P) h hs (ev_ok ht hg x) (ev_ok ht hg y)
    unfold Oper.wp
    simp only [execOp, Sem.run_bind, h1, Result.andThen_ok, Sem.run_pure, Oper.upon_skip]
    exact hn undef w' m h2 h3 (by rw [h4]; exact .dead)
  | nilCheck x =>
    obtain ⟨v, h1, h2, h3⟩ := nilT_ok (P := C.P) (w := w) (I := Im m g) (m := m) (ρ := a.eval) (op := x) hs (ev_ok ht hg x) rfl
    obtain ⟨c, t, up⟩ := ot
    cases h2
    unfold Oper.wp
    have e : execOp a.eval (⟨dst, .nilCheck x, type, pos, after, guard⟩ : Oper) = execOp a.eval ⟨none, .nilCheck x, 0, "", #[], none⟩ := rfl
    rw [e, h1]
    exact hn v w m h (Goes.refl h) h3
  | binOp op t x y yt => exact pureN (s := do eqGuard op t x y (a.eval x) (a.eval y); Go.binOp op t (a.eval x) (a.eval y)) (by simp only [execOp]) (binT_ok C.heq hs hok (ev_ok ht hg x) (ev_ok ht hg y))
  | unOp op t x => exact pureN (s := Op.unary op (a.eval x)) rfl (unT_ok hs (ev_ok ht hg x))
  | convert s d x => exact pureN (s := Go.convert s d (a.eval x)) rfl (convT_ok hs (ev_ok ht hg x))
  | field t x f => exact pureN (s := Instr.field t (a.eval x) f) rfl (fieldT_ok hs (ev_ok ht hg x))
  | index t x i => exact pureN (s := Instr.index t (a.eval x) (a.eval i)) rfl (indexT_ok hs hok (ev_ok ht hg x) (ev_ok ht hg i))
  | indexAddr t x i => exact pureN (s := Instr.indexAt t (a.eval x) (a.eval i)) rfl (indexAddrT_ok hs hok (ev_ok ht hg x).low_ok (ev_ok ht hg i))
  | fieldAddr t x f => exact pureN (s := Instr.fieldAt t (a.eval x) f) rfl (fieldAddrT_ok hs (ev_ok ht hg x))
  | slice t x lo hi mx =>
    cases mx with
    | some mx =>
      simp only [stepO] at hs
      split at hs
      · rename_i hnw
        exact wp_value (s := Instr.sliceAt t (a.eval x) (lo.map a.eval) (hi.map a.eval) (some (a.eval mx))) rfl (clipT_ok h (isNew_none hnw) hs (ev_ok ht hg x) (evO_ok ht hg lo) (evO_ok ht hg hi) (ev_ok ht hg mx)) hn
      · cases hs
    | none => exact pureN (s := Instr.sliceAt t (a.eval x) (lo.map a.eval) (hi.map a.eval) none) rfl (sliceT_ok h hs hok (ev_ok ht hg x).low_ok (evO_ok ht hg lo) (evO_ok ht hg hi))
  | makeFunc fn f c =>
    exact pureN (s := Instr.makeFunc fn (f.map a.eval) (c.map a.eval)) rfl (pureO hs ⟨_, rfl, .fn (by simpa using evL_ok (a := a) ht hg f.toList) (by simpa using evL_ok (a := a) ht hg c.toList)⟩)
  | makeSlice t l c =>
    simp only [stepO] at hs
    split at hs
    · rename_i hnw; exact wp_value (s := Instr.makeSlice t (a.eval l) (a.eval c)) rfl (makeSliceT_ok h (isNew_none hnw) hs hok (ev_ok ht hg l) (ev_ok ht hg c)) hn
    · cases hs
  | extract x i => exact pureN (s := Instr.extract (a.eval x) i) rfl (extractT_ok hs (ev_ok ht hg x))
  | call c =>
    obtain ⟨callee, args, ats⟩ := c
    simp only [stepO, callT] at hs
    have hargs := evL_ok ht hg args.toList
    have ctoL : ∀ {xs : List Operand}, args.toList = xs → args = xs.toArray := fun {xs} e => by rw [← e]
    have bi : ∀ {b : Builtin} {s : Sem Value}, callee = .builtin b → (builtin b ats type (args.map fun | .const _ => true | _ => false) (args.map a.eval) = (do pure (.value (← s)))) →
        execOp a.eval (⟨dst, .call ⟨callee, args, ats⟩, type, pos, after, guard⟩ : Oper) = (do pure (.value (← s))) := by
      intro b s e1 e2
      subst e1
      rw [← e2]
      simp only [execOp, resolve, pure_bind, invoke]
      congr 1
    split at hs
    · rename_i x t r e2 e3
      have e4 := ctoL e2; subst e4
      have hp := lenT_ok (P := C.P) (w := w) (ty := type) (fun k kk vk es b e hm => by have := h.blk k _ e; rw [hm] at this; exact this) hs (ev_ok ht hg x).low_ok
      refine pureN (s := Builtin.len_ ats type #[a.eval x]) (bi rfl (by simp [builtin])) ?_
      have e5 : ats = (t :: r).toArray := by rw [← e3]
      subst e5
      have : Builtin.len_ (t :: r).toArray type #[a.eval x] = Builtin.len_ #[t] type #[a.eval x] := by simp [Builtin.len_]
      rw [this]; exact hp
    · rename_i s x t t2 e2 e3
      have e4 := ctoL e2; subst e4
      have e5 : ats = #[t, t2] := by rw [← Array.toArray_toList (xs := ats), e3]
      subst e5
      split at hs
      · rename_i hnw
        exact wp_value (s := Builtin.append_ #[t, t2] type #[a.eval s, a.eval x]) (bi rfl (by simp [builtin])) (appendT_ok h (isNew_none hnw) hs hok (ev_ok ht hg s) (ev_ok ht hg x)) hn
      · cases hs
    · rename_i s x t t2 e2 e3
      have e4 := ctoL e2; subst e4
      have e5 : ats = #[t, t2] := by rw [← Array.toArray_toList (xs := ats), e3]
      subst e5
      exact wp_value (s := Builtin.copy_ #[t, t2] type #[a.eval s, a.eval x]) (bi rfl (by simp [builtin])) (copyT_ok h hs (ev_ok ht hg s) (ev_ok ht hg x)) hn
    · rename_i x y e2
      have e4 := ctoL e2; subst e4
      exact pureN (s := Builtin.min_ ats type #[a.eval x, a.eval y]) (bi rfl (by simp [builtin])) (minT_ok hs (ev_ok ht hg x) (ev_ok ht hg y))
    · rename_i x y e2
      have e4 := ctoL e2; subst e4
      exact pureN (s := Builtin.max_ ats type #[a.eval x, a.eval y]) (bi rfl (by simp [builtin])) (maxT_ok hs (ev_ok ht hg x) (ev_ok ht hg y))
    · rename_i f
      split at hs
      · rename_i fid pre post ef
        split at hs
        · rename_i hnw
          have hf := ev_ok ht hg f
          obtain ⟨vpre, vpost, hv, hpre, hpost⟩ : ∃ vpre vpost : Array Value, a.eval f = .func (.func fid) vpre vpost ∧ TVs w (Im m g) m (lens g) pre vpre.toList ∧ TVs w (Im m g) m (lens g) post vpost.toList := by
            generalize a.eval f = vf at hf ⊢
            unfold fnOf at ef
            split at ef
            · rename_i e6; rw [e6] at hf; obtain ⟨h1, -⟩ := hf.v_inv; cases ef; exact ⟨#[], #[], h1, .nil, .nil⟩
            · rename_i e6; rw [e6] at hf; cases ef; cases hf with | fn h1 h2 => exact ⟨_, _, rfl, h1, h2⟩
            · cases ef
          have hall := (hpre.append hargs).append hpost
          have hcall := hC key fid _ g ot w0 w O m _ hs hok hnw h hg hall
          have he : execOp a.eval (⟨dst, .call ⟨.value f, args, ats⟩, type, pos, after, guard⟩ : Oper) = callFunc fid (vpre.toList ++ args.toList.map a.eval ++ vpost.toList).toArray := by
            simp only [execOp, resolve, hv, Deferred.ofValue, pure_bind, invoke]
            congr 1
            apply Array.ext'
            simp
          unfold Oper.wp
          rw [he]
          rcases hcall with ⟨c1, c2⟩ | ⟨v, w', c1, m', c2, c3, c4⟩
          · rw [c1]
            refine c2.mono ?_
            rintro e w' ⟨v, rfl, m', d1, d2, d3⟩
            exact hn v w' m' d1 d2 d3
          · rw [c1]
            exact hn v w' m' c2 c3 c4
        · cases hs
      · cases hs
    · cases hs
  | makeMap t r =>
    simp only [stepO] at hs
    split at hs
    · rename_i hnw
      exact wp_value (s := Instr.makeMap t (r.map a.eval)) rfl (makeMapT_ok h (isNew_none hnw) (fun e => by cases r <;> first | rfl | cases e) hs) hn
    · cases hs
  | mapUpdate t x k y =>
    obtain ⟨w', h1, h2, h3, h4⟩ := mapUpdT_ok (P := C.P) h hs (ev_ok ht hg x) (ev_ok ht hg k) (ev_ok ht hg y)
    unfold Oper.wp
    simp only [execOp, Sem.run_bind, h1, Result.andThen_ok, Sem.run_pure, Oper.upon_skip]
    exact hn undef w' m h2 h3 (by rw [h4]; exact .dead)
  | lookup t x k ok =>
    exact pureN (s := Instr.lookup t (a.eval x) (a.eval k) ok) rfl (lookT_ok h hs (ev_ok ht hg x) (ev_ok ht hg k))
  | _ => cases hs
end
end Go.Proofs.YtnplgklnkcjmnaaGreatDoor.Am
