/- What each operation makes of abstract values, and of the machine's own memory. -/
import Derived.Test.YteinekidpokbpaaAmA
import Derived.Laws.Entries
namespace Go.Proofs.Yteinekidpokbpaa.Am
set_option linter.unusedVariables false

/-- What an operation leaves: what must hold, its value, what becomes of blocks. -/
structure Out where
  c : Option Prop
  t : T
  up : List (Nat × Blk)

abbrev Mem := Nat → Option Blk
def Mem.alive (g : Mem) (k : Nat) : Bool := match g k with
  | some (.fl _ _) => true
  | some (.cs _) => true
  | _ => false
def upd (g : Mem) : List (Nat × Blk) → Mem
  | [], k => g k
  | (j, b) :: r, k => bif Nat.beq j k then some b else upd g r k

/-- A literal 0 falls away. -/
def addN (n : Nat) (s : Nat) : Nat := bif Nat.beq n 0 then s else n + s
def T.ofV (x : Value) : T := if plain x then .v x else match x with
  | .agg ⟨cs⟩ => if cs.all plain then .agg (cs.map .v) else .dead
  | _ => .dead

def out (t : T) : Option Out := some ⟨none, t, []⟩
def outC (c : Prop) (t : T) : Option Out := some ⟨some c, t, []⟩
def outU (t : T) (up : List (Nat × Blk)) : Option Out := some ⟨none, t, up⟩
def outV (x : Value) : Option Out := some ⟨none, .v x, []⟩

/-- Which of two, by a bool that may not be known. -/
def condT (x : Bool) (a b : T) : T := match a, b with
  | .v (.bool p), .v (.bool q) => .v (.bool (bif x then p else q))
  | .v (.int k p), .v (.int k' q) => if k = k' then .v (.int k (bif x then p else q)) else (bif x then a else b)
  | a, b => bif x then a else b

/-- A number, laid out. -/
def num (n : Nat) : Nat := match n with
  | 0 => 0
  | m + 1 => m + 1
theorem num_eq (n : Nat) : num n = n := by cases n <;> rfl
def someN (n : Nat) : Option Nat := match n with
  | 0 => some 0
  | m + 1 => some (m + 1)
theorem someN_eq (n : Nat) : someN n = some n := by cases n <;> rfl
def sz? (P : Program) (t : TypeId) : Option Nat := match P.info? t with
  | some i => someN i.size
  | none => none
def agg? (P : Program) (t : TypeId) : Option Bool := match P.underlying t with
  | some (.struct _) => some true
  | some (.array _ _) => some true
  | some _ => some false
  | none => none

def ari (op : BinOp) (k : IntKind) (a b : Int) : Option Out := match op with
  | .add => outV (.int k (k.wrap (a + b)))
  | .sub => outV (.int k (k.wrap (a - b)))
  | .mul => outV (.int k (k.wrap (a * b)))
  | .quo => outC (b ≠ 0) (.v (.int k (k.wrap (a.tdiv b))))
  | .rem => outC (b ≠ 0) (.v (.int k (a.tmod b)))
  | .and => outV (.int k (bits .and k a b))
  | .or => outV (.int k (bits .or k a b))
  | .xor => outV (.int k (bits .xor k a b))
  | .andNot => outV (.int k (bits .andNot k a b))
  | .eql => outV (.bool (a == b))
  | .neq => outV (.bool (a != b))
  | .lss => outV (.bool (a < b))
  | .leq => outV (.bool (a ≤ b))
  | .gtr => outV (.bool (a > b))
  | .geq => outV (.bool (a ≥ b))
  | _ => none

/-- Cells that are all whole numbers. -/
def ints? : List T → Option (List IntKind × List Int)
  | [] => some ([], [])
  | .v (.int k x) :: r => match ints? r with
    | some (ks, xs) => some (k :: ks, x :: xs)
    | none => none
  | _ :: _ => none
def partT (P : Program) (t : TypeId) (cs : List T) (off : Nat) : Option T := match agg? P t, sz? P t with
  | some true, some s => some (.agg ((cs.drop off).take s))
  | some false, _ => cs[off]?
  | _, _ => none

/-- Are two parts the same? none: not known. -/
def both : Option Bool → Option Bool → Option Bool
  | some a, some b => some (a && b)
  | _, _ => none
/-- Is a slice, a function, a pointer nil? -/
def nilS : T → Option Bool
  | .v (.slice none 0 0) => some true
  | .fl _ (_ + 1) _ => some false
  | .sl (_ + 1) _ _ => some false
  | _ => none
def nilF : T → Option Bool
  | .v .nilFunc => some true
  | .v (.func _ _ _) => some false
  | .fn _ _ _ => some false
  | _ => none
def nilP : T → Option Bool
  | .v (.pointer none) => some true
  | .fp .. => some false
  | .sp .. => some false
  | _ => none
def zS : T → Bool
  | .v (.slice none 0 0) => true
  | _ => false
def zF : T → Bool
  | .v .nilFunc => true
  | _ => false
def zP : T → Bool
  | .v (.pointer none) => true
  | _ => false
/-- How many a slice has of which it is not known whether it is nil. -/
def nilLen (g : Nat → Bool) : T → Option Nat
  | .fl _ n _ => some n
  | .sl n _ _ => some n
  | .os k _ _ n => match g k with
    | true => some n
    | false => none
  | .ow k _ n => match g k with
    | true => some n
    | false => none
  | _ => none
def nilTwo (z : T → Bool) (f : T → Option Bool) (a b : T) : Option Bool := bif z a then f b else bif z b then f a else none
def eqF (eq : TypeId → T → T → Option Bool) (P : Program) (xs ys : List T) : List Field → Option Bool
  | [] => some true
  | f :: r => if f.name ≠ "_" then match partT P f.type xs f.offset, partT P f.type ys f.offset with
      | some a, some b => both (eq f.type a b) (eqF eq P xs ys r)
      | _, _ => none
    else eqF eq P xs ys r
def eqI (eq : TypeId → T → T → Option Bool) (P : Program) (e : TypeId) (s : Nat) (xs ys : List T) : Nat → Nat → Option Bool
  | 0, _ => some true
  | n + 1, i => match partT P e xs (i * s), partT P e ys (i * s) with
      | some a, some b => both (eq e a b) (eqI eq P e s xs ys n (i + 1))
      | _, _ => none
def hasN : List Nat → Nat → Bool
  | [], _ => false
  | a :: r, k => match Nat.beq a k with
    | true => true
    | false => hasN r k
/-- Are two values the same? none: not known. -/
def eqT (P : Program) (eqs : List Nat) : Nat → TypeId → T → T → Option Bool
  | 0, _, _, _ => none
  | d + 1, t, a, b => match P.underlying t with
    | some (.int _) => match a, b with
      | .v (.int k x), .v (.int k' y) => if k = k' then some (x == y) else none
      | _, _ => none
    | some .bool => match a, b with
      | .v (.bool x), .v (.bool y) => some (x == y)
      | _, _ => none
    | some (.struct fs) => match a, b with
      | .agg xs, .agg ys => bif hasN eqs t then eqF (eqT P eqs d) P xs ys fs.toList else none
      | _, _ => none
    | some (.array n e) => match a, b, sz? P e with
      | .agg xs, .agg ys, some s => eqI (eqT P eqs d) P e s xs ys n 0
      | _, _, _ => none
    | some (.slice _) => nilTwo zS nilS a b
    | some (.func _ _ _) => nilTwo zF nilF a b
    | some (.pointer _) => nilTwo zP nilP a b
    | _ => none
def allL {α : Type} (f : α → Bool) : List α → Bool
  | [] => true
  | a :: r => match f a with
    | true => allL f r
    | false => false
/-- A type that holds no interface. -/
def noGuard (P : Program) : Nat → TypeId → Bool
  | 0, _ => false
  | d + 1, t => match P.underlying t with
    | some (.interface _) => false
    | some (.struct fs) => allL (fun f => noGuard P d f.type) fs.toList
    | some (.array _ e) => noGuard P d e
    | _ => true
def isAggT : T → Bool
  | .agg _ => true
  | _ => false

def binT (P : Program) (eqs : List Nat) (op : BinOp) (t : TypeId) (a b : T) : Option Out := match a, b with
  | .v (.int k x), .v (.int k' y) => match op with
    | .shl => outC (0 ≤ y) (.v (.int k (k.wrap (x * 2 ^ (min y.toNat k.bits)))))
    | .shr => outC (0 ≤ y) (.v (.int k (x.fdiv (2 ^ (min y.toNat k.bits)))))
    | _ => if k = k' then ari op k x y else none
  | .v (.bool x), .v (.bool y) => match P.underlying t, op with
    | some .bool, .eql => outV (.bool (x == y))
    | some .bool, .neq => outV (.bool (!(x == y)))
    | _, _ => none
  | a, b => bif isAggT a && !(noGuard P 12 t && Nat.ble 12 P.depth) then none else match op, eqT P eqs 12 t a b with
    | .eql, some r => outV (.bool r)
    | .neq, some r => outV (.bool (!r))
    | _, _ => none

def unT (op : UnOp) (a : T) : Option Out := match op, a with
  | .not, .v (.bool b) => outV (.bool (!b))
  | .neg, .v (.int k n) => outV (.int k (k.wrap (0 - n)))
  | .xor, .v (.int k n) => outV (.int k (bits .xor k (if k.signed then -1 else k.max) n))
  | _, _ => none

def convT (P : Program) (src dst : TypeId) (a : T) : Option Out := match P.underlying src, P.underlying dst, a with
  | some (.int _), some (.int k), .v (.int _ n) => outV (.int k (k.wrap n))
  | _, _, _ => none

def fieldT (P : Program) (t : TypeId) (x : T) (f : Nat) : Option Out := match P.underlying t, x with
  | some (.struct fs), .agg cs => match fs[f]? with
    | some fd => match partT P fd.type cs fd.offset with
      | some r => out r
      | none => none
    | none => none
  | _, _ => none

/-- The kind of the cell at b + i * st of flat cells. -/
def sameK (k : IntKind) : List IntKind → Bool
  | [] => true
  | x :: r => (x == k) && sameK k r
def kat (ks : List IntKind) (b st i : Nat) : IntKind := match ks with
  | [k] => k
  | k :: r => if Nat.beq st ks.length then kc ks b else bif sameK k r then k else kc ks (b + i * st)
  | _ => kc ks (b + i * st)

def flatCells (ks : List IntKind) (xs : List Int) (b st i : Nat) : Nat → Nat → List T
  | 0, _ => []
  | n + 1, j => .v (.int (kat ks (b + j) st i) (xs.getD (b + i * st + j) 0)) :: flatCells ks xs b st i n (j + 1)

def indexT (P : Program) (t : TypeId) (x i : T) (lit : Bool) : Option Out := match P.underlying t, x, i with
  | some (.array n e), .agg cs, .v (.int _ i) => match sz? P e with
    | none => none
    | some s => bif lit then match partT P e cs (i.toNat * s) with
        | some r => outC (0 ≤ i ∧ i < n) r
        | none => none
      else match agg? P e, ints? cs with
        | some false, some (k :: ks, xs) => if (k :: ks).all (· == k) && Nat.beq s 1 && Nat.ble n xs.length then outC (0 ≤ i ∧ i < n) (.v (.int k (xs.getD i.toNat 0))) else none
        | some true, some (k :: ks, xs) => if (k :: ks).all (· == k) && Nat.ble (n * s) xs.length then outC (0 ≤ i ∧ i < n) (.agg (flatCells [k] xs 0 s i.toNat s 0)) else none
        | _, _ => none
  | _, _, _ => none

def extractT (x : T) (i : Nat) : Option Out := match x with
  | .tup ts => match ts[i]? with
    | some t => out t
    | none => none
  | _ => none

def nilT (g : Mem) (x : T) : Option Out := match x with
  | .fp .. => out x
  | .sp .. => out x
  | .ifc .. => out x
  | .op k _ _ _ _ => if g.alive k then out x else none
  | .v (.func (.func f) a c) => out x
  | .fn (.func f) a c => out x
  | _ => none

/-- The number of a part of a part. -/
def idxN (j q i : Nat) : Nat := match j with
  | 0 => i
  | k + 1 => (k + 1) * q + i
theorem idxN_eq (j q i : Nat) : idxN j q i = j * q + i := by
  unfold idxN; split
  · omega
  · rfl
def indexAddrT (P : Program) (g : Mem) (t : TypeId) (x i : T) (lit : Bool) : Option Out := match P.underlying t, x, i with
  | some (.slice e), .fl ks n xs, .v (.int _ i) => match sz? P e with
    | some s => if Nat.beq s ks.length then outC (0 ≤ i ∧ i < n) (.fp ks xs 0 s i.toNat s) else none
    | none => none
  | some (.slice e), .sl n sz cs, .v (.int _ i) => match sz? P e with
    | some s => if Nat.beq s sz then outC (0 ≤ i ∧ i < n) (.sp cs (i.toNat * s)) else none
    | none => none
  | some (.slice e), .os k sz off n, .v (.int _ i) => match sz? P e with
    | some s => if Nat.beq s sz && g.alive k then outC (0 ≤ i ∧ i < n) (.op k 0 s (addN off i.toNat) s) else none
    | none => none
  | some (.array n e), .fp ks xs b st j w, .v (.int _ i) => match sz? P e with
    | some s => bif lit then (if Nat.ble ((i.toNat + 1) * s) w then outC (0 ≤ i ∧ i < n) (.fp ks xs (b + i.toNat * s) st j s) else none)
      else if Nat.beq (st % s) 0 && Nat.ble (n * s) w then outC (0 ≤ i ∧ i < n) (.fp ks xs b s (idxN j (st / s) i.toNat) s) else none
    | none => none
  | some (.array n e), .sp cs j, .v (.int _ i) => match sz? P e with
    | some s => outC (0 ≤ i ∧ i < n) (.sp cs (j + i.toNat * s))
    | none => none
  | some (.array n e), .op k b st j w, .v (.int _ i) => match sz? P e with
    | some s => if g.alive k then bif lit then (if Nat.ble ((i.toNat + 1) * s) w then outC (0 ≤ i ∧ i < n) (.op k (b + i.toNat * s) st j s) else none)
      else if Nat.beq (st % s) 0 && Nat.ble (n * s) w then outC (0 ≤ i ∧ i < n) (.op k b s (idxN j (st / s) i.toNat) s) else none
      else none
    | none => none
  | _, _, _ => none

def fieldAddrT (P : Program) (g : Mem) (t : TypeId) (x : T) (f : Nat) : Option Out := match P.underlying t with
  | some (.struct fs) => match fs[f]? with
    | some fd => match sz? P fd.type with
      | some (s + 1) => match x with
        | .fp ks xs b st i w => if Nat.ble (fd.offset + (s + 1)) w then out (.fp ks xs (b + fd.offset) st i (s + 1)) else none
        | .sp cs j => out (.sp cs (j + fd.offset))
        | .op k b st i w => if g.alive k && Nat.ble (fd.offset + (s + 1)) w then out (.op k (b + fd.offset) st i (s + 1)) else none
        | _ => none
      | _ => none
    | none => none
  | _ => none

def loadFlat (P : Program) (t : TypeId) (ks : List IntKind) (xs : List Int) (b st i w : Nat) : Option T := match agg? P t, sz? P t with
  | some true, some s => if Nat.ble s w then some (.agg (flatCells ks xs b st i s 0)) else none
  | some false, _ => if Nat.ble 1 w then some (.v (.int (kat ks b st i) (xs.getD (b + i * st) 0))) else none
  | _, _ => none
def loadCellsT (P : Program) (t : TypeId) (cs : List T) (i : Nat) : Option T := match agg? P t, sz? P t with
  | some true, some s => if Nat.ble (i + s) cs.length then some (.agg ((cs.drop i).take s)) else none
  | some false, _ => cs[i]?
  | _, _ => none
def loadT (P : Program) (g : Mem) (t : TypeId) (x : T) : Option T := match x with
  | .fp ks xs b st i w => loadFlat P t ks xs b st i w
  | .sp cs i => loadCellsT P t cs i
  | .op k b st i w => match g k with
    | some (.fl ks xs) => loadFlat P t ks xs b st i w
    | some (.cs cs) => loadCellsT P t cs (b + i * st)
    | _ => none
  | _ => none

/-- A value's cells. -/
def T.cells : T → List T
  | .agg cs => cs
  | t => [t]
/-- May a value stand in one cell? -/
def T.cell : T → Bool
  | .agg _ => false
  | .tup _ => false
  | .dead => false
  | .v (.tuple _) => false
  | .v (.agg _) => false
  | _ => true
/-- A slice that is all of a block, as one that is a part. -/
def T.low : T → T
  | .ow k sz n => .os k sz 0 n
  | t => t
def setFlat (ks : List IntKind) (b st i : Nat) : List T → Nat → List Int → Option (List Int)
  | [], _, xs => some xs
  | .v (.int k x) :: r, j, xs => if k = kat ks (b + j) st i then setFlat ks b st i r (j + 1) (xs.set (b + i * st + j) x) else none
  | _ :: _, _, _ => none
def setCells : List T → Nat → List T → List T
  | [], _, cs => cs
  | t :: r, j, cs => setCells r (j + 1) (cs.set j t)
def storeT (P : Program) (g : Mem) (t : TypeId) (a x : T) : Option Out := match a with
  | .op k b st i w => match sz? P t with
    | some s => if Nat.beq x.cells.length s && Nat.ble s w && x.cells.all T.cell then match g k with
      | some (.fl ks xs) => match setFlat ks b st i x.cells 0 xs with
        | some ys => outU .dead [(k, .fl ks ys)]
        | none => none
      | some (.cs cs) => outU .dead [(k, .cs (setCells x.cells (b + i * st) cs))]
      | _ => none
      else none
    | none => none
  | _ => none

/-- A new block. -/
def perKs (k0 : List IntKind) : Nat → List IntKind → Bool
  | _, [] => true
  | i, k :: r => decide (k = kc k0 i) && perKs k0 (i + 1) r
def blkS (sz : Nat) (cs : List T) : Blk := match ints? cs with
  | some (k :: ks, xs) => if perKs (k :: ks.take (sz - 1)) 0 (k :: ks) then .fl (k :: ks.take (sz - 1)) xs else .cs cs
  | _ => .cs cs
def blkOf (cs : List T) : Blk := match ints? cs with
  | some (k :: ks, xs) => .fl (k :: ks) xs
  | _ => .cs cs
def zeroT (P : Program) (t : TypeId) : Option (List T) := match P.info? t with
  | some i => match i.zero with
    | some z => let cs := z.cells.toList; if cs.all plain then some (cs.map .v) else none
    | none => none
  | none => none
/-- An array's cells may be flat; all others are told one by one. -/
def blkT (P : Program) (e : TypeId) (cs : List T) : Blk := match P.underlying e with
  | some (.array _ el) => match sz? P el with
    | some s => blkS s cs
    | none => .cs cs
  | _ => .cs cs
def allocT (P : Program) (key : Nat) (e : TypeId) : Option Out := match zeroT P e with
  | some cs => outU (.op key 0 cs.length 0 cs.length) [(key, blkT P e cs)]
  | none => none
def boxT (P : Program) (key : Nat) (e : TypeId) (x : T) : Option Out :=
  if x.cells.all T.cell then outU (.op key 0 x.cells.length 0 x.cells.length) [(key, blkT P e x.cells)] else none

def putCells : List T → Nat → List T → List T
  | [], _, cs => cs
  | t :: r, j, cs => putCells r (j + 1) (cs.set j t)
def fillT (place : Nat → Option (Nat × Nat)) : List (Nat × T) → List T → Option (List T)
  | [], cs => some cs
  | (i, x) :: r, cs => match place i with
    | some (off, s) => if Nat.beq x.cells.length s && Nat.ble (off + s) cs.length && x.cells.all T.cell then fillT place r (putCells x.cells off cs) else none
    | none => none
def fieldPlaces (P : Program) : List Field → Option (List (Nat × Nat))
  | [] => some []
  | f :: r => match sz? P f.type, fieldPlaces P r with
    | some s, some l => some ((f.offset, s) :: l)
    | _, _ => none
def buildT (P : Program) (t : TypeId) (parts : List (Nat × T)) : Option Out := match zeroT P t with
  | none => none
  | some zs => match P.underlying t with
    | some (.struct fs) => match fieldPlaces P fs.toList with
      | some pl => match fillT (fun i => pl[i]?) parts zs with
        | some cs => out (.agg cs)
        | none => none
      | none => none
    | some (.array _ e) => match sz? P e with
      | some s => match fillT (fun i => some (i * s, s)) parts zs with
        | some cs => out (.agg cs)
        | none => none
      | none => none
    | _ => none
def rep : Nat → List T → List T
  | 0, _ => []
  | n + 1, l => l ++ rep n l
def buildSliceT (P : Program) (key : Nat) (t : TypeId) (len : Nat) (parts : List (Nat × T)) : Option Out := match P.underlying t with
  | some (.slice e) => match sz? P e, zeroT P e with
    | some (s + 1), some zs => if Nat.beq zs.length (s + 1) && Nat.ble (len * (s + 1)) 1000000 then
      match fillT (fun i => some (i * (s + 1), s + 1)) parts (rep len zs) with
      | some cs => outU (.ow key (s + 1) len) [(key, blkS (s + 1) cs)]
      | none => none
      else none
    | _, _ => none
  | _ => none

def outUC (c : Prop) (t : T) (up : List (Nat × Blk)) : Option Out := some ⟨some c, t, up⟩
def lenT (P : Program) (g : Mem) (t : TypeId) (x : T) : Option Out := match P.underlying t, x with
  | some (.slice _), .fl _ n _ => outV (.int .i64 n)
  | some (.slice _), .sl n _ _ => outV (.int .i64 n)
  | some (.slice _), .os k _ _ n => if g.alive k then outV (.int .i64 n) else none
  | some (.slice _), .v (.slice none 0 0) => outV (.int .i64 0)
  | some (.array n _), _ => outV (.int .i64 n)
  | some (.map _ _), .mp k => match g k with
    | some (.mp _ _ es) => outV (.int .i64 es.length)
    | _ => none
  | some (.map _ _), .v (.map none) => outV (.int .i64 0)
  | _, _ => none
/-- A literal 1 falls away. -/
def mulN (n : Nat) (s : Nat) : Nat := bif Nat.beq s 1 then n else n * s
/-- Where a part begins, and how many it has. -/
def loN (l : Option Int) : Nat := match l with | some l => l.toNat | none => 0
def hiN (n : Nat) (h : Option Int) : Nat := match h with | some h => h.toNat | none => n
def cutN {α : Type} (s : Nat) (lo hi : Option Int) (xs : List α) : List α := match lo, hi with
  | none, none => xs
  | some l, none => xs.drop (mulN l.toNat s)
  | none, some h => xs.take (mulN h.toNat s)
  | some l, some h => (xs.take (mulN h.toNat s)).drop (mulN l.toNat s)
def cutL (n : Nat) (lo hi : Option Int) : Nat := match lo, hi with
  | none, none => n
  | some l, none => n - l.toNat
  | none, some h => h.toNat
  | some l, some h => h.toNat - l.toNat
def cutC (n : Nat) (lo hi : Option Int) : Option Prop := match lo, hi with
  | none, none => none
  | some l, none => some (0 ≤ l ∧ l ≤ n)
  | none, some h => some (0 ≤ h ∧ h ≤ n)
  | some l, some h => some (0 ≤ l ∧ l ≤ h ∧ h ≤ n)
def intO : Option T → Option (Option Int)
  | none => some none
  | some (.v (.int _ x)) => some (some x)
  | _ => none
def sliceT (P : Program) (g : Mem) (t : TypeId) (x : T) (lo hi : Option T) : Option Out := match intO lo, intO hi with
  | some lo, some hi => match P.underlying t with
    | some (.slice e) => match sz? P e with
      | some (s + 1) => match x with
        | .fl ks n xs => if Nat.beq ks.length (s + 1) then some ⟨cutC n lo hi, .fl ks (cutL n lo hi) (cutN (s + 1) lo hi xs), []⟩ else none
        | .sl n sz cs => if Nat.beq sz (s + 1) then some ⟨cutC n lo hi, .sl (cutL n lo hi) sz (cutN (s + 1) lo hi cs), []⟩ else none
        | .os k sz off n => if g.alive k && Nat.beq sz (s + 1) then some ⟨cutC n lo hi, .os k sz (addN off (loN lo)) (cutL n lo hi), []⟩ else none
        | .v (.slice none 0 0) => some ⟨cutC 0 lo hi, .v (.slice none 0 0), []⟩
        | _ => none
      | _ => none
    | some (.array n e) => match sz? P e with
      | some (s + 1) => match x with
        | .op k b st i w => if g.alive k && Nat.beq b 0 && Nat.beq i 0 && Nat.ble (n * (s + 1)) w && Nat.ble n 1099511627776 then some ⟨cutC n lo hi, .os k (s + 1) (loN lo) (cutL n lo hi), []⟩ else none
        | _ => none
      | _ => none
    | _ => none
  | _, _ => none

/-- How many elements a slice has, and its cells. -/
def contT (g : Mem) (sz : Nat) (x : T) : Option (Nat × Blk) := match x with
  | .v (.slice none 0 0) => some (0, .cs [])
  | .fl ks n xs => if Nat.beq ks.length sz then some (n, .fl ks xs) else none
  | .sl n s cs => if Nat.beq s sz then some (n, .cs cs) else none
  | .ow k s n => if Nat.beq s sz then match g k with
    | some (.fl ks xs) => if Nat.beq ks.length sz then some (n, .fl ks xs) else none
    | some (.cs cs) => some (n, .cs cs)
    | _ => none else none
  | .os k s off n => if Nat.beq s sz then match g k with
    | some (.fl ks xs) => if Nat.beq ks.length sz then some (n, .fl ks ((xs.drop (mulN off sz)).take (mulN n sz))) else none
    | some (.cs cs) => some (n, .cs ((cs.drop (mulN off sz)).take (mulN n sz)))
    | _ => none else none
  | _ => none
def joinB : Blk → Blk → Option Blk
  | .cs [], b => some b
  | b, .cs [] => some b
  | .fl ks xs, .fl ks' ys => if ks = ks' then some (.fl ks (xs ++ ys)) else none
  | .cs a, .cs b => some (.cs (a ++ b))
  | _, _ => none
def bytes? (P : Program) (t : TypeId) : Option Nat := match P.info? t with
  | some i => some i.bytes
  | none => none
def cellB : Blk → Bool
  | .fl _ _ => true
  | .cs cs => cs.all T.cell
  | _ => false
def appendT (P : Program) (g : Mem) (key : Nat) (t t2 : TypeId) (s x : T) : Option Out := match P.underlying t, P.underlying t2 with
  | some (.slice e), some (.slice _) => match sz? P e, zeroT P e, bytes? P e with
    | some (sz + 1), some zs, some by_ => if Nat.beq zs.length (sz + 1) && Nat.ble by_ 64 && Nat.ble 1 by_ then match contT g (sz + 1) x with
      | some (n2, B2) => if cellB B2 then match s with
        | .v (.slice none 0 0) => outUC (n2 * by_ ≤ 140737488355328) (.ow key (sz + 1) n2) [(key, B2)]
        | .ow k s1 n => if Nat.beq s1 (sz + 1) then match contT g (sz + 1) (.ow k s1 n) with
          | some (_, B1) => match joinB B1 B2 with
            | some B => outUC (n + n2 ≤ 1099511627776) (.ow key (sz + 1) (n + n2)) [(key, B), (k, .gone)]
            | none => none
          | none => none else none
        | .os k s1 0 n => if Nat.beq s1 (sz + 1) then match contT g (sz + 1) (.os k s1 0 n) with
          | some (_, B1) => match joinB B1 B2 with
            | some B => outUC (n + n2 ≤ 1099511627776) (.ow key (sz + 1) (n + n2)) [(key, B), (k, .gone)]
            | none => none
          | none => none else none
        | _ => none
        else none
      | none => none
      else none
    | _, _, _ => none
  | _, _ => none
/-- A row laid over another one from place o on. -/
def spl (xs : List Int) (o : Nat) (ys : List Int) : List Int := xs.take o ++ (ys ++ xs.drop (o + ys.length))
/-- A slice of the machine's own: its block, the size of its elements, where it begins, how many it has. -/
def osOf : T → Option (Nat × Nat × Nat × Nat)
  | .ow k s n => some (k, s, 0, n)
  | .os k s off n => some (k, s, off, n)
  | _ => none
def minN : Nat → Nat → Nat := fun a b => if a ≤ b then a else b
def copyT (P : Program) (g : Mem) (t : TypeId) (s x : T) : Option Out := match P.underlying t with
  | some (.slice e) => match sz? P e with
    | some (sz + 1) => match contT g (sz + 1) x, osOf s with
      | some (n2, .fl ks ys), some (k, s1, off, n) => match g k with
        | some (.fl ks1 xs) => if ks1 = ks && Nat.beq s1 (sz + 1) && Nat.beq ks.length (sz + 1) then some ⟨none, .v (.int .i64 (minN n2 n)), [(k, .fl ks1 (spl xs (mulN off (sz + 1)) (ys.take (mulN (minN n2 n) (sz + 1)))))]⟩ else none
        | _ => none
      | _, _ => none
    | _ => none
  | _ => none
def makeSliceT (P : Program) (key : Nat) (t : TypeId) (l c : T) : Option Out := match P.underlying t, l, c with
  | some (.slice e), .v (.int _ l), .v (.int _ c) => match sz? P e, zeroT P e, bytes? P e with
    | some (sz + 1), some zs, some by_ => if Nat.beq zs.length (sz + 1) && Nat.ble by_ 64 then match ints? zs with
      | some (k :: ks, xs) => if xs.all (· == 0) then outUC (0 ≤ l ∧ l ≤ c ∧ c ≤ 1099511627776) (.ow key (sz + 1) l.toNat) [(key, .fl (k :: ks) (List.replicate (mulN l.toNat (sz + 1)) 0))] else none
      | _ => outUC (0 ≤ l ∧ l ≤ c ∧ c ≤ 1099511627776) (.ow key (sz + 1) l.toNat) [(key, .cs (rep l.toNat zs))]
      else none
    | _, _, _ => none
  | _, _, _ => none
def isZ : T → Bool
  | .v (.int _ x) => x == 0
  | _ => false
def isZO : Option T → Bool
  | none => true
  | some t => isZ t
def isSl : T → Bool
  | .fl .. => true
  | .sl .. => true
  | .os .. => true
  | .ow .. => true
  | .v (.slice none 0 0) => true
  | _ => false
/-- x[:0:0] -/
def clipT (P : Program) (key : Nat) (t : TypeId) (x : T) (lo : Option T) (hi : Option T) (mx : T) : Option Out := match P.underlying t, hi with
  | some (.slice e), some hi => match sz? P e with
    | some (s + 1) => if isSl x && isZO lo && isZ hi && isZ mx then outU (.ow key (s + 1) 0) [(key, .cs [])] else none
    | _ => none
  | _, _ => none
def minT (x y : T) : Option Out := match x, y with
  | .v (.int k a), .v (.int k' b) => if k = k' then outV (.int k (if b < a then b else a)) else none
  | _, _ => none
def maxT (x y : T) : Option Out := match x, y with
  | .v (.int k a), .v (.int k' b) => if k = k' then outV (.int k (if b > a then b else a)) else none
  | _, _ => none

/-! ### maps of whole numbers, to whole numbers or to nothing -/
/-- A function, as a number: 0 is nil. -/
def fnV : Nat → Value
  | 0 => .nilFunc
  | f + 1 => .func (.func f) ⟨[]⟩ ⟨[]⟩
def mval : MK → Int → Value
  | .some q, v => .int q v
  | .none, _ => .agg ⟨[]⟩
  | .fn, v => fnV v.toNat
def mputL : List (Int × Int) → Int → Int → List (Int × Int)
  | [], k, v => [(k, v)]
  | (a, b) :: r, k, v => if k = a then (a, v) :: r else (a, b) :: mputL r k v
def mgetL : List (Int × Int) → Int → Option Int
  | [], _ => none
  | (a, b) :: r, k => if k = a then some b else mgetL r k
/-- Of which kinds a map's keys and values are. -/
def mpKind (P : Program) (k e : TypeId) : Option (IntKind × MK) := match P.underlying k, P.underlying e with
  | some (.int kk), some (.int q) => some (kk, .some q)
  | some (.int kk), some (.struct ⟨[]⟩) => some (kk, .none)
  | some (.int kk), some (.func _ _ _) => some (kk, .fn)
  | _, _ => none
def makeMapT (P : Program) (key : Nat) (t : TypeId) (r : Option T) : Option Out := match P.underlying t, r with
  | some (.map k e), none => match mpKind P k e with
    | some (kk, vk) => outU (.mp key) [(key, .mp kk vk [])]
    | none => none
  | _, _ => none
/-- A map's value, as a number. -/
def mvOf : MK → T → Option Int
  | .some q, .v (.int q' b) => if q' = q then some b else none
  | .none, .agg [] => some 0
  | .none, .v (.agg ⟨[]⟩) => some 0
  | .fn, .v (.func (.func f) ⟨[]⟩ ⟨[]⟩) => some ((f + 1 : Nat) : Int)
  | .fn, .fn (.func f) [] [] => some ((f + 1 : Nat) : Int)
  | _, _ => none
def mapUpdT (P : Program) (g : Mem) (t : TypeId) (m x v : T) : Option Out := match P.underlying t, m, x with
  | some (.map kt e), .mp k, .v (.int kq a) => match mpKind P kt e, g k with
    | some (kk, vk), some (.mp kk' vk' es) => if kk = kk' ∧ vk = vk' ∧ kq = kk then match mvOf vk v with
      | some b => outU .dead [(k, .mp kk vk (mputL es a b))]
      | none => none
      else none
    | _, _ => none
  | _, _, _ => none
def mvT : MK → Int → T
  | .some q, v => .v (.int q v)
  | .none, _ => .agg []
  | .fn, v => .v (fnV v.toNat)
def zMv (P : Program) (e : TypeId) (vk : MK) : Bool := match P.info? e with
  | some i => match i.zero, vk with
    | some (.int q' z), .some q => decide (q' = q) && z == 0
    | some (.agg ⟨[]⟩), .none => true
    | some .nilFunc, .fn => true
    | _, _ => false
  | none => false
def lookT (P : Program) (g : Mem) (t : TypeId) (m x : T) (ok : Bool) : Option Out := match P.underlying t, m, x with
  | some (.map kt e), .mp k, .v (.int kq a) => match mpKind P kt e, g k with
    | some (kk, vk), some (.mp kk' vk' es) => if kk = kk' ∧ vk = vk' ∧ kq = kk ∧ zMv P e vk = true then
        out (bif ok then .tup [mvT vk ((mgetL es a).getD 0), .v (.bool (mgetL es a).isSome)] else mvT vk ((mgetL es a).getD 0))
      else none
    | _, _ => none
  | _, _, _ => none
end Go.Proofs.Yteinekidpokbpaa.Am
