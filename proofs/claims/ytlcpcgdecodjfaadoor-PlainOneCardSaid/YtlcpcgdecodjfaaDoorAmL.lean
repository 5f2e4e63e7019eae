/- Rows of operations whose order is left open: whatever order is drawn, they leave what they leave in the text's. -/
import Derived.Test.YtlcpcgdecodjfaaDoorAmK
namespace Go.Proofs.YtlcpcgdecodjfaaDoor.Am
set_option linter.unusedVariables false
set_option linter.unusedSimpArgs false
open Go.RowKit

/-- What an operation has left: its slot, its value, what became of blocks; on which blocks it hangs (none: on all), at which slots it looks. -/
structure Rec where
  d : Option Tmp
  t : T
  up : List (Nat × Blk)
  dep : Option (List Nat)
  look : List Nat
mutual
def keysT : T → List Nat
  | .os k _ _ _ => [k]
  | .ow k _ _ => [k]
  | .op k _ _ _ _ => [k]
  | .sl _ _ cs => keysTs cs
  | .sp cs _ => keysTs cs
  | .agg cs => keysTs cs
  | .tup cs => keysTs cs
  | .ifc _ x => keysT x
  | .fn _ a c => keysTs a ++ keysTs c
  | _ => []
def keysTs : List T → List Nat
  | [] => []
  | t :: r => keysT t ++ keysTs r
end
def slotOf : Operand → List Nat
  | .tmp t => [t]
  | _ => []
def slotsOf : List Operand → List Nat
  | [] => []
  | x :: r => slotOf x ++ slotsOf r
def lookOf (ops : Array Oper) (o : Oper) : List Nat := slotsOf o.op.operands.toList ++ match o.guard with
  | some (j, _) => match dstOf ops j with
    | some d => [d]
    | none => []
  | none => []
def keysE (C : Ctx) (ts : Sl) : List Operand → List Nat
  | [] => []
  | x :: r => keysT (ev C ts x) ++ keysE C ts r
def isCall : Op → Bool
  | .call c => match c.callee with
    | .value _ => true
    | _ => false
  | _ => false
/-- All these blocks are of numbers alone. -/
def allFl (g : Mem) : List Nat → Bool
  | [] => true
  | q :: r => match g q with
    | some (.fl _ _) => allFl g r
    | _ => false
def depOf (C : Ctx) (g : Mem) (ts : Sl) (key : Nat) (op : Op) : Option (List Nat) := match keysE C ts op.operands.toList with
  | [] => some [key, key + 1, key + 2, key + 3]
  | ks => match isCall op with
    | true => match allFl g ks with
      | true => some (key :: (key + 1) :: (key + 2) :: (key + 3) :: ks)
      | false => none
    | false => some (key :: (key + 1) :: (key + 2) :: (key + 3) :: ks)

def ancOne (acc : List Nat) : List Edge → Nat → Nat
  | [], s => s
  | e :: r, s => match Region.binds .any e with
    | true => ancOne acc r (s ||| 2 ^ e.on ||| acc.getD e.on 0)
    | false => ancOne acc r s
def ancs : List Oper → List Nat → List Nat
  | [], acc => acc
  | o :: r, acc => ancs r (acc ++ [ancOne acc o.after.toList 0])
/-- Of two operations one waits for the other one. -/
def ordd (A : List Nat) (i j : Nat) : Bool := match Nat.blt j i with
  | true => (A.getD i 0).testBit j
  | false => (A.getD j 0).testBit i
def meets : List Nat → List Nat → Bool
  | [], _ => false
  | a :: r, l => memN l a || meets r l
def hasD : Option Tmp → List Nat → Bool
  | some d, l => memN l d
  | none, _ => false
def sameD : Option Tmp → Option Tmp → Bool
  | some d, some e => Nat.beq d e
  | _, _ => false
def upKeys : List (Nat × Blk) → List Nat
  | [] => []
  | (k, _) :: r => k :: upKeys r
def clash (r s : Rec) : Bool := hasD s.d r.look || hasD r.d s.look || (match r.dep, upKeys s.up with
  | _, [] => false
  | none, _ => true
  | some l, u => meets u l) || (match s.dep, upKeys r.up with
  | _, [] => false
  | none, _ => true
  | some l, u => meets u l) || meets (upKeys r.up) (upKeys s.up)
/-- An operation and those ahead of it: unlike slots; where they hang on each other, they wait. rs: the ones ahead, the last one first. -/
def chkOne (A : List Nat) (r : Rec) (i : Nat) : List Rec → Bool
  | [] => true
  | s :: rs => !sameD r.d s.d && (!clash r s || (A.getD i 0).testBit rs.length) && chkOne A r i rs
def chkAll (A : List Nat) : List Rec → Bool
  | [] => true
  | r :: rs => chkOne A r rs.length rs && chkAll A rs
/-- The same, by rows that are laid out ahead: no number is reckoned of what is not known. -/
def rowB (a : Nat) : Nat → List Bool
  | 0 => []
  | n + 1 => a.testBit n :: rowB a n
def rowsB (A : List Nat) : Nat → List (List Bool)
  | 0 => []
  | n + 1 => rowB (A.getD n 0) n :: rowsB A n
def chkOneB (r : Rec) : List Bool → List Rec → Bool
  | b :: l, s :: rs => !sameD r.d s.d && (!clash r s || b) && chkOneB r l rs
  | _, [] => true
  | [], _ => false
def chkAllB : List (List Bool) → List Rec → Bool
  | l :: ls, r :: rs => chkOneB r l rs && chkAllB ls rs
  | _, [] => true
  | [], _ => false
theorem chkOneB_ok {A : List Nat} {r : Rec} {i : Nat} : ∀ {rs : List Rec}, chkOneB r (rowB (A.getD i 0) rs.length) rs = true → chkOne A r i rs = true := by
  intro rs
  induction rs with
  | nil => intro _; rfl
  | cons s rs ih =>
    intro h
    simp only [List.length_cons, rowB, chkOneB, Bool.and_eq_true] at h
    simp only [chkOne, Bool.and_eq_true]
    exact ⟨h.1, ih h.2⟩
theorem chkAllB_ok {A : List Nat} : ∀ {rs : List Rec}, chkAllB (rowsB A rs.length) rs = true → chkAll A rs = true := by
  intro rs
  induction rs with
  | nil => intro _; rfl
  | cons r rs ih =>
    intro h
    simp only [List.length_cons, rowsB, chkAllB, Bool.and_eq_true] at h
    simp only [chkAll, Bool.and_eq_true]
    exact ⟨chkOneB_ok h.1, ih h.2⟩
def edgesOk : Nat → List Oper → Bool
  | _, [] => true
  | i, o :: r => o.after.toList.all (fun e => !Region.binds .any e || Nat.blt e.on i) && edgesOk (i + 1) r

/-- The walk of such a row in the text's order; what each operation left is noted. -/
def dgoB (C : Ctx) (n base : Nat) (ops : Array Oper) (o : Oper) (rc : Sl → Hp → List Rec → Prop) (ts : Sl) (H : Hp) (rs : List Rec) : Prop :=
    let ex (ts : Sl) : Prop := match stepO C H.get ts (keyOf base o.dst) o.op with
      | some ot => andO ot.c (fT ot.t fun t => fP n ts o.dst t fun ts' => fU ot.up [] fun up => fU ot.up H fun H' => rc ts' H' (⟨o.dst, t, up, depOf C H.get ts (keyOf base o.dst) o.op, lookOf ops o⟩ :: rs))
      | none => False
    let sk (ts : Sl) : Prop := fP n ts o.dst .dead fun ts' => rc ts' H (⟨o.dst, .dead, [], some [], lookOf ops o⟩ :: rs)
    match o.guard with
      | none => ex ts
      | some (j, want) => match dstOf ops j with
        | none => False
        | some d => match tget ts d with
          | .v (.bool x) => ifB x
              (match want with
                | true => ex ((d, .v (.bool true)) :: ts)
                | false => sk ((d, .v (.bool true)) :: ts))
              (match want with
                | false => ex ((d, .v (.bool false)) :: ts)
                | true => sk ((d, .v (.bool false)) :: ts))
          | _ => False
noncomputable def dgo (C : Ctx) (n base : Nat) (ops : Array Oper) (F : Sl → Hp → List Rec → Prop) (l : List Oper) : Sl → Hp → List Rec → Prop :=
  @List.rec Oper (fun _ => Sl → Hp → List Rec → Prop) (fun ts H rs => F ts H rs) (fun o _ rc => dgoB C n base ops o rc) l
theorem dgo_cons {C : Ctx} {n base : Nat} {ops : Array Oper} {F : Sl → Hp → List Rec → Prop} {o : Oper} {r : List Oper} {ts : Sl} {H : Hp} {rs : List Rec} : dgo C n base ops F (o :: r) ts H rs = dgoB C n base ops o (dgo C n base ops F r) ts H rs := rfl
def dfin (ops : Array Oper) (K : Sl → Hp → Prop) (ts : Sl) (H : Hp) (rs : List Rec) : Prop := match chkAllB (rowsB (ancs ops.toList []) ops.size) rs && edgesOk 0 ops.toList with
  | true => K ts H
  | false => False
end Go.Proofs.YtlcpcgdecodjfaaDoor.Am
