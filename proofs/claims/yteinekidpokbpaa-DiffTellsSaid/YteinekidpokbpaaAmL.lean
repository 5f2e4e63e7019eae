/- Rows of operations whose order is left open: whatever order is drawn, they leave what they leave in the text's. -/
import Derived.Test.YteinekidpokbpaaAmK
namespace Go.Proofs.Yteinekidpokbpaa.Am
set_option linter.unusedVariables false
set_option linter.unusedSimpArgs false
open Go.RowKit

/-- What an operation has left: its slot, its value, what became of blocks; on which blocks it hangs (none: on all), at which slots it looks. -/
structure Rec where
  d : Option Tmp
  t : T
  up : List (Nat × Blk)
  dep : Option (List Nat)
  look : List Nat
mutual
def keysT : T → List Nat
  | .os k _ _ _ => [k]
  | .ow k _ _ => [k]
  | .op k _ _ _ _ => [k]
  | .mp k => [k]
  | .sl _ _ cs => keysTs cs
  | .sp cs _ => keysTs cs
  | .agg cs => keysTs cs
  | .tup cs => keysTs cs
  | .ifc _ x => keysT x
  | .fn _ a c => keysTs a ++ keysTs c
  | _ => []
def keysTs : List T → List Nat
  | [] => []
  | t :: r => keysT t ++ keysTs r
end
def slotOf : Operand → List Nat
  | .tmp t => [t]
  | _ => []
def slotsOf : List Operand → List Nat
  | [] => []
  | x :: r => slotOf x ++ slotsOf r
def lookOf (ops : Array Oper) (o : Oper) : List Nat := slotsOf o.op.operands.toList ++ match o.guard with
  | some (j, _) => match dstOf ops j with
    | some d => [d]
    | none => []
  | none => []
def keysE (C : Ctx) (ts : Sl) : List Operand → List Nat
  | [] => []
  | x :: r => keysT (ev C ts x) ++ keysE C ts r
def isCall : Op → Bool
  | .call c => match c.callee with
    | .value _ => true
    | _ => false
  | _ => false
/-- All blocks that these lead to: of numbers, or of cells that lead to such. -/
def reachBL (F : List Nat → Option (List Nat)) (g : Mem) : List Nat → Option (List Nat)
  | [] => some []
  | q :: r => match g q with
    | some (.fl _ _) => match reachBL F g r with
      | some b => some (q :: b)
      | none => none
    | some (.cs cs) => match F (keysTs cs) with
      | some a => match reachBL F g r with
        | some b => some (q :: (a ++ b))
        | none => none
      | none => none
    | _ => none
def noKeys : List Nat → Option (List Nat)
  | [] => some []
  | _ => none
def reachB (g : Mem) : Nat → List Nat → Option (List Nat)
  | 0 => reachBL noKeys g
  | d + 1 => reachBL (reachB g d) g
/-- Two memories are the same at a block, and at those that it leads to. -/
def Agree (g g' : Mem) : Nat → Nat → Prop
  | 0, q => g q = g' q ∧ ((∃ ks xs, g' q = some (.fl ks xs)) ∨ ∃ cs, g' q = some (.cs cs) ∧ keysTs cs = [])
  | d + 1, q => g q = g' q ∧ ((∃ ks xs, g' q = some (.fl ks xs)) ∨ ∃ cs, g' q = some (.cs cs) ∧ ∀ r ∈ keysTs cs, Agree g g' d r)
theorem Agree.eq {g g' : Mem} {d q : Nat} (h : Agree g g' d q) : g q = g' q := by cases d <;> exact h.1
theorem Agree.cs {g g' : Mem} {d q : Nat} (h : Agree g g' d q) {cs : List T} (hc : g' q = some (.cs cs)) : ∃ d', ∀ r ∈ keysTs cs, Agree g g' d' r := by
  cases d with
  | zero =>
    rcases h.2 with ⟨ks, xs, e⟩ | ⟨cs', e, h2⟩
    · rw [e] at hc; cases hc
    · rw [e] at hc; cases hc; exact ⟨0, fun r hr => by rw [h2] at hr; cases hr⟩
  | succ d =>
    rcases h.2 with ⟨ks, xs, e⟩ | ⟨cs', e, h2⟩
    · rw [e] at hc; cases hc
    · rw [e] at hc; cases hc; exact ⟨d, h2⟩
theorem reachBL_ok {F : List Nat → Option (List Nat)} {g g' : Mem} {R : Nat → Prop} (hF : ∀ ks l, F ks = some l → (∀ q ∈ l, g q = g' q) → ∀ q ∈ ks, R q) : ∀ {ks l : List Nat}, reachBL F g' ks = some l → (∀ q ∈ l, g q = g' q) →
    ∀ q ∈ ks, q ∈ l ∧ g q = g' q ∧ ((∃ k xs, g' q = some (.fl k xs)) ∨ ∃ cs, g' q = some (.cs cs) ∧ ∀ r ∈ keysTs cs, R r)
  | [], l, h, hl, q, hq => by cases hq
  | a :: r, l, h, hl, q, hq => by
    simp only [reachBL] at h
    split at h
    · rename_i k xs e
      split at h
      · rename_i b hb
        cases h
        rcases List.mem_cons.1 hq with rfl | hq
        · exact ⟨List.mem_cons_self .., hl _ (List.mem_cons_self ..), .inl ⟨_, _, e⟩⟩
        · obtain ⟨h1, h2⟩ := reachBL_ok hF hb (fun q hq => hl q (List.mem_cons_of_mem _ hq)) q hq
          exact ⟨List.mem_cons_of_mem _ h1, h2⟩
      · cases h
    · rename_i cs e
      split at h
      · rename_i x hx
        split at h
        · rename_i b hb
          cases h
          rcases List.mem_cons.1 hq with rfl | hq
          · exact ⟨List.mem_cons_self .., hl _ (List.mem_cons_self ..), .inr ⟨_, e, hF _ _ hx (fun q hq => hl q (List.mem_cons_of_mem _ (List.mem_append.2 (.inl hq))))⟩⟩
          · obtain ⟨h1, h2⟩ := reachBL_ok hF hb (fun q hq => hl q (List.mem_cons_of_mem _ (List.mem_append.2 (.inr hq)))) q hq
            exact ⟨List.mem_cons_of_mem _ (List.mem_append.2 (.inr h1)), h2⟩
        · cases h
      · cases h
    · cases h
theorem reachB_ok {g g' : Mem} : ∀ (d : Nat) {ks l : List Nat}, reachB g' d ks = some l → (∀ q ∈ l, g q = g' q) → ∀ q ∈ ks, q ∈ l ∧ Agree g g' d q
  | 0, ks, l, h, hl, q, hq => by
    obtain ⟨h1, h2, h3⟩ := reachBL_ok (R := fun _ => False) (fun ks l hF _ q hq => by cases ks with | nil => cases hq | cons a r => cases hF) h hl q hq
    refine ⟨h1, h2, h3.imp id fun ⟨cs, e, hc⟩ => ⟨cs, e, ?_⟩⟩
    cases hk : keysTs cs with
    | nil => rfl
    | cons a r => exact (hc a (by rw [hk]; exact List.mem_cons_self ..)).elim
  | d + 1, ks, l, h, hl, q, hq => by
    obtain ⟨h1, h2, h3⟩ := reachBL_ok (R := Agree g g' d) (fun ks l hF hl q hq => (reachB_ok d hF hl q hq).2) h hl q hq
    exact ⟨h1, h2, h3⟩
theorem reachB_self {g : Mem} {d : Nat} {ks l : List Nat} (h : reachB g d ks = some l) {q : Nat} (hq : q ∈ ks) : q ∈ l := (reachB_ok (g := g) d h (fun _ _ => rfl) q hq).1
def depOf (C : Ctx) (g : Mem) (ts : Sl) (key : Nat) (op : Op) : Option (List Nat) := match keysE C ts op.operands.toList with
  | [] => some [key, key + 1, key + 2, key + 3]
  | ks => match isCall op with
    | true => match reachB g 2 ks with
      | some l => some (key :: (key + 1) :: (key + 2) :: (key + 3) :: l)
      | none => none
    | false => some (key :: (key + 1) :: (key + 2) :: (key + 3) :: ks)

def ancOne (acc : List Nat) : List Edge → Nat → Nat
  | [], s => s
  | e :: r, s => match Region.binds .any e with
    | true => ancOne acc r (s ||| 2 ^ e.on ||| acc.getD e.on 0)
    | false => ancOne acc r s
def ancs : List Oper → List Nat → List Nat
  | [], acc => acc
  | o :: r, acc => ancs r (acc ++ [ancOne acc o.after.toList 0])
/-- Of two operations one waits for the other one. -/
def ordd (A : List Nat) (i j : Nat) : Bool := match Nat.blt j i with
  | true => (A.getD i 0).testBit j
  | false => (A.getD j 0).testBit i
def meets : List Nat → List Nat → Bool
  | [], _ => false
  | a :: r, l => memN l a || meets r l
def hasD : Option Tmp → List Nat → Bool
  | some d, l => memN l d
  | none, _ => false
def sameD : Option Tmp → Option Tmp → Bool
  | some d, some e => Nat.beq d e
  | _, _ => false
def upKeys : List (Nat × Blk) → List Nat
  | [] => []
  | (k, _) :: r => k :: upKeys r
def clash (r s : Rec) : Bool := hasD s.d r.look || hasD r.d s.look || (match r.dep, upKeys s.up with
  | _, [] => false
  | none, _ => true
  | some l, u => meets u l) || (match s.dep, upKeys r.up with
  | _, [] => false
  | none, _ => true
  | some l, u => meets u l) || meets (upKeys r.up) (upKeys s.up)
/-- An operation and those ahead of it: unlike slots; where they hang on each other, they wait. rs: the ones ahead, the last one first. -/
def chkOne (A : List Nat) (r : Rec) (i : Nat) : List Rec → Bool
  | [] => true
  | s :: rs => !sameD r.d s.d && (!clash r s || (A.getD i 0).testBit rs.length) && chkOne A r i rs
def chkAll (A : List Nat) : List Rec → Bool
  | [] => true
  | r :: rs => chkOne A r rs.length rs && chkAll A rs
/-- The same, by rows that are laid out ahead: no number is reckoned of what is not known. -/
def rowB (a : Nat) : Nat → List Bool
  | 0 => []
  | n + 1 => a.testBit n :: rowB a n
def rowsB (A : List Nat) : Nat → List (List Bool)
  | 0 => []
  | n + 1 => rowB (A.getD n 0) n :: rowsB A n
def chkOneB (r : Rec) : List Bool → List Rec → Bool
  | b :: l, s :: rs => !sameD r.d s.d && (!clash r s || b) && chkOneB r l rs
  | _, [] => true
  | [], _ => false
def chkAllB : List (List Bool) → List Rec → Bool
  | l :: ls, r :: rs => chkOneB r l rs && chkAllB ls rs
  | _, [] => true
  | [], _ => false
theorem chkOneB_ok {A : List Nat} {r : Rec} {i : Nat} : ∀ {rs : List Rec}, chkOneB r (rowB (A.getD i 0) rs.length) rs = true → chkOne A r i rs = true := by
  intro rs
  induction rs with
  | nil => intro _; rfl
  | cons s rs ih =>
    intro h
    simp only [List.length_cons, rowB, chkOneB, Bool.and_eq_true] at h
    simp only [chkOne, Bool.and_eq_true]
    exact ⟨h.1, ih h.2⟩
theorem chkAllB_ok {A : List Nat} : ∀ {rs : List Rec}, chkAllB (rowsB A rs.length) rs = true → chkAll A rs = true := by
  intro rs
  induction rs with
  | nil => intro _; rfl
  | cons r rs ih =>
    intro h
    simp only [List.length_cons, rowsB, chkAllB, Bool.and_eq_true] at h
    simp only [chkAll, Bool.and_eq_true]
    exact ⟨chkOneB_ok h.1, ih h.2⟩
def edgesOk : Nat → List Oper → Bool
  | _, [] => true
  | i, o :: r => o.after.toList.all (fun e => !Region.binds .any e || Nat.blt e.on i) && edgesOk (i + 1) r

/-- What stands for the operations ahead of a call that all others wait for. -/
def dm : Rec := ⟨none, .tup [], [], some [], []⟩
def dms : Nat → List Rec
  | 0 => []
  | n + 1 => dm :: dms n
def allT : List Bool → Bool
  | [] => true
  | b :: r => b && allT r
/-- From i + 1 on: does each wait for i? -/
def waitsB (A : List Nat) (i : Nat) : Nat → Bool
  | 0 => true
  | k + 1 => (A.getD (i + 1 + k) 0).testBit i && waitsB A i k
/-- Does an operation wait for all ahead of it, and all behind it for it? -/
def cutB (A : List Nat) (i N : Nat) : Bool := allT (rowB (A.getD i 0) i) && waitsB A i (N - i - 1)

/-- The walk of such a row in the text's order; what each operation left is noted. q: how many are behind. -/
def dgoB (C : Ctx) (X : Caller) (n base : Nat) (ops : Array Oper) (o : Oper) (q : Nat) (rc : Sl → Hp → List Rec → Prop) (ts : Sl) (H : Hp) (rs : List Rec) : Prop :=
    let ex (ts : Sl) : Prop := match stepO C H.get ts (keyOf base o.dst) o.op with
      | some ot => andO ot.c (fT ot.t fun t => fP n ts o.dst t fun ts' => fU ot.up [] fun up => fU ot.up H fun H' => rc ts' H' (⟨o.dst, t, up, depOf C H.get ts (keyOf base o.dst) o.op, lookOf ops o⟩ :: rs))
      | none => match o.op with
        | .call c => match c.callee with
          | .value f => match chkAllB (rowsB (ancs ops.toList []) (ops.size - q - 1)) rs && (edgesOk 0 ops.toList && cutB (ancs ops.toList []) (ops.size - q - 1) ops.size) with
            | true => X (ev C ts f) (evL C ts c.args.toList) (keyOf base o.dst) ts H (fun t ts H => fP n ts o.dst t fun ts => rc ts H (dms (ops.size - q)))
            | false => False
          | _ => False
        | _ => False
    let sk (ts : Sl) : Prop := fP n ts o.dst (.tup []) fun ts' => rc ts' H (⟨o.dst, .tup [], [], some [], lookOf ops o⟩ :: rs)
    match o.guard with
      | none => ex ts
      | some (j, want) => match dstOf ops j with
        | none => False
        | some d => match tget ts d with
          | .v (.bool x) => ifB x
              (match want with
                | true => ex ((d, .v (.bool true)) :: ts)
                | false => sk ((d, .v (.bool true)) :: ts))
              (match want with
                | false => ex ((d, .v (.bool false)) :: ts)
                | true => sk ((d, .v (.bool false)) :: ts))
          | .tup _ => sk ts
          | _ => False
def lenO : List Oper → Nat
  | [] => 0
  | _ :: r => lenO r + 1
theorem lenO_eq (l : List Oper) : lenO l = l.length := by
  induction l with
  | nil => rfl
  | cons a l ih => simp only [lenO, ih, List.length_cons]
noncomputable def dgo (C : Ctx) (X : Caller) (n base : Nat) (ops : Array Oper) (F : Sl → Hp → List Rec → Prop) (l : List Oper) : Sl → Hp → List Rec → Prop :=
  @List.rec Oper (fun _ => Sl → Hp → List Rec → Prop) (fun ts H rs => F ts H rs) (fun o r rc => dgoB C X n base ops o (lenO r) rc) l
theorem dgo_cons {C : Ctx} {X : Caller} {n base : Nat} {ops : Array Oper} {F : Sl → Hp → List Rec → Prop} {o : Oper} {r : List Oper} {ts : Sl} {H : Hp} {rs : List Rec} : dgo C X n base ops F (o :: r) ts H rs = dgoB C X n base ops o (lenO r) (dgo C X n base ops F r) ts H rs := rfl
def dfin (ops : Array Oper) (K : Sl → Hp → Prop) (ts : Sl) (H : Hp) (rs : List Rec) : Prop := match chkAllB (rowsB (ancs ops.toList []) ops.size) rs && edgesOk 0 ops.toList with
  | true => K ts H
  | false => False
end Go.Proofs.Yteinekidpokbpaa.Am
