/- Operations that make and write memory: they do what the machine says. -/
import Derived.Test.YteinekidpokbpaaAmE
namespace Go.Proofs.Yteinekidpokbpaa.Am
set_option linter.unusedVariables false
set_option linter.unusedSimpArgs false
open Go.RowKit

/-- An operation that may turn memory does what o says. -/
def StepOk (P : Program) (s : Sem Value) (w0 w : World) (O : Env) (m : Nat → Option Nat) (g : Mem) (o : Out) : Prop :=
  ∃ v w' m', s.run P w = .ok v w' ∧ HR w0 w' O m' (upd g o.up) ∧ Goes w w' (Im m g) (Im m' (upd g o.up)) m m' (lens g) (lens (upd g o.up)) ∧
    TV w' (Im m' (upd g o.up)) m' (lens (upd g o.up)) o.t v

section
variable {P : Program} {w0 w : World} {O : Env} {m : Nat → Option Nat} {g : Mem}

theorem Goes.refl (h : HR w0 w O m g) : Goes w w (Im m g) (Im m g) m m (lens g) (lens g) := Goes.of_below (Below.refl _ _) h
theorem StepOk.pure (h : HR w0 w O m g) {s : Sem Value} {o : Out} (hp : PureOk P s w (Im m g) m (lens g) o) : StepOk P s w0 w O m g o := by
  obtain ⟨v, h1, h2, h3⟩ := hp
  obtain ⟨c, t, up⟩ := o
  cases h2
  exact ⟨v, w, m, h1, h, Goes.refl h, h3⟩

theorem cell_new' (w : World) (c : Array Value) (e : TypeId) (i : Nat) : (w.alloc (.cells c e)).cell? ⟨w.heap.size, i, none⟩ = c[i]? := by
  simp only [World.cell?, World.alloc, Array.getElem?_push_size, Option.isSome_none, Bool.false_eq_true, if_false]
theorem frozen_new' (w : World) (c : Array Value) (e : TypeId) (i : Nat) : (w.alloc (.cells c e)).frozen? ⟨w.heap.size, i, none⟩ = false := by
  simp only [World.frozen?, World.alloc, Array.getElem?_push_size]; simp
theorem room_new' (w : World) (c : Array Value) (e : TypeId) (n : Nat) (h : n ≤ c.size) : Room (w.alloc (.cells c e)) w.heap.size n :=
  ⟨.cells c e, Array.getElem?_push_size, h⟩
theorem below_new (w : World) (o : Obj) : Below w.heap.size w (w.alloc o) := (Below.refl _ _).alloc (Nat.le_refl _) _

theorem kc_at {ks : List IntKind} {i : Nat} {k : IntKind} (h : ks[i]? = some k) : kc ks i = k := by
  have hlt : i < ks.length := (List.getElem?_eq_some_iff.1 h).1
  unfold kc
  rw [Nat.mod_eq_of_lt hlt, List.getD_eq_getElem?_getD, h]; rfl

/-- A block may be told of these cells. -/
def BlkFor (cs : List T) (b : Blk) : Prop :=
  b = .cs cs ∨ ∃ ks xs k0, ints? cs = some (ks, xs) ∧ k0 ≠ [] ∧ (∀ i k, ks[i]? = some k → kc k0 i = k) ∧ b = .fl k0 xs
theorem blkOf_for (cs : List T) : BlkFor cs (blkOf cs) := by
  unfold blkOf
  split
  · rename_i k ks xs e; exact .inr ⟨_, _, _, e, by simp, fun i k h => kc_at h, rfl⟩
  · exact .inl rfl
theorem perKs_ok {k0 : List IntKind} : ∀ {ks : List IntKind} {i : Nat}, perKs k0 i ks = true → ∀ j k, ks[j]? = some k → kc k0 (i + j) = k := by
  intro ks
  induction ks with
  | nil => intro i _ j k h; simp at h
  | cons a ks ih =>
    intro i h j k hj
    simp only [perKs, Bool.and_eq_true, decide_eq_true_eq] at h
    cases j with
    | zero => simp at hj; rw [Nat.add_zero, ← h.1, hj]
    | succ j => simp at hj; have := ih h.2 j k hj; rwa [Nat.add_assoc, Nat.add_comm 1 j] at this
theorem blkS_for (sz : Nat) (cs : List T) : BlkFor cs (blkS sz cs) := by
  unfold blkS
  split
  · rename_i k ks xs e
    split
    · rename_i hp
      exact .inr ⟨_, _, _, e, by simp, fun i k h => by have := perKs_ok hp i k h; rwa [Nat.zero_add] at this, rfl⟩
    · exact .inl rfl
  · exact .inl rfl

/-- A new block with these cells. -/
theorem newBlk (h : HR w0 w O m g) {k : Nat} (hk : g k = none) {cs : List T} {vs : List Value} (hv : TVs w (Im m g) m (lens g) cs vs) (e : TypeId) (rest : List Value) {B : Blk} (hB : BlkFor cs B) :
    let w' := w.alloc (.cells (vs ++ rest).toArray e); let g' := upd g [(k, B)]; let m' := mk1 m k (some w.heap.size)
    HR w0 w' O m' g' ∧ Goes w w' (Im m g) (Im m' g') m m' (lens g) (lens g') ∧ lens g' k = some (some cs.length) ∧ m' k = some w.heap.size ∧ Room w' w.heap.size (vs.length + rest.length) := by
  intro w' g' m'
  have hb : Below w.heap.size w w' := below_new _ _
  have G : Goes w w' (Im m g) (Im m' g') m m' (lens g) (lens g') := Goes.new h hb hk (fun q hq => by cases hq; exact Nat.le_refl _)
  have hroom : ∀ n, n ≤ vs.length + rest.length → Room w' w.heap.size n := fun n hn => room_new' _ _ _ _ (by simpa using hn)
  have hfrz : NoFrz w' w.heap.size := fun o => frozen_new' _ _ _ _
  have hcell : ∀ i v, vs[i]? = some v → w'.cell? ⟨w.heap.size, i, none⟩ = some v := fun i v hi => by
    have hlt : i < vs.length := (List.getElem?_eq_some_iff.1 hi).1
    rw [cell_new']; simp [List.getElem?_append_left hlt, hi]
  have hlen := hv.length
  have hbl : B.len? = some cs.length ∧ BVb O w' (Im m' g') m' (lens g') B w.heap.size := by
    rcases hB with rfl | ⟨ks, xs, k0, e0, hk0, hkc, rfl⟩
    · exact ⟨rfl, vs, hv.goes G, hroom _ (by omega), hfrz, fun i v hi => by rw [Nat.zero_add]; exact hcell _ _ hi⟩
    · obtain ⟨a1, a2, a3⟩ := ints_inv e0 hv
      refine ⟨by simp [Blk.len?]; omega, hk0, hroom _ (by omega), hfrz, fun i x hx => ?_⟩
      obtain ⟨k1, b1, b2⟩ := a3 i x hx
      rw [Nat.zero_add, hkc i k1 b1]
      exact hcell _ _ b2
  refine ⟨h.newB hb hk (fun q hq => by cases hq; exact Nat.le_refl _) hbl.2, G, ?_, if_pos rfl, hroom _ (Nat.le_refl _)⟩
  rw [lens_upd, if_pos rfl, hbl.1]

theorem plain_TVs {I : Nat → Prop} {L : Nat → Option (Option Nat)} {cs : List Value} (h : cs.all plain = true) : TVs w I m L (cs.map .v) cs := by
  induction cs with
  | nil => exact .nil
  | cons c cs ih => simp only [List.all_cons, Bool.and_eq_true] at h; exact .cons (.v h.1) (ih h.2)
theorem zeroT_some {I : Nat → Prop} {L : Nat → Option (Option Nat)} {t : TypeId} {cs : List T} (h : zeroT P t = some cs) :
    ∃ z : Value, (zeroValue t).run P w = .ok z w ∧ TVs w I m L cs z.cells.toList := by
  unfold zeroT at h
  split at h
  · rename_i i hi
    split at h
    · rename_i z hz
      simp only at h
      split at h
      · rename_i hp
        cases h
        exact ⟨z, by simp [zeroValue, run_typeInfo, hi, hz], plain_TVs hp⟩
      · cases h
    · cases h
  · cases h

theorem blkT_for (P : Program) (e : TypeId) (cs : List T) : BlkFor cs (blkT P e cs) := by
  unfold blkT; split
  · split
    · exact blkS_for _ cs
    · exact .inl rfl
  · exact .inl rfl
theorem newVarBlk (h : HR w0 w O m g) {key : Nat} (hk : g key = none) {cs : List T} {vs : List Value} (hv : TVs w (Im m g) m (lens g) cs vs) (e : TypeId) {B : Blk} (hB : BlkFor cs B) :
    let w' := w.alloc (.cells vs.toArray e); let g' := upd g [(key, B)]; let m' := mk1 m key (some w.heap.size)
    HR w0 w' O m' g' ∧ Goes w w' (Im m g) (Im m' g') m m' (lens g) (lens g') ∧ TV w' (Im m' g') m' (lens g') (.op key 0 cs.length 0 cs.length) (.pointer (some ⟨w.heap.size, 0, none⟩)) := by
  intro w' g' m'
  obtain ⟨a1, a2, a3, a4, a5⟩ := newBlk h hk hv e [] hB
  rw [List.append_nil] at *
  refine ⟨a1, a2, ?_⟩
  have : TV w' (Im m' g') m' (lens g') (.op key 0 cs.length 0 cs.length) (.pointer (some ⟨w.heap.size, 0 + 0 * cs.length, none⟩)) := TV.op a3 a4 (by omega)
  rw [Nat.zero_mul] at this
  exact this
theorem allocT_ok (h : HR w0 w O m g) {key : Nat} (hk : g key = none) {e : TypeId} {o : Out} (ho : allocT P key e = some o) : StepOk P (Instr.alloc e true (.tuple #[])) w0 w O m g o := by
  unfold allocT at ho
  split at ho
  · rename_i cs hz
    cases ho
    obtain ⟨z, h1, h2⟩ := zeroT_some (w := w) (m := m) (I := Im m g) (L := lens g) hz
    obtain ⟨a1, a2, a3⟩ := newVarBlk h hk h2 e (blkT_for P e cs)
    exact ⟨_, _, _, by simp [Instr.alloc, h1, newVar, newRow], a1, a2, a3⟩
  · cases ho

theorem cells_TVs {I : Nat → Prop} {L : Nat → Option (Option Nat)} {x : T} {vx : Value} (h : TV w I m L x vx) (hc : x.cells.all T.cell = true) : TVs w I m L x.cells vx.cells.toList := by
  cases h
  case agg h => exact h
  case v hp => cases vx <;> first | (simp [T.cells, T.cell] at hc; done) | exact .cons (.v hp) .nil
  case fl0 => exact .cons .fl0 .nil
  case fl h1 h2 h3 h4 h5 h6 h7 => exact .cons (.fl h1 h2 h3 h4 h5 h6 h7) .nil
  case fp h1 h2 h3 h4 h5 => exact .cons (.fp h1 h2 h3 h4 h5) .nil
  case sl0 => exact .cons .sl0 .nil
  case sl h1 h2 h3 h4 h5 h6 h7 => exact .cons (.sl h1 h2 h3 h4 h5 h6 h7) .nil
  case sp h1 h2 h3 h4 => exact .cons (.sp h1 h2 h3 h4) .nil
  case osx h1 => exact .cons (.osx h1) .nil
  case os0 h1 h2 h3 => exact .cons (.os0 h1 h2 h3) .nil
  case os h1 h2 h3 h4 h5 h6 => exact .cons (.os h1 h2 h3 h4 h5 h6) .nil
  case ow h1 h2 => have := TV.ow h2 h1; cases h2 <;> exact .cons this .nil
  case opx h1 => exact .cons (.opx h1) .nil
  case op h1 h2 h3 => exact .cons (.op h1 h2 h3) .nil
  case mpx h1 => exact .cons (.mpx h1) .nil
  case mp h1 h2 => exact .cons (.mp h1 h2) .nil
  case ifc h1 => exact .cons (.ifc h1) .nil
  case fn h1 h2 => exact .cons (.fn h1 h2) .nil
  all_goals (simp [T.cells, T.cell] at hc; done)

theorem boxT_ok (h : HR w0 w O m g) {key : Nat} (hk : g key = none) {e : TypeId} {x : T} {vx : Value} {o : Out} (ho : boxT P key e x = some o) (hx : TV w (Im m g) m (lens g) x vx) :
    StepOk P (Instr.box e vx) w0 w O m g o := by
  unfold boxT at ho
  split at ho
  · rename_i hc
    cases ho
    obtain ⟨a1, a2, a3⟩ := newVarBlk h hk (cells_TVs hx hc) e (blkT_for P e _)
    exact ⟨_, _, _, by simp [Instr.box, newVar, newRow], a1, a2, a3⟩
  · cases ho

/-! ### literals -/
theorem putCells_ok {I : Nat → Prop} {L : Nat → Option (Option Nat)} {cs : List T} {vs : List Value} (h : TVs w I m L cs vs) :
    ∀ {ts : List T} {us : List Value} (off : Nat), TVs w I m L ts us → TVs w I m L (putCells ts off cs) ((us.zipIdx).foldl (fun acc (c, j) => acc.set (off + j) c) vs) := by
  have key : ∀ (ts : List T) (us : List Value) (off n : Nat) (cs : List T) (vs : List Value), TVs w I m L cs vs → TVs w I m L ts us →
      TVs w I m L (putCells ts (off + n) cs) ((us.zipIdx n).foldl (fun acc (c, j) => acc.set (off + j) c) vs) := by
    intro ts
    induction ts with
    | nil => intro us off n cs vs h1 h2; cases h2; exact h1
    | cons t ts ih =>
      intro us off n cs vs h1 h2
      cases h2 with
      | cons hh hr =>
        simp only [putCells, List.zipIdx_cons, List.foldl_cons]
        exact ih _ off (n + 1) _ _ (h1.set hh) hr
  intro ts us off h2
  exact key ts us off 0 cs vs h h2
theorem foldl_set_toList (us : List (Value × Nat)) (off : Nat) : ∀ (a : Array Value), (us.foldl (fun cs (c, j) => cs.setIfInBounds (off + j) c) a).toList = us.foldl (fun acc (c, j) => acc.set (off + j) c) a.toList := by
  induction us with
  | nil => intro a; rfl
  | cons u us ih => intro a; simp only [List.foldl_cons]; rw [ih]; simp
theorem foldl_set_size (us : List (Value × Nat)) (off : Nat) : ∀ (a : Array Value), (us.foldl (fun cs (c, j) => cs.setIfInBounds (off + j) c) a).size = a.size := by
  induction us with
  | nil => intro a; rfl
  | cons u us ih => intro a; simp only [List.foldl_cons]; rw [ih]; simp
theorem fillT_ok {I : Nat → Prop} {L : Nat → Option (Option Nat)} {place : Nat → Option (Nat × Nat)} : ∀ {parts : List (Nat × T)} {vparts : List (Nat × Value)} {cs cs' : List T} {a : Array Value},
    fillT place parts cs = some cs' → TVs w I m L cs a.toList → parts.map (·.1) = vparts.map (·.1) → TVs w I m L (parts.map (·.2)) (vparts.map (·.2)) →
    ∃ a', Instr.fill place a vparts = some a' ∧ TVs w I m L cs' a'.toList := by
  intro parts
  induction parts with
  | nil =>
    intro vparts cs cs' a h1 h2 h3 h4
    cases vparts with
    | nil => cases h1; exact ⟨a, rfl, h2⟩
    | cons v vs => simp at h3
  | cons p parts ih =>
    intro vparts cs cs' a h1 h2 h3 h4
    cases vparts with
    | nil => simp at h3
    | cons v vs =>
      obtain ⟨i, x⟩ := p; obtain ⟨i', vx⟩ := v
      simp only [List.map_cons, List.cons.injEq] at h3
      obtain ⟨rfl, h3⟩ := h3
      cases h4 with
      | cons hx h4 =>
        unfold fillT at h1
        split at h1
        · rename_i off s hp
          split at h1
          · rename_i hc
            simp only [Bool.and_eq_true, Nat.beq_eq, Nat.ble_eq] at hc
            obtain ⟨⟨hc1, hc2⟩, hc3⟩ := hc
            have hcv := cells_TVs hx hc3
            have hl1 := hcv.length
            have hl2 := h2.length
            have hsz : vx.cells.size = s := by rw [← Array.length_toList, ← hl1, hc1]
            have hle : off + vx.cells.size ≤ a.size := by rw [hsz, ← Array.length_toList, ← hl2]; exact hc2
            have h5 := putCells_ok h2 off hcv
            rw [← foldl_set_toList] at h5
            obtain ⟨a', b1, b2⟩ := ih h1 h5 h3 h4
            refine ⟨a', ?_, b2⟩
            unfold Instr.fill
            rw [hp]
            simp only [hsz, ne_eq, not_true_eq_false, false_or, decide_false, Bool.false_or]
            rw [← hsz, if_neg (by simp; omega)]
            rw [← b1]
            congr 1
            rw [← Array.foldl_toList, Array.toList_zipIdx]
          · cases h1
        · cases h1

theorem fieldPlaces_ok {fs : List Field} {pl : List (Nat × Nat)} (h : fieldPlaces P fs = some pl) :
    (fs.mapM fun f => (do pure (f.offset, ← sizeOf f.type) : Sem (Nat × Nat))).run P w = .ok pl w := by
  induction fs generalizing pl with
  | nil => cases h; rfl
  | cons f fs ih =>
    unfold fieldPlaces at h
    split at h
    · rename_i s l e1 e2
      cases h
      rw [List.mapM_cons]
      simp only [Sem.run_bind, sz_some e1, Result.andThen_ok, Sem.run_pure, ih e2]
    · cases h

theorem buildT_ok (h : HR w0 w O m g) {t : TypeId} {parts : List (Nat × T)} {vparts : Array (Nat × Value)} {o : Out} (ho : buildT P t parts = some o)
    (h3 : parts.map (·.1) = vparts.toList.map (·.1)) (h4 : TVs w (Im m g) m (lens g) (parts.map (·.2)) (vparts.toList.map (·.2))) :
    StepOk P (Instr.build t vparts) w0 w O m g o := by
  unfold buildT at ho
  split at ho
  · cases ho
  · rename_i zs hz
    obtain ⟨z, z1, z2⟩ := zeroT_some (w := w) (m := m) (I := Im m g) (L := lens g) hz
    split at ho
    · rename_i fs hu
      split at ho
      · rename_i pl hp
        split at ho
        · rename_i cs hf
          cases ho
          obtain ⟨a', b1, b2⟩ := fillT_ok hf z2 h3 h4
          refine StepOk.pure h ⟨.agg a', ?_, rfl, .agg b2⟩
          have hpl := fieldPlaces_ok (w := w) hp
          simp only [Instr.build, Sem.run_bind, z1, Result.andThen_ok, run_underlying, hu]
          rw [Array.mapM_eq_mapM_toList, Sem.run_map, hpl]
          simp only [Result.andThen_ok]
          have : (fun i : Nat => pl.toArray[i]?) = fun i => pl[i]? := by funext i; simp
          rw [this, b1]
          rfl
        · cases ho
      · cases ho
    · rename_i n e hu
      split at ho
      · rename_i s hs
        split at ho
        · rename_i cs hf
          cases ho
          obtain ⟨a', b1, b2⟩ := fillT_ok hf z2 h3 h4
          refine StepOk.pure h ⟨.agg a', ?_, rfl, .agg b2⟩
          simp [Instr.build, z1, run_underlying, hu, sz_some hs, b1]
        · cases ho
      · cases ho
    · cases ho

theorem rep_ok {I : Nat → Prop} {L : Nat → Option (Option Nat)} {zs : List T} {vs : List Value} (h : TVs w I m L zs vs) : ∀ n, TVs w I m L (rep n zs) (List.replicate n vs).flatten := by
  intro n
  induction n with
  | zero => exact .nil
  | succ n ih => rw [List.replicate_succ, List.flatten_cons]; exact h.append ih
theorem flatten_rep {α : Type} [Inhabited α] (vs : List α) (s n : Nat) (hs : vs.length = s) (h0 : 0 < s) : (List.replicate n vs).flatten = (List.range (n * s)).map fun i => vs[i % s]! := by
  induction n with
  | zero => simp
  | succ n ih =>
    rw [List.replicate_succ', List.flatten_append, ih, Nat.add_mul, Nat.one_mul, List.range_add, List.map_append]
    congr 1
    simp only [List.flatten_cons, List.flatten_nil, List.append_nil, List.map_map]
    apply List.ext_getElem
    · simp [hs]
    · intro i h1 h2
      simp only [List.getElem_map, List.getElem_range, Function.comp]
      rw [Nat.add_comm (n * s), Nat.add_mul_mod_self_right, Nat.mod_eq_of_lt (by omega), getElem!_pos vs i h1]

theorem buildSliceT_ok (h : HR w0 w O m g) {key : Nat} (hk : g key = none) {t : TypeId} {len : Nat} {parts : List (Nat × T)} {vparts : Array (Nat × Value)} {o : Out} (ho : buildSliceT P key t len parts = some o)
    (h3 : parts.map (·.1) = vparts.toList.map (·.1)) (h4 : TVs w (Im m g) m (lens g) (parts.map (·.2)) (vparts.toList.map (·.2))) :
    StepOk P (Instr.buildSlice t len vparts) w0 w O m g o := by
  unfold buildSliceT at ho
  split at ho
  · rename_i e hu
    split at ho
    · rename_i s zs hs hz
      obtain ⟨z, z1, z2⟩ := zeroT_some (w := w) (m := m) (I := Im m g) (L := lens g) hz
      split at ho
      · rename_i hc
        rw [Bool.and_eq_true, Nat.beq_eq, Nat.ble_eq] at hc
        split at ho
        · rename_i cs hf
          cases ho
          have hzl : z.cells.size = s + 1 := by rw [← Array.length_toList, ← z2.length, hc.1]
          have hr := rep_ok z2 len
          rw [flatten_rep _ (s + 1) _ (by rw [Array.length_toList, hzl]) (by omega)] at hr
          have hr' : TVs w (Im m g) m (lens g) (rep len zs) ((Array.range (len * (s + 1))).map fun i => z.cells[i % (s + 1)]!).toList := by
            have e2 : (((Array.range (len * (s + 1))).map fun i => z.cells[i % (s + 1)]!).toList) = (List.range (len * (s + 1))).map fun i => z.cells.toList[i % (s + 1)]! := by
              rw [Array.toList_map, Array.toList_range]
              apply List.map_congr_left; intro i _
              cases z.cells; simp
            rw [e2]; exact hr
          obtain ⟨a', b1, b2⟩ := fillT_ok hf hr' h3 h4
          obtain ⟨a1, a2, a3, a4, a5⟩ := newBlk h hk b2 e [] (blkS_for (s + 1) cs)
          rw [List.append_nil] at *
          refine ⟨.slice (some ⟨w.heap.size, 0, none⟩) len len, _, _, ?_, a1, a2, ?_⟩
          · by_cases h0 : len = 0
            · subst h0
              have e0 : ∀ f : Nat → Value, Array.map f (Array.range 0) = #[] := fun f => by apply Array.ext'; simp
              rw [Nat.zero_mul, e0] at b1
              simp only [Instr.buildSlice, Sem.run_bind, run_underlying, hu, Result.andThen_ok, sz_some hs, Nat.zero_mul, show ¬ (0 > 2 ^ 24) by decide, if_false, if_true, Sem.run_pure, e0, b1, newRow, run_newObj]
              rfl
            · have h1 : ¬ 2 ^ 24 < len * (s + 1) := by omega
              have h2 : ¬ (len * (s + 1) = 0) := by
                intro e; rcases Nat.mul_eq_zero.1 e with e | e <;> omega
              have b1' : Instr.fill (fun i => some (i * (s + 1), s + 1)) ((Array.range (len * (s + 1))).map fun x => z.cells[x % z.cells.size]!) vparts.toList = some a' := by rw [hzl]; exact b1
              simp only [Instr.buildSlice, Sem.run_bind, run_underlying, hu, Result.andThen_ok, sz_some hs, if_neg (show ¬ (len * (s + 1) > 2 ^ 24) from h1), if_neg h2, z1, Sem.run_pure, b1', newRow, run_newObj]
              rfl
          · have hlen : cs.length = len * (s + 1) := by
              rw [b2.length, Array.length_toList]
              have : ∀ (ps : List (Nat × Value)) (a b : Array Value), Instr.fill (fun i => some (i * (s + 1), s + 1)) a ps = some b → b.size = a.size := by
                intro ps
                induction ps with
                | nil => intro a b hh; cases hh; rfl
                | cons p ps ih =>
                  intro a b hh
                  unfold Instr.fill at hh
                  simp only at hh
                  split at hh
                  · cases hh
                  · rw [ih _ _ hh, ← Array.foldl_toList, foldl_set_size]
              rw [this _ _ _ b1]; simp
            rw [hlen] at a3
            have e4 := a4
            have := TV.os (w := w.alloc (.cells a'.toList.toArray e)) (I := Im (mk1 m key (some w.heap.size)) (upd g [(key, blkS (s + 1) cs)])) (m := mk1 m key (some w.heap.size)) (off := 0) (n := len) (cap := len) (sz := s + 1) a3 a4 (by rw [Nat.zero_add]; exact Nat.le_refl _) ⟨Nat.le_refl _, Nat.le_trans (Nat.le_mul_of_pos_right len (Nat.succ_pos s)) (Nat.le_trans hc.2 (by decide))⟩ (by omega)
              (by rw [Nat.zero_add]; refine Room.of_cells Array.getElem?_push_size ?_; have := b2.length; rw [hlen] at this; simp at this ⊢; omega)
            rw [Nat.zero_mul] at this
            exact .ow this (.inr a3)
        · cases ho
      · cases ho
    · cases ho
  · cases ho

/-! ### stores -/
theorem cell_one {x : T} {vx : Value} {I : Nat → Prop} {L : Nat → Option (Option Nat)} (h : TV w I m L x vx) (hc : x.cell = true) : vx.oneCell' = true := by
  cases h <;> first
    | rfl
    | (simp [T.cell] at hc; done)
    | skip
  case v hp => cases vx <;> first | rfl | (simp [T.cell] at hc; done)
  case ow h => cases h <;> rfl

theorem setCells_run {b : Nat} : ∀ {ts : List T} {vs : List Value} (w : World) (o j : Nat), Room w b (o + j + vs.length) → NoFrz w b → (∀ v ∈ vs, v.oneCell' = true) →
    ∃ w', (storeCells ⟨b, o, none⟩ vs j).run P w = .ok () w' ∧ OnlyB w w' b ∧ NoFrz w' b ∧
      (∀ q, (q < o + j ∨ o + j + vs.length ≤ q) → w'.cell? ⟨b, q, none⟩ = w.cell? ⟨b, q, none⟩) ∧ ∀ q v, vs[q]? = some v → w'.cell? ⟨b, o + j + q, none⟩ = some v := by
  intro ts vs
  induction vs with
  | nil => intro w o j _ hf _; exact ⟨w, rfl, OnlyB.refl _ _, hf, fun _ _ => rfl, fun q v h => by simp at h⟩
  | cons v vs ih =>
    intro w o j hr hf hv
    obtain ⟨c, e, fz, hc, hl⟩ := hr.cells (by simp only [List.length_cons]; omega)
    have hlt : o + j < c.size := by simp at hl; omega
    have hcell : w.cell? ⟨b, o + j, none⟩ = some c[o + j] := by simp [World.cell?, hc, Array.getElem?_eq_getElem hlt]
    have h1 : (store (⟨b, o + j, none⟩ : Addr) v).run P w = .ok () (w.setCell ⟨b, o + j, none⟩ v) := by
      rw [run_store P w _ v _ (hv v (List.mem_cons_self ..)), hcell]
      simp [hf (o + j)]
    have ob := OnlyB.setCell w ⟨b, o + j, none⟩ v rfl
    have hf1 : NoFrz (w.setCell ⟨b, o + j, none⟩ v) b := fun q => by rw [World.frozen?_setCell]; exact hf q
    obtain ⟨w', a1, a2, a3, a4, a5⟩ := ih (w.setCell ⟨b, o + j, none⟩ v) o (j + 1) (ob.room _ (Room.of_cells hc (by simp at hl; omega))) hf1 (fun u hu => hv u (List.mem_cons_of_mem _ hu))
    refine ⟨w', ?_, ob.trans a2, a3, fun q hq => ?_, fun q u hu => ?_⟩
    · simp only [storeCells, Sem.run_bind, add_at, h1, Result.andThen_ok, a1]
    · simp only [List.length_cons] at hq
      rw [a4 q (by omega)]
      exact World.cell?_setCell_other _ _ _ _ (by intro e; injection e; omega)
    · cases q with
      | zero =>
        simp at hu; subst hu
        rw [Nat.add_zero, a4 (o + j) (by omega)]
        exact World.cell?_setCell_same _ _ _ hcell
      | succ q =>
        simp at hu
        rw [show o + j + (q + 1) = o + (j + 1) + q by omega]
        exact a5 q u hu

theorem setFlat_ok {ks : List IntKind} {b st i : Nat} : ∀ {ts : List T} {vs : List Value} {j : Nat} {xs ys : List Int} {I : Nat → Prop} {L : Nat → Option (Option Nat)}, setFlat ks b st i ts j xs = some ys → TVs w I m L ts vs → b + i * st + j + ts.length ≤ xs.length →
    ys.length = xs.length ∧ (∀ q, (q < b + i * st + j ∨ b + i * st + j + ts.length ≤ q) → ys[q]? = xs[q]?) ∧ ∀ q x, q < ts.length → ys[b + i * st + j + q]? = some x → vs[q]? = some (.int (kc ks (b + i * st + j + q)) x) := by
  intro ts
  induction ts with
  | nil => intro vs j xs ys I L h hv hl; cases h; exact ⟨rfl, fun _ _ => rfl, fun q x hq => by simp at hq⟩
  | cons t ts ih =>
    intro vs j xs ys I L h hv hl
    cases hv with
    | cons ht hv =>
      rename_i v vs
      unfold setFlat at h
      split at h
      · rename_i e; cases e
      · rename_i j xs l0 j2 xs2 k x r e
        cases e
        obtain ⟨rfl, -⟩ := ht.v_inv
        split at h
        · rename_i hk
          simp only [List.length_cons] at hl
          obtain ⟨a1, a2, a3⟩ := ih h hv (by simp; omega)
          refine ⟨by simpa using a1, fun q hq => ?_, fun q y hq hy => ?_⟩
          · simp only [List.length_cons] at hq
            rw [a2 q (by omega), List.getElem?_set_ne (by omega)]
          · cases q with
            | zero =>
              rw [Nat.add_zero, a2 _ (by omega), List.getElem?_set_self (by omega)] at hy
              cases hy
              rw [hk, kat_kc, Nat.add_zero, show b + j + i * st = b + i * st + j by omega]; rfl
            | succ q =>
              simp only [List.length_cons] at hq
              rw [show b + i * st + j + (q + 1) = b + i * st + (j + 1) + q by omega] at hy ⊢
              have := a3 q y (by omega) hy
              simpa using this
        · cases h
      · cases h

theorem storeT_ok (h : HR w0 w O m g) {t : TypeId} {a x : T} {va vx : Value} {o : Out} (ho : storeT P g t a x = some o) (ha : TV w (Im m g) m (lens g) a va) (hx : TV w (Im m g) m (lens g) x vx) :
    ∃ w', (Instr.storeAt t va vx).run P w = .ok () w' ∧ HR w0 w' O m (upd g o.up) ∧ Goes w w' (Im m g) (Im m (upd g o.up)) m m (lens g) (lens (upd g o.up)) ∧ o.t = .dead := by
  unfold storeT at ho
  split at ho
  · rename_i k b st i wd
    split at ho
    · rename_i s hs
      split at ho
      · rename_i hc
        simp only [Bool.and_eq_true, Nat.beq_eq, Nat.ble_eq] at hc
        obtain ⟨⟨hc1, hc2⟩, hc3⟩ := hc
        have hcv := cells_TVs hx hc3
        have hone : ∀ v ∈ vx.cells.toList, v.oneCell' = true := by
          intro v hv
          obtain ⟨q, hq⟩ := List.getElem?_of_mem hv
          obtain ⟨tq, h1, h2⟩ := hcv.get' hq
          exact cell_one h2 (List.all_eq_true.1 hc3 _ (List.mem_of_getElem? h1))
        have hlen : vx.cells.toList.length = s := by rw [← hcv.length, hc1]
        have hsz : vx.cells.size = s := by rw [← Array.length_toList]; exact hlen
        have run : ∀ {w' : World} {bo : Nat}, (storeCells (⟨bo, b + i * st, none⟩ : Addr) vx.cells.toList 0).run P w = .ok () w' →
            (Instr.storeAt t (.pointer (some ⟨bo, b + i * st, none⟩)) vx).run P w = .ok () w' := by
          intro w' bo hw
          simp [Instr.storeAt, Instr.sureAddr, storeVar, sz_some hs, hsz, hw]
        split at ho
        · rename_i ks xs e
          split at ho
          · rename_i ys hset
            cases ho
            have hbv := h.blk k _ e
            have hl := lens_of e
            obtain ⟨hle, bo, hm, rfl⟩ := ha.op_inv hl
            rw [hm] at hbv
            obtain ⟨w', a1, a2, a3, a4, a5⟩ := setCells_run (P := P) (ts := []) (vs := vx.cells.toList) (b := bo) w (b + i * st) 0 (by
              exact hbv.2.1.mono (by rw [hlen]; omega)) hbv.2.2.1 hone
            obtain ⟨b1, b2, b3⟩ := setFlat_ok hset hcv (by rw [hc1]; omega)
            refine ⟨w', run a1, h.setB hl hm a2 (by rw [Blk.len?, b1]) ⟨hbv.1, a2.room _ (by rw [b1]; exact hbv.2.1), a3, fun q y hy => ?_⟩, Goes.setB h hl hm a2 (by rw [Blk.len?, b1]), rfl⟩
            rw [Nat.zero_add]
            rw [hc1] at b2 b3
            rw [hlen] at a4
            by_cases hq : q < b + i * st + 0 ∨ b + i * st + 0 + s ≤ q
            · rw [a4 q hq]
              rw [b2 q hq] at hy
              have := hbv.2.2.2 q y hy
              rwa [Nat.zero_add] at this
            · obtain ⟨d, rfl⟩ : ∃ d, q = b + i * st + 0 + d := ⟨q - (b + i * st), by omega⟩
              exact a5 d _ (b3 d y (by omega) hy)
          · cases ho
        · rename_i cs e
          cases ho
          have hbv := h.blk k _ e
          have hl := lens_of e
          obtain ⟨hle, bo, hm, rfl⟩ := ha.op_inv hl
          rw [hm] at hbv
          obtain ⟨vs, v1, v2, v3, v4⟩ := hbv
          have hlv := v1.length
          obtain ⟨w', a1, a2, a3, a4, a5⟩ := setCells_run (P := P) (ts := []) (vs := vx.cells.toList) (b := bo) w (b + i * st) 0 (by
              exact v2.mono (by rw [hlen]; omega)) v3 hone
          have hll : (setCells x.cells (b + i * st) cs).length = cs.length := by
            have : ∀ (l : List T) (j : Nat) (c : List T), (setCells l j c).length = c.length := by
              intro l; induction l with
              | nil => intro j c; rfl
              | cons t l ih => intro j c; simp [setCells, ih]
            exact this _ _ _
          have G := Goes.setB h hl hm a2 (b := .cs (setCells x.cells (b + i * st) cs)) (by rw [Blk.len?, hll])
          have hnew : TVs w' (Im m (upd g [(k, .cs (setCells x.cells (b + i * st) cs))])) m (lens (upd g [(k, .cs (setCells x.cells (b + i * st) cs))])) (setCells x.cells (b + i * st) cs) ((vx.cells.toList.zipIdx).foldl (fun acc (c, j) => acc.set (b + i * st + j) c) vs) := by
            have e2 : ∀ (l : List T) (j : Nat) (c : List T), setCells l j c = putCells l j c := by
              intro l; induction l with
              | nil => intro j c; rfl
              | cons t l ih => intro j c; simp [setCells, putCells, ih]
            have := putCells_ok (v1.goes G) (b + i * st) (hcv.goes G)
            rwa [← e2] at this
          have hget : ∀ (us : List Value) (n : Nat) (acc : List Value) (q : Nat), b + i * st + n + us.length ≤ acc.length →
              ((us.zipIdx n).foldl (fun acc (c, j) => acc.set (b + i * st + j) c) acc)[q]? = if q < b + i * st + n ∨ b + i * st + n + us.length ≤ q then acc[q]? else us[q - (b + i * st + n)]? := by
            intro us
            induction us with
            | nil => intro n acc q _; simp; omega
            | cons u us ih =>
              intro n acc q hq
              simp only [List.length_cons] at hq ⊢
              simp only [List.zipIdx_cons, List.foldl_cons]
              rw [ih (n + 1) _ q (by simp; omega)]
              by_cases h1 : q < b + i * st + n
              · rw [if_pos (by omega), if_pos (by omega), List.getElem?_set_ne (by omega)]
              · by_cases h2 : q = b + i * st + n
                · subst h2
                  rw [if_pos (by omega), if_neg (by omega), List.getElem?_set_self (by omega), Nat.sub_self]; rfl
                · by_cases h3 : b + i * st + n + us.length + 1 ≤ q
                  · rw [if_pos (by omega), if_pos (by omega), List.getElem?_set_ne (by omega)]
                  · rw [if_neg (by omega), if_neg (by omega), show q - (b + i * st + n) = (q - (b + i * st + (n + 1))) + 1 by omega, List.getElem?_cons_succ]
          have hfin := hnew.length
          refine ⟨w', run a1, h.setB hl hm a2 (by rw [Blk.len?, hll]) ⟨_, hnew, a2.room _ (by rw [← hfin, hll, hlv]; exact v2), a3, fun q y hy => ?_⟩, G, rfl⟩
          rw [Nat.zero_add]
          rw [hget _ 0 _ q (by rw [hlen, ← hlv]; omega)] at hy
          rw [hlen] at a4 hy
          by_cases hq : q < b + i * st + 0 ∨ b + i * st + 0 + s ≤ q
          · rw [if_pos hq] at hy
            rw [a4 q hq]
            have := v4 q y hy
            rwa [Nat.zero_add] at this
          · rw [if_neg hq] at hy
            obtain ⟨d, rfl⟩ : ∃ d, q = b + i * st + 0 + d := ⟨q - (b + i * st), by omega⟩
            rw [Nat.add_sub_cancel_left] at hy
            exact a5 d y hy
        · cases ho
      · cases ho
    · cases ho
  · cases ho
end
end Go.Proofs.Yteinekidpokbpaa.Am
