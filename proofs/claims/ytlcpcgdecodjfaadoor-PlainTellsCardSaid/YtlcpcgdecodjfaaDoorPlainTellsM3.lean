/- Texts put together: Word, SlW, SliceR, FlatR, Gl, MixW, Flt, Bits, FltW, FltW2, FltRO, RefW1, RefW2, FltSum, FltP, RefW3, BaseW, PlA, PlB, PlC. -/
import Derived.Test.YtlcpcgdecodjfaaDoorPlainTellsM2
import Derived.Test.YtlcpcgdecodjfaaDoorProg
import Derived.WalkKit
import Derived.WalkLawsBesides
import Derived.Deep.Draws
import Derived.Laws.EntriesVeiled
import Derived.KernelRfl
import Derived.RegionTactic
import Derived.WalkSpells
import Derived.BigQuiet
import Derived.Deep.QuietTactic
import Derived.OpenShut
import Derived.ProofKit
import Derived.SizedLaws
import Derived.Deep.Slices
import Derived.WideShapes
import Ieee.Arith
import Derived.Laws.BitsAllLaws
import Derived.Laws.Bits64
namespace Go.Proofs.YtlcpcgdecodjfaaDoor
set_option linter.unusedVariables false
set_option linter.unusedSimpArgs false
open Go.RowKit

/-- A word of 64 bits. -/
def U64 (a : Int) : Prop := 0 ≤ a ∧ a < 18446744073709551616
/-- A number of Go's int. -/
def I64 (a : Int) : Prop := -9223372036854775808 ≤ a ∧ a ≤ 9223372036854775807

theorem u64_of_wf {a : Int} (h : (Lit.int .u64 a).wf = true) : U64 a := by
  have h : (decide (IntKind.u64.min ≤ a) && decide (a ≤ IntKind.u64.max)) = true := h
  rw [Bool.and_eq_true, decide_eq_true_iff, decide_eq_true_iff] at h
  have e1 : IntKind.u64.min = 0 := rfl
  have e2 : IntKind.u64.max = 18446744073709551615 := rfl
  rw [e1, e2] at h
  unfold U64; omega
theorem i64_of_wf {a : Int} (h : (Lit.int .i64 a).wf = true) : I64 a := by
  have h : (decide (IntKind.i64.min ≤ a) && decide (a ≤ IntKind.i64.max)) = true := h
  rw [Bool.and_eq_true, decide_eq_true_iff, decide_eq_true_iff] at h
  have e1 : IntKind.i64.min = -9223372036854775808 := rfl
  have e2 : IntKind.i64.max = 9223372036854775807 := rfl
  rw [e1, e2] at h
  unfold I64; omega
theorem u64_of {a : Int} (h : decide (0 ≤ a ∧ a < 18446744073709551616) = true) : U64 a := by unfold U64; exact of_decide_eq_true h

theorem ret_int {k : IntKind} {a b : Int} (h : a = b) : Ending.returned (.int k a) = .returned (.int k b) := by rw [h]
theorem ret_bool {a b : Bool} (h : a = b) : Ending.returned (.bool a) = .returned (.bool b) := by rw [h]
theorem ret_int_bool {k : IntKind} {a b : Int} {c d : Bool} (h : a = b) (h2 : c = d) : Ending.returned (.tuple #[.int k a, .bool c]) = .returned (.tuple #[.int k b, .bool d]) := by rw [h, h2]
theorem ret_int2 {k k2 : IntKind} {a b c d : Int} (h : a = b) (h2 : c = d) : Ending.returned (.tuple #[.int k a, .int k2 c]) = .returned (.tuple #[.int k b, .int k2 d]) := by rw [h, h2]

theorem bnot {a b : Int} (h : ¬ a = b) : (a == b) = false := beq_eq_false_iff_ne.2 h
theorem byes {a b : Int} (h : a = b) : (a == b) = true := beq_iff_eq.2 h
theorem nnot {a b : Int} (h : ¬ a = b) : (a != b) = true := bne_iff_ne.2 h
theorem nyes {a b : Int} (h : a = b) : (a != b) = false := by rw [h]; simp
theorem bne_false {a b : Int} (h : (a != b) = false) : a = b := by simpa using h
theorem bne_beq {a b : Int} (h : (a != b) = true) : (a == b) = false := by simpa using h
theorem bne_beq' {a b : Int} (h : (a != b) = false) : (a == b) = true := by simpa using h

theorem quiet_below {w w' : World} (h : ∃ n, w' = w.drewN n) : Below w.heap.size w w' := by
  obtain ⟨n, rfl⟩ := h
  exact ⟨rfl, rfl, rfl, Nat.le_refl _, fun _ _ => rfl⟩
theorem u64_bits (op : BinOp) (x y : Int) : U64 (bits op .u64 x y) := by
  unfold U64 bits
  rw [IntKind.wrap_u64]
  omega
/-- Block B holds these words. -/
def WordRow (w : World) (B : Nat) (xs : List Int) : Prop := B < w.heap.size ∧ ∀ k, k < xs.length → w.cell? ⟨B, k, none⟩ = some (.int .u64 (xs.getD k 0))
theorem WordRow.below {w w' : World} {B C : Nat} {xs : List Int} (h : WordRow w B xs) (hb : Below C w w') (hC : B < C) : WordRow w' B xs :=
  ⟨Nat.lt_of_lt_of_le h.1 hb.size, fun k hk => (hb.cell (p := ⟨B, k, none⟩) hC).trans (h.2 k hk)⟩
theorem WordRow.made (w : World) (vs : Array Value) (t : TypeId) (xs : List Int) (h : vs.toList = xs.map (Value.int .u64)) : WordRow (w.alloc (.cells vs t)) w.heap.size xs := by
  refine ⟨by simp, fun k hk => ?_⟩
  have hl : vs.size = xs.length := by rw [← Array.length_toList, h, List.length_map]
  have hv : vs[k]? = some (.int .u64 (xs.getD k 0)) := by
    rw [← Array.getElem?_toList, h, List.getElem?_map, List.getD_eq_getElem?_getD, List.getElem?_eq_getElem hk]; rfl
  simp only [World.cell?, World.alloc, Array.getElem?_push_size, Option.isSome_none, Bool.false_eq_true, if_false]
  exact hv
/-- What is below stays: two rules for a walk. -/
theorem bcell {W w1 : World} (hb : Below W.heap.size W w1) : (∀ b o, b < W.heap.size → w1.cell? ⟨b, o, none⟩ = W.cell? ⟨b, o, none⟩) ∧ (∀ b o, b < W.heap.size → w1.frozen? ⟨b, o, none⟩ = W.frozen? ⟨b, o, none⟩) :=
  ⟨fun b o h => hb.cell (p := ⟨b, o, none⟩) h, fun b o h => hb.frozen (p := ⟨b, o, none⟩) h⟩
theorem cell_new (w : World) (vs : Array Value) (t : TypeId) (k : Nat) (v : Value) (h : vs[k]? = some v) : (w.alloc (.cells vs t)).cell? ⟨w.heap.size, k, none⟩ = some v := by
  simp only [World.cell?, World.alloc, Array.getElem?_push_size, Option.isSome_none, Bool.false_eq_true, if_false]
  exact h
theorem cell_new2 (w : World) (vs : Array Value) (t : TypeId) (o : Obj) (k : Nat) (v : Value) (h : vs[k]? = some v) : ((w.alloc (.cells vs t)).alloc o).cell? ⟨w.heap.size, k, none⟩ = some v :=
  (World.cell?_alloc_past _ _ _ (by simp)).trans (cell_new w vs t k v h)
theorem frozen_new (w : World) (vs : Array Value) (t : TypeId) (k : Nat) : (w.alloc (.cells vs t)).frozen? ⟨w.heap.size, k, none⟩ = false := by
  simp only [World.frozen?, World.alloc, Array.getElem?_push_size]
  simp
theorem cell_newS (w : World) (o : Obj) (vs : Array Value) (t : TypeId) (k : Nat) (v : Value) (h : vs[k]? = some v) : ((w.alloc o).alloc (.cells vs t)).cell? ⟨w.heap.size + 1, k, none⟩ = some v := by
  have := cell_new (w.alloc o) vs t k v h
  rw [show (w.alloc o).heap.size = w.heap.size + 1 by simp] at this
  exact this
theorem frozen_newS (w : World) (o : Obj) (vs : Array Value) (t : TypeId) (k : Nat) : ((w.alloc o).alloc (.cells vs t)).frozen? ⟨w.heap.size + 1, k, none⟩ = false := by
  have := frozen_new (w.alloc o) vs t k
  rw [show (w.alloc o).heap.size = w.heap.size + 1 by simp] at this
  exact this
theorem cell_set_same {w : World} {a : Addr} {u v : Value} (h : w.cell? a = some u) : (w.setCell a v).cell? a = some v := World.cell?_setCell_same _ _ _ h
theorem cell_set_other {w : World} {a b : Addr} {v : Value} (h : a ≠ b) : (w.setCell a v).cell? b = w.cell? b := World.cell?_setCell_other _ _ _ _ h
theorem Below.one (w : World) (o : Obj) : Below w.heap.size w (w.alloc o) := (Below.refl _ _).alloc (Nat.le_refl _) _
/-- A slice whose elements read as these integers of kind k. -/
def SlI (k : IntKind) (w : World) (a : Option Addr) (len : Nat) (xs : List Int) : Prop :=
  xs.length = len ∧ (len = 0 ∨ ∃ b off, a = some ⟨b, off, none⟩ ∧ b < w.heap.size ∧ ∀ i, i < len → w.cell? ⟨b, off + i, none⟩ = some (.int k (xs.getD i 0)))
theorem SlI.below {k : IntKind} {w w' : World} {a : Option Addr} {len B : Nat} {xs : List Int} (h : SlI k w a len xs) (hb : Below B w w') (hB : w.heap.size ≤ B) : SlI k w' a len xs := by
  refine ⟨h.1, h.2.imp id ?_⟩
  rintro ⟨b, off, e, hlt, hc⟩
  exact ⟨b, off, e, Nat.lt_of_lt_of_le hlt hb.size, fun i hi => (hb.cell (p := ⟨b, off + i, none⟩) (Nat.lt_of_lt_of_le hlt hB)).trans (hc i hi)⟩
def AllU (xs : List Int) : Prop := ∀ x ∈ xs, U64 x
def AllI (xs : List Int) : Prop := ∀ x ∈ xs, I64 x
theorem AllU.at {xs : List Int} (h : AllU xs) {i : Nat} (hi : i < xs.length) : U64 (xs.getD i 0) := by
  rw [List.getD_eq_getElem?_getD, List.getElem?_eq_getElem hi]; exact h _ (List.getElem_mem hi)
theorem AllI.at {xs : List Int} (h : AllI xs) {i : Nat} (hi : i < xs.length) : I64 (xs.getD i 0) := by
  rw [List.getD_eq_getElem?_getD, List.getElem?_eq_getElem hi]; exact h _ (List.getElem_mem hi)
theorem take_succ_getD {xs : List Int} {i : Nat} (hi : i < xs.length) : xs.take (i + 1) = xs.take i ++ [xs.getD i 0] := by
  rw [List.take_succ_eq_append_getElem hi, List.getD_eq_getElem?_getD, List.getElem?_eq_getElem hi]; rfl
end Go.Proofs.YtlcpcgdecodjfaaDoor
namespace Go.Proofs.YtlcpcgdecodjfaaDoor
open Go.RowKit
set_option linter.unusedVariables false
set_option linter.unusedSimpArgs false

/-- Block g, of this call's own (from block base on), holds these integers first, and may be written. -/
def OwnI (k : IntKind) (w : World) (base g len : Nat) (xs : List Int) : Prop :=
  base ≤ g ∧ g < w.heap.size ∧ xs.length = len ∧ (∀ i, w.frozen? ⟨g, i, none⟩ = false) ∧ ∀ i, i < len → w.cell? ⟨g, i, none⟩ = some (.int k (xs.getD i 0))
theorem OwnI.sl {k : IntKind} {w : World} {base g len : Nat} {xs : List Int} (h : OwnI k w base g len xs) : SlI k w (some ⟨g, 0, none⟩) len xs :=
  ⟨h.2.2.1, .inr ⟨g, 0, rfl, h.2.1, fun i hi => by rw [Nat.zero_add]; exact h.2.2.2.2 i hi⟩⟩
theorem OwnI.below {k : IntKind} {w w' : World} {base g len B : Nat} {xs : List Int} (h : OwnI k w base g len xs) (hb : Below B w w') (hB : w.heap.size ≤ B) : OwnI k w' base g len xs :=
  ⟨h.1, Nat.lt_of_lt_of_le h.2.1 hb.size, h.2.2.1, fun i => (hb.frozen (p := ⟨g, i, none⟩) (Nat.lt_of_lt_of_le h.2.1 hB)).trans (h.2.2.2.1 i), fun i hi => (hb.cell (p := ⟨g, i, none⟩) (Nat.lt_of_lt_of_le h.2.1 hB)).trans (h.2.2.2.2 i hi)⟩
theorem getD_map_int {k : IntKind} (xs : List Int) (i : Nat) (h : i < xs.length) : (xs.map (Value.int k))[i]? = some (.int k (xs.getD i 0)) := by
  rw [List.getElem?_map, List.getD_eq_getElem?_getD, List.getElem?_eq_getElem h]; rfl
theorem OwnI.ofRow {k : IntKind} {w : World} {base g cap : Nat} {e : TypeId} {xs : List Int} (h : w.ownsRow base e 1 (.slice (some ⟨g, 0, none⟩) xs.length cap) xs.length (xs.map (Value.int k))) : OwnI k w base g xs.length xs := by
  refine ⟨(h.lt g rfl).1, (h.lt g rfl).2, rfl, fun i => h.frozenAt i, fun i hi => ?_⟩
  rw [h.cellAt i (by omega)]
  exact getD_map_int xs i hi

/-- What Clone leaves: a row of its own, or nil of nil. -/
def ClonePost (w : World) (xs : List Int) (e : Ending) (w' : World) : Prop :=
  ∃ g cap, e = .returned (.slice (some ⟨g, 0, none⟩) xs.length cap) ∧ xs.length ≤ cap ∧ (cap : Int) ≤ 9223372036854775807 ∧ OwnI .u64 w' w.heap.size g xs.length xs ∧ Below w.heap.size w w'
theorem info_u64 : (Tryd.prog.info? 27).map (fun i => (i.zero, i.size, i.bytes)) = some (some (.int .u64 0), 1, 8) := by kernel_rfl
@[go_sem] theorem u64s_nil (b off : Nat) (len cap : Nat) (w : World) : (binOp .eql 24 (.slice (some ⟨b, off, none⟩) len cap) (.slice none 0 0)).run Tryd.prog w = .ok (.bool false) w := by kernel_rfl
@[go_sem] theorem u64s_nilnil (w : World) : (binOp .eql 24 (.slice none 0 0) (.slice none 0 0)).run Tryd.prog w = .ok (.bool true) w := by kernel_rfl

set_option maxRecDepth 10000 in
theorem clone_any (b off len cap : Nat) (xs : List Int) (w : World) (hb : b < w.heap.size) (hl : xs.length = len) (hc : ∀ i, i < len → w.cell? ⟨b, off + i, none⟩ = some (.int .u64 (xs.getD i 0))) (h8 : len * 8 ≤ 140737488351232) :
    Calls Tryd.prog 58 #[.slice (some ⟨b, off, none⟩) len cap] w (ClonePost w xs) := by
  obtain ⟨i0, hi, hz0, hz1, hz2⟩ := info_parts info_u64
  subst hl
  have H8 : Hid _ := h8
  have HC : Hid _ := hc
  clear h8 hc
  go_enter Tryd.func58, Tryd.ntmps58
  have hown : (w.alloc (.cells #[] 27)).ownsRow w.heap.size 27 1 (.slice (some ⟨w.heap.size, 0, none⟩) 0 0) 0 [] := World.ownsRow_made w #[] 0 (Nat.le_refl _) (Nat.zero_le _) rfl
  go_wp2_with (at_builtin; go_must (refine wpList_append_own _ rfl (.tmp 5) (.tmp 6) 24 rfl w.heap.size 27 i0 (.int .u64 0) 1 8 Tryd.underlying24 hi hz0 hz1 hz2 rfl (by decide) _ 0 [] rfl hown ⟨b, off, none⟩ xs.length cap (xs.map (Value.int .u64)) rfl ?c1 ?c2 ?c3 ?c4 ?c5 ?c6 ?_))
  case c1 => simp
  case c2 =>
    intro j u hj
    have hlt : j < xs.length := by
      have := (List.getElem?_eq_some_iff.1 hj).1
      simpa using this
    rw [getD_map_int xs j hlt] at hj
    cases hj
    rw [← HC.out j hlt]
    rw [show (⟨b, off, none⟩ : Addr).add j = ⟨b, off + j, none⟩ by simp [Addr.add]]
    exact World.cell?_alloc_past _ _ _ hb
  case c3 =>
    intro u hu
    obtain ⟨x, _, rfl⟩ := List.mem_map.1 hu
    rfl
  case c4 => have := H8.out; unfold maxLen; omega
  case c5 => have := H8.out; omega
  case c6 => simp
  intro v' w1 hown1 hgrow hnil
  have hB : Below w.heap.size w w1 := (Below.one w _).grown hgrow (by simp) (by intro k hk; simp [Value.ownBlock] at hk; omega)
  rcases hown1.2 with ⟨rfl, _⟩ | ⟨g, cp, cur, rfl, h1, h2, h3, h4, _⟩
  · exact absurd rfl hnil
  · have HO : Hid (xs.length ≤ cp ∧ (cp : Int) ≤ 9223372036854775807 ∧ OwnI .u64 w1 w.heap.size g xs.length xs ∧ Below w.heap.size w w1) := ⟨h3, by unfold maxLen at h4; omega, OwnI.ofRow hown1, hB⟩
    clear hown1 hgrow hnil hB h1 h2 h3 h4
    go_wp2_with fail
    go_ret
    exact ⟨g, cp, rfl, HO.out⟩
theorem clone_nil (w : World) : Calls Tryd.prog 58 #[.slice none 0 0] w fun e w' => e = .returned (.slice none 0 0) ∧ w = w' := by
  go_enter Tryd.func58, Tryd.ntmps58
  go_wp2_with fail
  go_ret
  exact ⟨rfl, rfl⟩

/-! ### Equal -/
theorem equal_lens (a c : Option Addr) (n m cap cap2 : Nat) (w : World) (h : n ≠ m) (hn : (n : Int) ≤ 17592186043904) (hm : (m : Int) ≤ 17592186043904) :
    Calls Tryd.prog 93 #[.slice a n cap, .slice c m cap2] w fun e w' => e = .returned (.bool false) ∧ ∃ n, w' = w.drewN n := by
  have h1 : ((n : Int) != (m : Int)) = true := by rw [bne_iff_ne]; omega
  clear h
  go_enter Tryd.func93, Tryd.ntmps93
  go_wp2_with fail
  go_ret
  exact ⟨rfl, 0, rfl⟩
theorem eq_step {xs ys : List Int} {k : Nat} (hk : k < xs.length) (hk2 : k < ys.length) (h : xs.take k = ys.take k) (e : xs.getD k 0 = ys.getD k 0) : xs.take (k + 1) = ys.take (k + 1) := by
  rw [take_succ_getD hk, take_succ_getD hk2, h, e]
theorem eq_no {xs ys : List Int} {k : Nat} (e : ¬ xs.getD k 0 = ys.getD k 0) : decide (xs = ys) = false := by
  rw [decide_eq_false_iff_not]; intro h; rw [h] at e; exact e rfl

set_option maxRecDepth 10000 in
theorem equal_any (a c : Option Addr) (n cap cap2 : Nat) (xs ys : List Int) (w : World) (hx : SlI .u64 w a n xs) (hy : SlI .u64 w c n ys) (hn : (n : Int) ≤ 17592186043904) :
    Calls Tryd.prog 93 #[.slice a n cap, .slice c n cap2] w fun e w' => e = .returned (.bool (decide (xs = ys))) ∧ ∃ n, w' = w.drewN n := by
  have HX : Hid _ := hx
  have HY : Hid _ := hy
  clear hx hy
  go_enter Tryd.func93, Tryd.ntmps93
  go_wp2_with fail
  go_loopw [13] (fun i wr => ∃ k : Nat, i = .int .i64 k ∧ k ≤ n ∧ Hid (xs.take k = ys.take k) ∧ Hid (∃ q, wr = w.drewN q)) (fun i _ => (n - intOf i).toNat)
  case atStart => exact ⟨0, rfl, Nat.zero_le _, rfl, 0, rfl⟩
  case round =>
    obtain ⟨k, rfl, hk, HE, HW⟩ := hrel
    obtain ⟨q, rfl⟩ := HW.out
    by_cases hlt : (k : Int) < n
    · obtain ⟨b, off, rfl, hb, hc⟩ := HX.out.2.resolve_left (by omega)
      obtain ⟨b2, off2, rfl, hb2, hc2⟩ := HY.out.2.resolve_left (by omega)
      have hck := hc k (by omega)
      have hck2 := hc2 k (by omega)
      clear hc hc2
      have hl1 : k < xs.length := by rw [HX.out.1]; omega
      have hl2 : k < ys.length := by rw [HY.out.1]; omega
      have HS : Hid (xs.getD k 0 = ys.getD k 0 → xs.take (k + 1) = ys.take (k + 1)) := eq_step hl1 hl2 HE.out
      have HN : Hid (¬ xs.getD k 0 = ys.getD k 0 → decide (xs = ys) = false) := eq_no
      generalize xs.getD k 0 = x at *
      generalize ys.getD k 0 = y at *
      clear hl1 hl2
      by_cases hxy : x = y
      · subst hxy
        have HS' : Hid _ := HS.out rfl
        clear HS HN
        go_wp2_with fail
        go_quiet (fail)
        go_wp2_with fail
        go_roundw
        case rel => exact ⟨k + 1, by go_num, by omega, HS'.out, _, rfl⟩
        case measure => simp [intOf]; omega
      · have hne := nnot hxy
        go_wp2_with fail
        go_quiet (fail)
        go_wp2_with fail
        go_ret
        exact ⟨ret_bool (HN.out hxy).symm, by simp only [World.drewN_drewN]; exact ⟨_, rfl⟩⟩
    · have HD : Hid (decide (xs = ys) = true) := by
        show _ = _
        have := HE.out
        rw [List.take_of_length_le (by rw [HX.out.1]; omega), List.take_of_length_le (by rw [HY.out.1]; omega)] at this
        exact decide_eq_true this
      go_wp2_with fail
      go_ret
      exact ⟨ret_bool HD.out.symm, _, rfl⟩
end Go.Proofs.YtlcpcgdecodjfaaDoor
namespace Go.Proofs.YtlcpcgdecodjfaaDoor
open Go.ChangeShapes Go.WideShapes Go.ChangeAt Go.RowKit
set_option linter.unusedVariables false
set_option linter.unusedSimpArgs false
theorem laidOut : laidOutB Tryd.prog = true := by kernel_rfl
def IsRow (k : IntKind) (w : World) (a : Option Addr) (len cap : Nat) (zs : List Int) : Prop :=
  (a = none ∧ len = 0 ∧ cap = 0 ∧ zs = []) ∨
  ∃ x, a = some x ∧ len ≤ cap ∧ cap ≤ maxLen ∧ zs.length = cap ∧ (∀ i, i < zs.length → w.cell? (x.add i) = some (.int k (zs.getD i 0))) ∧ ∀ n ∈ zs, (Lit.int k n).wf = true
/-- What the walks ask of a slice that came in. -/
def SlIn (k : IntKind) (w : World) (a : Option Addr) (len cap : Nat) (xs : List Int) : Prop :=
  SlI k w a len xs ∧ len ≤ cap ∧ (cap : Int) ≤ 9223372036854775807 ∧ (cap = 0 ∨ ∃ b off, a = some ⟨b, off, none⟩)
theorem IsRow.slIn {k : IntKind} {w : World} {a : Option Addr} {len cap : Nat} {zs : List Int} (h : IsRow k w a len cap zs) : SlIn k w a len cap (zs.take len) ∧ ∀ n ∈ zs.take len, (Lit.int k n).wf = true := by
  rcases h with ⟨rfl, rfl, rfl, rfl⟩ | ⟨x, rfl, h1, h2, h3, h4, h5⟩
  · exact ⟨⟨⟨rfl, .inl rfl⟩, Nat.le_refl _, by omega, .inl rfl⟩, by simp⟩
  · have hm : (cap : Int) ≤ 9223372036854775807 := by unfold maxLen at h2; omega
    have hl : (zs.take len).length = len := by rw [List.length_take]; omega
    refine ⟨?_, fun n hn => h5 n (List.mem_of_mem_take hn)⟩
    rcases Nat.eq_zero_or_pos cap with hz | hz
    · exact ⟨⟨hl, .inl (by omega)⟩, h1, hm, .inl hz⟩
    · have c0 := h4 0 (by omega)
      obtain ⟨b, off, sp⟩ := x
      have hsp : sp = none := by simpa [Addr.add] using World.cell?_spot c0
      subst hsp
      refine ⟨⟨hl, .inr ⟨b, off, rfl, ?_, fun i hi => ?_⟩⟩, h1, hm, .inr ⟨b, off, rfl⟩⟩
      · rcases Nat.lt_or_ge b w.heap.size with hb | hb
        · exact hb
        · have : (⟨b, off, none⟩ : Addr).add 0 = ⟨b, off, none⟩ := by simp [Addr.add]
          rw [this] at c0
          unfold World.cell? at c0
          rw [Array.getElem?_eq_none hb] at c0
          cases c0
      · have := h4 i (by omega)
        have e : (⟨b, off, none⟩ : Addr).add i = ⟨b, off + i, none⟩ := by
          unfold Addr.add
          by_cases hi0 : i = 0
          · subst hi0; simp
          · rw [if_neg hi0]
        rw [e] at this
        rw [this, List.getD_eq_getElem?_getD, List.getD_eq_getElem?_getD, List.getElem?_take_of_lt hi]
end Go.Proofs.YtlcpcgdecodjfaaDoor
namespace Go.Proofs.YtlcpcgdecodjfaaDoor
open Go.ChangeShapes Go.WideShapes Go.ChangeAt Go.RowKit Go.Deep
set_option linter.unusedVariables false
set_option linter.unusedSimpArgs false

/-- A leaf of a flat type. -/
inductive Lf | i (k : IntKind) | b
  deriving DecidableEq
def LfOk : Lf → Value → Prop
  | .i k, v => ∃ n, v = .int k n ∧ (Lit.int k n).wf = true
  | .b, v => ∃ b, v = .bool b
def LfsOk : List Lf → List Value → Prop
  | [], vs => vs = []
  | l :: ls, vs => ∃ v r, vs = v :: r ∧ LfOk l v ∧ LfsOk ls r
/-- Has this type these leaves? -/
def flatB (P : Program) : Nat → TypeId → List Lf → Bool
  | 0, _, _ => false
  | n + 1, t, ls => match P.underlying t with
    | some (.int k) => decide (ls = [.i k])
    | some .bool => decide (ls = [.b])
    | some (.array m e) => Nat.beq (P.cellsOf t) ls.length && (Nat.beq (m * P.cellsOf e) ls.length && ((List.range m).all fun i => flatB P n e ((ls.drop (i * P.cellsOf e)).take (P.cellsOf e))))
    | some (.struct fs) => Nat.beq (P.cellsOf t) ls.length && (((List.range ls.length).all fun j => fs.toList.any fun f => Nat.ble f.offset j && Nat.blt j (f.offset + P.cellsOf f.type)) && (fs.toList.all fun f => flatB P n f.type ((ls.drop f.offset).take (P.cellsOf f.type))))
    | _ => false
theorem lfsOk_of : ∀ {ls : List Lf} {cs : List Value}, cs.length = ls.length → (∀ (j : Nat) l, ls[j]? = some l → ∃ v, cs[j]? = some v ∧ LfOk l v) → LfsOk ls cs
  | [], cs, h, _ => List.eq_nil_of_length_eq_zero h
  | l :: ls, [], h, _ => by simp at h
  | l :: ls, c :: cs, h, hj => by
    obtain ⟨v, hv, ho⟩ := hj 0 l rfl
    obtain rfl : c = v := by simpa using hv
    exact ⟨c, cs, rfl, ho, lfsOk_of (by simpa using h) fun j l hl => hj (j + 1) l hl⟩
theorem LfsOk.len : ∀ {ls : List Lf} {cs : List Value}, LfsOk ls cs → cs.length = ls.length
  | [], cs, h => by rw [show cs = [] from h]; rfl
  | l :: ls, cs, h => by obtain ⟨v, r, rfl, _, h⟩ := h; simp [h.len]
theorem LfsOk.at : ∀ {ls : List Lf} {cs : List Value}, LfsOk ls cs → ∀ {j : Nat} {l : Lf}, ls[j]? = some l → ∃ v, cs[j]? = some v ∧ LfOk l v
  | l :: ls, cs, h, 0, k, hk => by
    obtain ⟨v, r, rfl, ho, _⟩ := h
    obtain rfl : l = k := by simpa using hk
    exact ⟨v, rfl, ho⟩
  | l :: ls, cs, h, j + 1, k, hk => by
    obtain ⟨v, r, rfl, _, h⟩ := h
    exact h.at (j := j) (by simpa using hk)
section
variable {H : Type} {enc : TypeId × Value → H} {P : Program} {w : World} {base : Nat} {spare : Nat → Bool} {held : Bool}
theorem flat_cells : ∀ (n : Nat) {t : TypeId} {ls : List Lf} {fuel : Nat} {cs : List Value} {x : DataW H × List MemPlace}, flatB P n t ls = true → DataW.trod enc P w base spare held fuel t cs = some x → LfsOk ls cs
  | 0, _, _, _, _, _, h, _ => by simp [flatB] at h
  | n + 1, t, ls, fuel, cs, x, h, ht => by
    unfold flatB at h
    split at h
    · rename_i k hu
      obtain rfl := of_decide_eq_true h
      obtain ⟨m, rfl, _, hw⟩ := DataW.trod_int hu ht
      exact ⟨_, _, rfl, ⟨m, rfl, hw⟩, rfl⟩
    · rename_i hu
      obtain rfl := of_decide_eq_true h
      obtain ⟨m, rfl, _⟩ := DataW.trod_bool hu ht
      exact ⟨_, _, rfl, ⟨m, rfl⟩, rfl⟩
    · rename_i m e hu
      simp only [Bool.and_eq_true] at h
      obtain ⟨h1, h2, h3⟩ := h
      have h1 := Nat.eq_of_beq_eq_true h1
      have h2 := Nat.eq_of_beq_eq_true h2
      obtain ⟨xs, m', -, -, hl, hx, hel⟩ := DataW.trod_array hu ht
      refine lfsOk_of (by omega) fun j l hj => ?_
      have hjl : j < ls.length := (List.getElem?_eq_some_iff.1 hj).1
      have hc : 0 < P.cellsOf e := by rcases Nat.eq_zero_or_pos (P.cellsOf e) with h0 | h0; rw [h0] at h2; omega; exact h0
      have hi : j / P.cellsOf e < m := (Nat.div_lt_iff_lt_mul hc).2 (by omega)
      have hE := hel _ hi
      rw [List.getElem?_eq_getElem (by omega)] at hE
      have hm := Nat.mod_lt j hc
      have hd := Nat.div_add_mod j (P.cellsOf e)
      obtain ⟨v, hv, ho⟩ := (flat_cells n (List.all_eq_true.1 h3 _ (List.mem_range.2 hi)) hE).at (j := j % P.cellsOf e) (l := l) (by rw [List.getElem?_take_of_lt hm, List.getElem?_drop, Nat.mul_comm, hd]; exact hj)
      rw [List.getElem?_take_of_lt hm, List.getElem?_drop, Nat.mul_comm, hd] at hv
      exact ⟨v, hv, ho⟩
    · rename_i fs hu
      simp only [Bool.and_eq_true] at h
      obtain ⟨h1, h2, h3⟩ := h
      have h1 := Nat.eq_of_beq_eq_true h1
      obtain ⟨xs, m', -, -, hl, hx, hel⟩ := DataW.trod_struct hu ht
      refine lfsOk_of (by omega) fun j l hj => ?_
      have hjl : j < ls.length := (List.getElem?_eq_some_iff.1 hj).1
      obtain ⟨f, hf, hfj⟩ := List.any_eq_true.1 (List.all_eq_true.1 h2 _ (List.mem_range.2 hjl))
      simp only [Bool.and_eq_true] at hfj
      have g1 := Nat.le_of_ble_eq_true hfj.1
      have g2 : j < f.offset + P.cellsOf f.type := Nat.le_of_ble_eq_true hfj.2
      obtain ⟨i, hi, hfi⟩ := List.getElem_of_mem hf
      have hi' : i < fs.size := by simpa using hi
      have hE := hel i f (by rw [← Array.getElem?_toList, List.getElem?_eq_getElem hi, hfi])
      rw [List.getElem?_eq_getElem (by omega)] at hE
      have hm : j - f.offset < P.cellsOf f.type := by omega
      have hd : f.offset + (j - f.offset) = j := by omega
      obtain ⟨v, hv, ho⟩ := (flat_cells n (List.all_eq_true.1 h3 _ hf) hE).at (j := j - f.offset) (l := l) (by rw [List.getElem?_take_of_lt hm, List.getElem?_drop, hd]; exact hj)
      rw [List.getElem?_take_of_lt hm, List.getElem?_drop, hd] at hv
      exact ⟨v, hv, ho⟩
    · exact absurd h Bool.false_ne_true
/-- An argument of a flat type of many cells. -/
theorem open_agg {n : Nat} {r : Reach} {b0 : Nat} {t : TypeId} {ls : List Lf} {v : Value} {d : DataW H} {ps : List MemPlace} (hf : flatB P n t ls = true) (hk : (∃ fs, P.underlying t = some (.struct fs)) ∨ ∃ m e, P.underlying t = some (.array m e)) (hval : Value.okWide P w r b0 t v) (h : DataW.Trod enc P w base spare held t v d ps) :
    ∃ vs, v = .agg ⟨vs⟩ ∧ LfsOk ls vs := by
  obtain ⟨fuel, h⟩ := h
  have hv : ∃ cs, v = .agg cs := by
    rcases hk with ⟨fs, hu⟩ | ⟨m, e, hu⟩
    · obtain ⟨cs, rfl, _⟩ := okWide_struct hu hval; exact ⟨cs, rfl⟩
    · simp only [Value.okWide, hu] at hval
      obtain ⟨cs, h1, _⟩ := hval
      exact ⟨cs, h1⟩
  obtain ⟨⟨cs⟩, rfl⟩ := hv
  exact ⟨cs, rfl, flat_cells n hf h⟩
end
/-- What the walks ask of a slice, of elements that are rows of whole numbers, that came in. -/
def SlFl (ks : List IntKind) (w : World) (a : Option Addr) (len cap : Nat) (xs : List Int) : Prop :=
  Am.TV w (fun _ => True) Am.noM Am.noL (.fl ks len xs) (.slice a len cap) ∧ xs.length = len * ks.length ∧ ∀ i x, xs[i]? = some x → (Lit.int (Am.kc ks i) x).wf = true
section
variable {H : Type} {enc : TypeId × Value → H} {P : Program} {w : World} {held : Bool}
theorem row_ints {ks : List IntKind} {cs : List Value} (h : LfsOk (ks.map Lf.i) cs) : ∃ xs : List Int, xs.length = ks.length ∧ cs.length = ks.length ∧ ∀ (j : Nat) x, xs[j]? = some x → cs[j]? = some (.int (ks.getD j .i64) x) ∧ (Lit.int (ks.getD j .i64) x).wf = true := by
  induction ks generalizing cs with
  | nil => obtain rfl := (show cs = [] from h); exact ⟨[], rfl, rfl, fun j x hx => by cases hx⟩
  | cons k ks ih =>
    obtain ⟨v, r, rfl, ⟨n, rfl, hw⟩, h⟩ := h
    obtain ⟨xs, h1, h2, h3⟩ := ih h
    refine ⟨n :: xs, by simp [h1], by simp [h2], fun j x hx => ?_⟩
    cases j with
    | zero => cases hx; exact ⟨rfl, hw⟩
    | succ j => exact h3 j x hx
theorem rows_ints {ks : List IntKind} (hk : 0 < ks.length) (f : Nat → Option Value) : ∀ (m : Nat), (∀ i, i < m → ∃ cs, LfsOk (ks.map Lf.i) cs ∧ ∀ j, j < ks.length → f (i * ks.length + j) = cs[j]?) →
    ∃ xs : List Int, xs.length = m * ks.length ∧ ∀ (j : Nat) x, xs[j]? = some x → f j = some (.int (Am.kc ks j) x) ∧ (Lit.int (Am.kc ks j) x).wf = true
  | 0, _ => ⟨[], by simp, fun j x hx => by cases hx⟩
  | m + 1, h => by
    obtain ⟨xs, h1, h2⟩ := rows_ints hk f m fun i hi => h i (by omega)
    obtain ⟨cs, hc, hf⟩ := h m (by omega)
    obtain ⟨ys, g1, g2, g3⟩ := row_ints hc
    refine ⟨xs ++ ys, by rw [List.length_append, h1, g1, Nat.succ_mul], fun j x hx => ?_⟩
    by_cases hj : j < xs.length
    · rw [List.getElem?_append_left hj] at hx; exact h2 j x hx
    · rw [List.getElem?_append_right (by omega)] at hx
      have hl : j - xs.length < ks.length := by have := (List.getElem?_eq_some_iff.1 hx).1; omega
      obtain ⟨e1, e2⟩ := g3 _ _ hx
      have ej : m * ks.length + (j - xs.length) = j := by rw [← h1]; omega
      have em : j % ks.length = j - xs.length := by conv => lhs; rw [← ej, Nat.mul_comm, Nat.mul_add_mod, Nat.mod_eq_of_lt hl]
      unfold Am.kc
      rw [em]
      exact ⟨by rw [← ej, hf _ hl, ej]; exact e1, e2⟩
theorem open_rows {n : Nat} {t e : TypeId} {ks : List IntKind} {a : Option Addr} {len cap : Nat} {d : DataW H} {ps : List MemPlace} (hu : P.underlying t = some (.slice e)) (hf : flatB P n e (ks.map Lf.i) = true) (hc : P.cellsOf e = ks.length) (hk : 0 < ks.length)
    (h : DataW.Trod enc P w 0 (fun _ => true) held t (.slice a len cap) d ps) : ∃ xs, SlFl ks w a len cap xs := by
  obtain ⟨fuel, h⟩ := h
  have hne : ks ≠ [] := by intro h0; rw [h0] at hk; exact absurd hk (Nat.lt_irrefl 0)
  rcases open_slice hu h with ⟨hcs, -⟩ | ⟨x, l, c, m, n', D, Pl, hcs, -, hl, hm, hmm, -, hel⟩
  · simp [Value.cells] at hcs
    obtain ⟨rfl, rfl, rfl⟩ := hcs
    exact ⟨[], .fl0, by simp, fun i x hx => by cases hx⟩
  · simp [Value.cells] at hcs
    obtain ⟨rfl, rfl, rfl⟩ := hcs
    simp at hmm
    subst hmm
    rcases Nat.eq_zero_or_pos len with hz | hz
    · subst hz; exact ⟨[], .fl0, by simp, fun i x hx => by cases hx⟩
    obtain ⟨xs, h1, h2⟩ := rows_ints hk (fun j => w.cell? (x.add j)) len fun i hi => by
      obtain ⟨cs, g1, g2⟩ := hel i (by omega)
      obtain ⟨-, g3, g4⟩ := World.cells?_some g1
      refine ⟨cs, flat_cells n hf g2, fun j hj => ?_⟩
      have := g4 j (by omega)
      rw [add_add, hc] at this
      exact this
    have hp : 0 < xs.length := by rw [h1]; exact Nat.mul_pos hz hk
    have c0 := (h2 0 xs[0] (by rw [List.getElem?_eq_getElem hp])).1
    have hx0 : x.add 0 = x := by simp [Addr.add]
    rw [hx0] at c0
    obtain ⟨b, off, sp⟩ := x
    have hsp : sp = none := by simpa using World.cell?_spot c0
    subst hsp
    have hb : b < w.heap.size := by
      rcases Nat.lt_or_ge b w.heap.size with hb | hb
      · exact hb
      · unfold World.cell? at c0; rw [Array.getElem?_eq_none hb] at c0; cases c0
    have hmx : (len : Int) ≤ 9223372036854775807 := by unfold maxLen at hm; omega
    refine ⟨xs, .fl trivial hb hne h1 ⟨hl, by omega⟩ hz (fun i y hy => ?_), h1, fun i y hy => (h2 i y hy).2⟩
    have g := (h2 i y hy).1
    have ea : (⟨b, off, none⟩ : Addr).add i = ⟨b, off + i, none⟩ := by
      unfold Addr.add
      by_cases hi0 : i = 0
      · subst hi0; simp
      · rw [if_neg hi0]
    rw [ea] at g
    exact g
end
end Go.Proofs.YtlcpcgdecodjfaaDoor
namespace Go.Proofs.YtlcpcgdecodjfaaDoor
open Go.RowKit Go.Proofs.YtlcpcgdecodjfaaDoor.Am
set_option linter.unusedVariables false
set_option linter.unusedSimpArgs false

def bodyOf (f : Func) : Code := match f.body with | some c => c | none => .skip
def objX : List Int := [0, 0, 1, 0, 1, 2, 1, 4, 2, 4, 9, 1]
def mixX : List Int := [30, 13787848793156543929, 27, 10723151780598845931, 31, 1]
/-- What the rows of the plain laws lay; and with it what is laid for mixing. -/
def glR (g : Nat) : T := match g with
  | 0 => .fp [.i64] objX 0 0 0 12
  | _ => .dead
def glM (g : Nat) : T := match g with
  | 0 => .fp [.i64] objX 0 0 0 12
  | 1 => .fp [.u64] mixX 0 0 0 6
  | _ => .dead
theorem glR_two : ∀ g, glR g = .dead ∨ ∃ ks xs b st i e, glR g = .fp ks xs b st i e := by
  intro g; unfold glR; split
  · exact .inr ⟨_, _, _, _, _, _, rfl⟩
  · exact .inl rfl
theorem glM_two : ∀ g, glM g = .dead ∨ ∃ ks xs b st i e, glM g = .fp ks xs b st i e := by
  intro g; unfold glM; split
  · exact .inr ⟨_, _, _, _, _, _, rfl⟩
  · exact .inr ⟨_, _, _, _, _, _, rfl⟩
  · exact .inl rfl
theorem glR_glM (g : Nat) : glR g = .dead ∨ glR g = glM g := by
  unfold glR; split
  · exact .inr rfl
  · exact .inl rfl
theorem pure_lift {P : Program} {f : FuncId} {args : List T} {t : T} {bs : Hp} (h : Pure P glR f args t bs) : Pure P glM f args t bs := fun w vs hg ha =>
  h w vs (fun g => by rcases glR_glM g with e | e <;> rw [e]; exact .dead; exact hg g) ha
theorem entry_lift {P : Program} {e : Entry} (h : e.ok P glR) : e.ok P glM := ⟨h.enters, fun args c t bs hs hc => pure_lift (h.calls args c t bs hs hc)⟩
theorem wrap64 {a : Int} (h1 : -9223372036854775808 ≤ a) (h2 : a ≤ 9223372036854775807) : IntKind.i64.wrap a = a := by
  rw [IntKind.wrap_i64]; omega
theorem wrapU {a : Int} (h1 : 0 ≤ a) (h2 : a < 18446744073709551616) : IntKind.u64.wrap a = a := by
  rw [IntKind.wrap_u64]; omega
theorem wsucc {j n : Nat} (h : j < n) (hn : n ≤ 9223372036854775807) : IntKind.i64.wrap ((j : Int) + 1) = ((j + 1 : Nat) : Int) := by rw [wrap64 (by omega) (by omega)]; rfl
theorem take_snoc {xs : List Int} {j : Nat} (h : j < xs.length) : xs.take (j + 1) = xs.take j ++ [xs.getD j 0] := by
  rw [List.take_add_one, List.getD_eq_getElem?_getD]
  rw [List.getElem?_eq_getElem h]; rfl
theorem take_same {xs ys : List Int} {j : Nat} (h1 : j < xs.length) (h2 : j < ys.length) (h : xs.take j = ys.take j) (e : xs.getD j 0 = ys.getD j 0) : xs.take (j + 1) = ys.take (j + 1) := by
  rw [take_snoc h1, take_snoc h2, h, e]
theorem noEq (P : Program) : ∀ t, hasN [] t = true → P.stoodInHeld t = false := fun t h => by cases h
/-- A closed setting: no table, no functions walked where they are called. -/
def ctx0 (P : Program) : Ctx := ctx P glR [] [] (noEq P) [] (fun _ h => by cases h)
theorem ctx0_good : (ctx0 Tryd.prog).good := ctx_good (by kernel_rfl) (fun _ h => by cases h) glR_two
/-- The same, with what is laid for mixing. -/
def ctx0M (P : Program) : Ctx := ctx P glM [] [] (noEq P) [] (fun _ h => by cases h)
theorem ctx0M_good : (ctx0M Tryd.prog).good := ctx_good (by kernel_rfl) (fun _ h => by cases h) glM_two
theorem allU_getD {xs : List Int} (h : AllU xs) (i : Nat) : U64 (xs.getD i 0) := by
  by_cases hi : i < xs.length
  · exact h.at hi
  · have : xs.getD i 0 = 0 := by simp [List.getD, List.getElem?_eq_none (Nat.le_of_not_lt hi)]
    rw [this]; exact ⟨by omega, by omega⟩
theorem allU_set {xs : List Int} (h : AllU xs) (i : Nat) {v : Int} (hv : U64 v) : AllU (xs.set i v) := by
  intro x hx
  rcases List.mem_or_eq_of_mem_set hx with h1 | rfl
  · exact h x h1
  · exact hv
end Go.Proofs.YtlcpcgdecodjfaaDoor

namespace Go.Proofs.YtlcpcgdecodjfaaDoor
open Go.RowKit Go.Proofs.YtlcpcgdecodjfaaDoor.Am
set_option linter.unusedVariables false
set_option linter.unusedSimpArgs false


def mixF (w f : Int) : Int := bits .xor .u64 w (w.fdiv (2 ^ (min f.toNat IntKind.u64.bits)))
def mixR (w f c : Int) : Int := IntKind.u64.wrap (mixF w f * c)
def iMix (w : Int) : Int := mixR (mixR (mixR w 30 13787848793156543929) 27 10723151780598845931) 31 1
def bBefore (a b : Int) : Bool := decide (iMix a > iMix b)
set_option maxRecDepth 100000 in
theorem mix_pure (a : Int) : Pure Tryd.prog glM 76 [.v (.int .u64 a)] (.v (.int .u64 (iMix a))) := by
  refine pure_of (C := ctx0M Tryd.prog) ctx0M_good Tryd.func76 (c := bodyOf Tryd.f76) (by rfl) (Nat.le_of_ble_eq_true (by rfl)) 4 0 [0, 2, 4, 5, 6, 7] ?_
  conv => whnf
  refine TW.roundsV ctx0M_good 0 (base := 0) (lv := [0, 2, 4, 5, 6, 7]) 4 ?_
  conv => whnf
  repeat' (first | (refine ifB_t (by assumption) ?_; conv => whnf) | (refine ifB_f (by assumption) ?_; conv => whnf) | (refine ifB_dec (fun h => ?_) (fun h => ?_) <;> (first | (exfalso; omega) | (conv => whnf))) | (refine ifB_eq (fun h => ?_) (fun h => ?_) <;> (first | (exfalso; omega) | (conv => whnf))) | (refine ifB_ne (fun h => ?_) (fun h => ?_) <;> (first | (exfalso; omega) | (conv => whnf))) | (refine ifB_not ?_; conv => whnf) | (refine ifB_and ?_; conv => whnf) | (refine ifB_or ?_; conv => whnf) | (refine And.intro ?_ ?_; (first | omega | assumption | (exact allU_getD (by assumption) _) | (simp only [cutL]; omega) | (refine And.intro ?_ ?_ <;> first | assumption | exact allU_getD (by assumption) _) | (simp only [cutL, IntKind.wrap_u64, IntKind.wrap_i64] at *; omega) | decide); conv => whnf))
  refine ⟨⟨[0, 2, 5, 6], [], []⟩, rfl, ?_⟩
  conv => whnf
  repeat' (first | (refine ifB_t (by assumption) ?_; conv => whnf) | (refine ifB_f (by assumption) ?_; conv => whnf) | (refine ifB_dec (fun h => ?_) (fun h => ?_) <;> (first | (exfalso; omega) | (conv => whnf))) | (refine ifB_eq (fun h => ?_) (fun h => ?_) <;> (first | (exfalso; omega) | (conv => whnf))) | (refine ifB_ne (fun h => ?_) (fun h => ?_) <;> (first | (exfalso; omega) | (conv => whnf))) | (refine ifB_not ?_; conv => whnf) | (refine ifB_and ?_; conv => whnf) | (refine ifB_or ?_; conv => whnf) | (refine And.intro ?_ ?_; (first | omega | assumption | (exact allU_getD (by assumption) _) | (simp only [cutL]; omega) | (refine And.intro ?_ ?_ <;> first | assumption | exact allU_getD (by assumption) _) | (simp only [cutL, IntKind.wrap_u64, IntKind.wrap_i64] at *; omega) | decide); conv => whnf))
  refine ⟨⟨[0, 2, 5, 6], [], []⟩, rfl, ?_⟩
  conv => whnf
  repeat' (first | (refine ifB_t (by assumption) ?_; conv => whnf) | (refine ifB_f (by assumption) ?_; conv => whnf) | (refine ifB_dec (fun h => ?_) (fun h => ?_) <;> (first | (exfalso; omega) | (conv => whnf))) | (refine ifB_eq (fun h => ?_) (fun h => ?_) <;> (first | (exfalso; omega) | (conv => whnf))) | (refine ifB_ne (fun h => ?_) (fun h => ?_) <;> (first | (exfalso; omega) | (conv => whnf))) | (refine ifB_not ?_; conv => whnf) | (refine ifB_and ?_; conv => whnf) | (refine ifB_or ?_; conv => whnf) | (refine And.intro ?_ ?_; (first | omega | assumption | (exact allU_getD (by assumption) _) | (simp only [cutL]; omega) | (refine And.intro ?_ ?_ <;> first | assumption | exact allU_getD (by assumption) _) | (simp only [cutL, IntKind.wrap_u64, IntKind.wrap_i64] at *; omega) | decide); conv => whnf))
  refine ⟨⟨[0, 2, 5, 6], [], []⟩, rfl, ?_⟩
  conv => whnf
  rfl
def eMix : Entry := ⟨76, 4, fun l => match l with | [.v (.int .u64 a)] => some (none, .v (.int .u64 (iMix a)), []) | _ => none⟩
theorem eMix_ok : eMix.ok Tryd.prog glM := ⟨enters_of Tryd.func76 (by kernel_rfl) (by kernel_rfl), by
  intro args c t bs h hc
  simp only [eMix] at h
  split at h <;> cases h
  exact mix_pure _⟩
def ctxMix (P : Program) : Ctx := ctx P glM [eMix] [] (noEq P) [] (fun _ h => by cases h)
theorem ctxMix_good : (ctxMix Tryd.prog).good := ctx_good (by kernel_rfl) (AllOk.mem ⟨eMix_ok, trivial⟩) glM_two
set_option maxRecDepth 100000 in
theorem before_pure (a b : Int) : Pure Tryd.prog glM 37 [.v (.int .u64 a), .v (.int .u64 b)] (.v (.bool (bBefore a b))) := by
  refine pure_of (C := ctxMix Tryd.prog) ctxMix_good Tryd.func37 (c := bodyOf Tryd.f37) (by rfl) (Nat.le_of_ble_eq_true (by rfl)) 4 0 [] ?_
  conv => whnf
  rfl
def eBefore : Entry := ⟨37, 4, fun l => match l with | [.v (.int .u64 a), .v (.int .u64 b)] => some (none, .v (.bool (bBefore a b)), []) | _ => none⟩
theorem eBefore_ok : eBefore.ok Tryd.prog glM := ⟨enters_of Tryd.func37 (by kernel_rfl) (by kernel_rfl), by
  intro args c t bs h hc
  simp only [eBefore] at h
  split at h <;> cases h
  exact before_pure _ _⟩
set_option maxRecDepth 100000 in
theorem rfolded_pure (a n : Int) (hn : 0 ≤ n) : Pure Tryd.prog glM 140 [.v (.int .u64 a), .v (.int .i64 n)] (.v (.int .u64 (mixF a n))) := by
  refine pure_of (C := ctx0M Tryd.prog) ctx0M_good Tryd.func140 (c := bodyOf Tryd.f140) (by rfl) (Nat.le_of_ble_eq_true (by rfl)) 4 0 [] ?_
  conv => whnf
  repeat' (first | (refine ifB_t (by assumption) ?_; conv => whnf) | (refine ifB_f (by assumption) ?_; conv => whnf) | (refine ifB_dec (fun h => ?_) (fun h => ?_) <;> (first | (exfalso; omega) | (conv => whnf))) | (refine ifB_eq (fun h => ?_) (fun h => ?_) <;> (first | (exfalso; omega) | (conv => whnf))) | (refine ifB_ne (fun h => ?_) (fun h => ?_) <;> (first | (exfalso; omega) | (conv => whnf))) | (refine ifB_not ?_; conv => whnf) | (refine ifB_and ?_; conv => whnf) | (refine ifB_or ?_; conv => whnf) | (refine And.intro ?_ ?_; (first | omega | assumption | (exact allU_getD (by assumption) _) | (simp only [cutL]; omega) | (refine And.intro ?_ ?_ <;> first | assumption | exact allU_getD (by assumption) _) | (simp only [cutL, IntKind.wrap_u64, IntKind.wrap_i64] at *; omega) | decide); conv => whnf))
  rfl
def eRFolded : Entry := ⟨140, 4, fun l => match l with | [.v (.int .u64 a), .v (.int .i64 n)] => some (some (0 ≤ n), .v (.int .u64 (mixF a n)), []) | _ => none⟩
theorem eRFolded_ok : eRFolded.ok Tryd.prog glM := ⟨enters_of Tryd.func140 (by kernel_rfl) (by kernel_rfl), by
  intro args c t bs h hc
  simp only [eRFolded] at h
  split at h <;> cases h
  replace hc := hc _ rfl
  exact rfolded_pure _ _ hc⟩
def ctxRMix0 (P : Program) : Ctx := ctx P glM [eRFolded] [] (noEq P) [] (fun _ h => by cases h)
theorem ctxRMix0_good : (ctxRMix0 Tryd.prog).good := ctx_good (by kernel_rfl) (AllOk.mem ⟨eRFolded_ok, trivial⟩) glM_two
def rMix (w : Int) : Int := mixF (mixR (mixR w 30 13787848793156543929) 27 10723151780598845931) 31
set_option maxRecDepth 100000 in
theorem rmix_pure (a : Int) : Pure Tryd.prog glM 136 [.v (.int .u64 a)] (.v (.int .u64 (rMix a))) := by
  refine pure_of (C := ctxRMix0 Tryd.prog) ctxRMix0_good Tryd.func136 (c := bodyOf Tryd.f136) (by rfl) (Nat.le_of_ble_eq_true (by rfl)) 4 0 [] ?_
  conv => whnf
  repeat' (first | (refine ifB_t (by assumption) ?_; conv => whnf) | (refine ifB_f (by assumption) ?_; conv => whnf) | (refine ifB_dec (fun h => ?_) (fun h => ?_) <;> (first | (exfalso; omega) | (conv => whnf))) | (refine ifB_eq (fun h => ?_) (fun h => ?_) <;> (first | (exfalso; omega) | (conv => whnf))) | (refine ifB_ne (fun h => ?_) (fun h => ?_) <;> (first | (exfalso; omega) | (conv => whnf))) | (refine ifB_not ?_; conv => whnf) | (refine ifB_and ?_; conv => whnf) | (refine ifB_or ?_; conv => whnf) | (refine And.intro ?_ ?_; (first | omega | assumption | (exact allU_getD (by assumption) _) | (simp only [cutL]; omega) | (refine And.intro ?_ ?_ <;> first | assumption | exact allU_getD (by assumption) _) | (simp only [cutL, IntKind.wrap_u64, IntKind.wrap_i64] at *; omega) | decide); conv => whnf))

  rfl
end Go.Proofs.YtlcpcgdecodjfaaDoor
namespace Go.Proofs.YtlcpcgdecodjfaaDoor.Flt
set_option linter.unusedVariables false
set_option linter.unusedSimpArgs false

/-- 2^52. -/
def B : Nat := 4503599627370496
def infR : Nat := 9218868437227405312
def nanW : Nat := 9221120237041090561
def sgnW : Nat := 9223372036854775808
def maxW : Nat := 18446744073709551616

/-- A rung's magnitude, in units of 2^-1074. -/
def V (r : Nat) : Nat := if r < B then r else (B + r % B) * 2 ^ (r / B - 1)

def up (n l : Nat) : Nat := if 2 ^ l < 2 * (n % 2 ^ l) ∨ (2 ^ l = 2 * (n % 2 ^ l) ∧ n / 2 ^ l % 2 = 1) then 1 else 0
/-- n / 2^l, to the nearest, and to the even one. -/
def cut (n l : Nat) : Nat := n / 2 ^ l + up n l
/-- The rung nearest to a magnitude. -/
def RN (n : Nat) : Nat := min ((n.log2 - 52) * B + cut n (n.log2 - 52)) infR

theorem pow_pos (l : Nat) : 0 < 2 ^ l := Nat.two_pow_pos l

theorem cut_zero (n : Nat) : cut n 0 = n := by
  unfold cut up; simp [Nat.mod_one]

theorem mod_scale (n l k : Nat) : n * 2 ^ k % 2 ^ (l + k) = n % 2 ^ l * 2 ^ k := by
  rw [Nat.pow_add, Nat.mul_mod_mul_right]
theorem div_scale (n l k : Nat) : n * 2 ^ k / 2 ^ (l + k) = n / 2 ^ l := by
  rw [Nat.pow_add, Nat.mul_div_mul_right _ _ (pow_pos k)]

theorem cut_scale (n l k : Nat) : cut (n * 2 ^ k) (l + k) = cut n l := by
  unfold cut up
  rw [mod_scale, div_scale]
  congr 1
  have hk := pow_pos k
  have e1 : (2 ^ (l + k) < 2 * (n % 2 ^ l * 2 ^ k)) ↔ (2 ^ l < 2 * (n % 2 ^ l)) := by
    rw [Nat.pow_add, ← Nat.mul_assoc]
    exact Nat.mul_lt_mul_right hk
  have e2 : (2 ^ (l + k) = 2 * (n % 2 ^ l * 2 ^ k)) ↔ (2 ^ l = 2 * (n % 2 ^ l)) := by
    rw [Nat.pow_add, ← Nat.mul_assoc]
    exact ⟨fun h => Nat.eq_of_mul_eq_mul_right hk h, fun h => congrArg (· * 2 ^ k) h⟩
  simp only [e1, e2]

theorem lt_two_pow_log2 (n : Nat) : n < 2 ^ (n.log2 + 1) := by
  exact Nat.lt_log2_self

theorem cut_far (n l : Nat) (h : n.log2 + 2 ≤ l) : cut n l = 0 := by
  have h1 := lt_two_pow_log2 n
  have h2 : 2 * n < 2 ^ l := by
    have : 2 ^ (n.log2 + 2) ≤ 2 ^ l := Nat.pow_le_pow_right (by omega) h
    have e : 2 ^ (n.log2 + 2) = 2 * 2 ^ (n.log2 + 1) := by rw [Nat.pow_succ, Nat.mul_comm]
    omega
  have h3 : n < 2 ^ l := by omega
  unfold cut up
  rw [Nat.div_eq_of_lt h3, Nat.mod_eq_of_lt h3]
  simp; omega

theorem even_cut (neg : Bool) (n drop : Nat) : Ieee.Toward.even.cut neg n drop = cut n drop := by
  have key : ∀ d, (let gap := 1 <<< d; let low := n / gap; let rest := n % gap; low + (gap < 2 * rest || (gap == 2 * rest && low % 2 == 1)).toNat) = cut n d := by
    intro d
    simp only [Nat.shiftLeft_eq, Nat.one_mul]
    unfold cut up
    congr 1
    generalize 2 ^ d = g
    generalize n % g = r
    generalize n / g % 2 = q
    by_cases h1 : g < 2 * r
    · simp [h1]
    · by_cases h2 : g = 2 * r <;> by_cases h3 : q = 1 <;> simp [h1, h2, h3]
  unfold Ieee.Toward.cut
  by_cases h : drop ≤ n.log2 + 2
  · rw [Nat.min_eq_left h]; exact key drop
  · rw [Nat.min_eq_right (by omega)]
    rw [cut_far n drop (by omega)]
    have := key (n.log2 + 2)
    rw [cut_far n _ (Nat.le_refl _)] at this
    exact this

theorem log2_mul_pow (n k : Nat) (h : n ≠ 0) : (n * 2 ^ k).log2 = n.log2 + k := by
  have h1 := Nat.log2_self_le h
  have h2 := lt_two_pow_log2 n
  have h0 : n * 2 ^ k ≠ 0 := by have := pow_pos k; exact Nat.mul_ne_zero h (by omega)
  refine (Nat.log2_eq_iff h0).2 ⟨?_, ?_⟩
  · rw [Nat.pow_add]; exact Nat.mul_le_mul_right _ h1
  · rw [show n.log2 + k + 1 = (n.log2 + 1) + k by omega, Nat.pow_add]; exact (Nat.mul_lt_mul_right (pow_pos k)).2 h2

theorem nearest_eq (neg : Bool) (mag : Nat) (place : Int) (hp : -1074 ≤ place) :
    Ieee.double.nearest neg mag place = Ieee.double.word neg (RN (mag * 2 ^ (place + 1074).toNat)) := by
  unfold Ieee.Format.nearest
  by_cases h0 : mag = 0
  · subst h0
    simp [RN, cut_zero]
  · rw [if_neg h0]
    have hl : Ieee.double.leastPlace = -1074 := by decide
    have hf : Ieee.double.fractionBits = 52 := rfl
    have hb : Ieee.double.binade = B := by decide
    have hi : Ieee.double.infRung = infR := by decide
    rw [hl, hf, hb, hi]
    obtain ⟨k, hk⟩ : ∃ k : Nat, place = (k : Int) - 1074 := ⟨(place + 1074).toNat, by omega⟩
    subst hk
    have e1 : ((k : Int) - 1074 + 1074).toNat = k := by omega
    rw [e1]
    unfold RN
    rw [log2_mul_pow mag k h0]
    dsimp only
    have e2 : (max ((k : Int) - 1074 + (mag.log2 : Int) - ((52 : Nat) : Int)) (-1074) - (-1074)).toNat = mag.log2 + k - 52 := by omega
    rw [e2, even_cut]
    congr 3
    by_cases hc : k ≤ mag.log2 + k - 52
    · have e3 : ((k : Int) - 1074 - max ((k : Int) - 1074 + (mag.log2 : Int) - ((52 : Nat) : Int)) (-1074)).toNat = 0 := by omega
      have e4 : (max ((k : Int) - 1074 + (mag.log2 : Int) - ((52 : Nat) : Int)) (-1074) - ((k : Int) - 1074)).toNat = mag.log2 + k - 52 - k := by omega
      rw [e3, e4]
      simp only [Nat.shiftLeft_zero]
      have := cut_scale mag (mag.log2 + k - 52 - k) k
      rw [show mag.log2 + k - 52 - k + k = mag.log2 + k - 52 by omega] at this
      exact this.symm
    · have e3 : ((k : Int) - 1074 - max ((k : Int) - 1074 + (mag.log2 : Int) - ((52 : Nat) : Int)) (-1074)).toNat = k - (mag.log2 + k - 52) := by omega
      have e4 : (max ((k : Int) - 1074 + (mag.log2 : Int) - ((52 : Nat) : Int)) (-1074) - ((k : Int) - 1074)).toNat = 0 := by omega
      rw [e3, e4, cut_zero, Nat.shiftLeft_eq]
      have := cut_scale (mag * 2 ^ (k - (mag.log2 + k - 52))) 0 (mag.log2 + k - 52)
      rw [cut_zero, Nat.mul_assoc, ← Nat.pow_add, Nat.zero_add, show k - (mag.log2 + k - 52) + (mag.log2 + k - 52) = k by omega] at this
      exact this.symm

/-! ### What a word stands for -/
def mag (w : Nat) : Nat := w % sgnW
def neg (w : Nat) : Bool := w / sgnW % 2 == 1
def sv (w : Nat) : Int := if neg w then -(V (mag w) : Nat) else (V (mag w) : Nat)

theorem read_fin (w : Nat) (h : mag w < infR) :
    ∃ m p, Ieee.double.read w = .number (neg w) m p ∧ -1074 ≤ p ∧ m * 2 ^ (p + 1074).toNat = V (mag w) := by
  unfold Ieee.Format.read
  have hs : Ieee.double.signWeight = sgnW := by decide
  have hl : Ieee.double.leastPlace = -1074 := by decide
  have hb : Ieee.double.binade = B := by decide
  have hi : Ieee.double.infRung = infR := by decide
  rw [hs, hl, hb, hi]
  dsimp only
  change w % sgnW < infR at h
  unfold neg mag
  by_cases h1 : w % sgnW < B
  · rw [if_pos h1]
    refine ⟨_, _, rfl, by omega, ?_⟩
    unfold V; rw [if_pos h1]; simp
  · rw [if_neg h1, if_pos h]
    refine ⟨_, _, rfl, by omega, ?_⟩
    unfold V; rw [if_neg h1]
    congr 2
    omega

theorem read_inf (w : Nat) (h : mag w = infR) : Ieee.double.read w = .infinity (neg w) := by
  unfold Ieee.Format.read
  have hs : Ieee.double.signWeight = sgnW := by decide
  have hb : Ieee.double.binade = B := by decide
  have hi : Ieee.double.infRung = infR := by decide
  rw [hs, hb, hi]
  dsimp only
  change w % sgnW = infR at h
  rw [h, if_neg (by decide), if_neg (by decide), if_pos rfl]
  rfl

theorem read_nan (w : Nat) (h : infR < mag w) : ∃ f, Ieee.double.read w = .nan (neg w) f := by
  unfold Ieee.Format.read
  have hs : Ieee.double.signWeight = sgnW := by decide
  have hb : Ieee.double.binade = B := by decide
  have hi : Ieee.double.infRung = infR := by decide
  rw [hs, hb, hi]
  dsimp only
  change infR < w % sgnW at h
  have : B < infR := by decide
  rw [if_neg (by omega), if_neg (by omega), if_neg (by omega)]
  exact ⟨_, rfl⟩

theorem signed_scale (s : Bool) (m : Nat) (p b : Int) (hb : -1074 ≤ b) (hp : b ≤ p) :
    Ieee.signed s m (p - b).toNat * (2 : Int) ^ (b + 1074).toNat = if s then -((m * 2 ^ (p + 1074).toNat : Nat) : Int) else ((m * 2 ^ (p + 1074).toNat : Nat) : Int) := by
  have e : (p + 1074).toNat = (p - b).toNat + (b + 1074).toNat := by omega
  unfold Ieee.signed
  rw [Nat.shiftLeft_eq, e, Nat.pow_add, ← Nat.mul_assoc]
  cases s
  · simp
  · simp [Int.neg_mul]

theorem pow_pos_int (k : Nat) : (0 : Int) < 2 ^ k := by exact_mod_cast pow_pos k

/-! ### Order -/
theorem compare_scale (x y c : Int) (hc : 0 < c) : compare (x * c) (y * c) = compare x y := by
  have h1 : x * c < y * c ↔ x < y := ⟨fun h => Int.lt_of_mul_lt_mul_right h (Int.le_of_lt hc), fun h => Int.mul_lt_mul_of_pos_right h hc⟩
  have h2 : x * c = y * c ↔ x = y := ⟨fun h => Int.eq_of_mul_eq_mul_right (by omega) h, fun h => by rw [h]⟩
  simp only [compare, compareOfLessAndEq, h1, h2]

theorem order_fin (a b : Nat) (ha : mag a < infR) (hb : mag b < infR) : Ieee.double.order a b = some (compare (sv a) (sv b)) := by
  obtain ⟨m, p, e1, hp, h1⟩ := read_fin a ha
  obtain ⟨n, q, e2, hq, h2⟩ := read_fin b hb
  unfold Ieee.Format.order
  rw [e1, e2]
  show some (compare _ _) = _
  congr 1
  have s1 := signed_scale (neg a) m p (min p q) (by omega) (by omega)
  have s2 := signed_scale (neg b) n q (min p q) (by omega) (by omega)
  rw [h1] at s1
  rw [h2] at s2
  rw [← compare_scale _ _ _ (pow_pos_int (min p q + 1074).toNat)]
  show compare (Ieee.signed (neg a) m (p - min p q).toNat * _) (Ieee.signed (neg b) n (q - min p q).toNat * _) = _
  rw [s1, s2]
  rfl

theorem order_self (a : Nat) : (Ieee.double.order a a != some .eq) = decide (infR < mag a) := by
  rcases Nat.lt_trichotomy (mag a) infR with h | h | h
  · rw [order_fin a a h h]
    have : compare (sv a) (sv a) = .eq := by simp [compare, compareOfLessAndEq]
    rw [this]; simp; omega
  · unfold Ieee.Format.order
    rw [read_inf a h]
    simp only [Ieee.Datum.order, h]
    have : compare (neg a).toNat (neg a).toNat = .eq := by simp [compare, compareOfLessAndEq]
    rw [this]; simp
  · obtain ⟨f, e⟩ := read_nan a h
    unfold Ieee.Format.order
    rw [e]
    simp [Ieee.Datum.order, h]

theorem V_zero (r : Nat) : V r = 0 ↔ r = 0 := by
  unfold V
  split
  · exact Iff.rfl
  · have hb : 0 < B := by decide
    constructor
    · intro h
      have := Nat.mul_eq_zero.1 h
      have := pow_pos (r / B - 1)
      omega
    · intro h; omega

theorem sv_zero (a : Nat) : sv a = 0 ↔ mag a = 0 := by
  unfold sv
  rw [← V_zero]
  split <;> omega

theorem order_zero (a : Nat) : (Ieee.double.order a 0 == some .eq) = decide (mag a = 0) := by
  have h0 : mag 0 < infR := by decide
  have hz : sv 0 = 0 := by decide
  rcases Nat.lt_trichotomy (mag a) infR with h | h | h
  · rw [order_fin a 0 h h0, hz]
    by_cases hs : mag a = 0
    · rw [(sv_zero a).2 hs]; simp [hs, compare, compareOfLessAndEq]
    · have : sv a ≠ 0 := fun e => hs ((sv_zero a).1 e)
      simp only [hs, decide_false]
      simp only [compare, compareOfLessAndEq]
      split
      · rfl
      · simp
  · unfold Ieee.Format.order
    obtain ⟨m, p, e, _⟩ := read_fin 0 h0
    rw [read_inf a h, e, h]
    cases neg a <;> simp [Ieee.Datum.order] <;> decide
  · obtain ⟨f, e⟩ := read_nan a h
    unfold Ieee.Format.order
    rw [e]
    have : mag a ≠ 0 := by omega
    simp [Ieee.Datum.order, this]

/-! ### V rises -/
theorem V_low (r : Nat) (h : r < 2 * B) : V r = r := by
  unfold V
  split
  · rfl
  · rename_i h1
    have hB : B = 4503599627370496 := rfl
    have : r / B = 1 := by
      have hb : 0 < B := by omega
      refine (Nat.div_eq_iff hb).2 ⟨by omega, by omega⟩
    rw [this]
    have := Nat.div_add_mod r B
    rw [‹r / B = 1›] at this
    simp; omega

theorem V_step (r : Nat) (h : B ≤ r) : V (r + B) = 2 * V r := by
  unfold V
  have hB : B = 4503599627370496 := rfl
  rw [if_neg (by omega), if_neg (by omega)]
  rw [Nat.add_mod_right, Nat.add_div_right r (by rw [hB]; omega)]
  have : 1 ≤ r / B := (Nat.le_div_iff_mul_le (by omega)).2 (by omega)
  rw [show (r / B).succ - 1 = (r / B - 1) + 1 by omega, Nat.pow_succ]
  rw [← Nat.mul_assoc, Nat.mul_comm]

theorem V_bounds (r : Nat) (h : B ≤ r) : 2 ^ (52 + (r / B - 1)) ≤ V r ∧ V r < 2 ^ (53 + (r / B - 1)) := by
  have hB : B = 2 ^ 52 := by decide
  unfold V
  rw [if_neg (by omega)]
  have hm : r % B < B := Nat.mod_lt _ (by rw [hB]; exact pow_pos 52)
  rw [Nat.pow_add, Nat.pow_add]
  constructor
  · exact Nat.mul_le_mul_right _ (by omega)
  · refine (Nat.mul_lt_mul_right (pow_pos _)).2 ?_
    rw [hB] at *; omega

theorem V_succ (r : Nat) : V r < V (r + 1) := by
  have hBp : 0 < B := by decide
  by_cases h : r + 1 < B
  · unfold V; rw [if_pos h, if_pos (by omega)]; omega
  · by_cases h2 : r < B
    · have : r + 1 = B := by omega
      rw [this, V_low r (by omega), V_low B (by omega)]; omega
    · have hdm := Nat.div_add_mod r B
      have hm : r % B < B := Nat.mod_lt _ hBp
      by_cases h3 : r % B + 1 < B
      · have e1 : (r + 1) / B = r / B := by
          rw [show r + 1 = (r % B + 1) + B * (r / B) by omega, Nat.add_mul_div_left _ _ hBp, Nat.div_eq_of_lt h3]; omega
        have e2 : (r + 1) % B = r % B + 1 := by
          rw [show r + 1 = (r % B + 1) + B * (r / B) by omega, Nat.add_mul_mod_self_left, Nat.mod_eq_of_lt h3]
        unfold V
        rw [if_neg h2, if_neg h, e1, e2]
        exact (Nat.mul_lt_mul_right (pow_pos _)).2 (by omega)
      · have e1 : (r + 1) / B = r / B + 1 := by
          rw [show r + 1 = B + B * (r / B) by omega, Nat.add_mul_div_left _ _ hBp, Nat.div_self hBp]; omega
        have b1 := (V_bounds r (by omega)).2
        have b2 := (V_bounds (r + 1) (by omega)).1
        rw [e1] at b2
        have : 1 ≤ r / B := (Nat.le_div_iff_mul_le hBp).2 (by omega)
        rw [show 52 + (r / B + 1 - 1) = 53 + (r / B - 1) by omega] at b2
        omega

theorem V_lt {r s : Nat} (h : r < s) : V r < V s := by
  induction s with
  | zero => omega
  | succ s ih =>
    have := V_succ s
    by_cases e : r = s
    · subst e; exact this
    · have := ih (by omega); omega

theorem V_lt_iff (r s : Nat) : V r < V s ↔ r < s := by
  constructor
  · intro h
    rcases Nat.lt_trichotomy r s with g | g | g
    · exact g
    · subst g; omega
    · have := V_lt g; omega
  · exact V_lt

theorem V_inj {r s : Nat} (h : V r = V s) : r = s := by
  rcases Nat.lt_trichotomy r s with g | g | g
  · have := V_lt g; omega
  · exact g
  · have := V_lt g; omega

/-! ### Rounding what needs none -/
theorem RN_low (n : Nat) (h : n < 2 ^ 53) : RN n = n := by
  unfold RN
  have : n.log2 - 52 = 0 := by
    by_cases h0 : n = 0
    · subst h0; decide
    · have := (Nat.log2_lt h0).2 h; omega
  rw [this, cut_zero]
  have : infR = 9218868437227405312 := rfl
  omega

theorem RN_V (r : Nat) : RN (V r) = min r infR := by
  have hB : B = 2 ^ 52 := by decide
  by_cases h : r < B
  · rw [V_low r (by omega), RN_low r (by rw [hB] at h; omega)]
    have : infR = 9218868437227405312 := rfl
    have : B = 4503599627370496 := rfl
    omega
  · have hb := V_bounds r (by omega)
    have h0 : V r ≠ 0 := by have := pow_pos (52 + (r / B - 1)); omega
    have hl : (V r).log2 = 52 + (r / B - 1) := (Nat.log2_eq_iff h0).2 ⟨hb.1, by rw [show 52 + (r / B - 1) + 1 = 53 + (r / B - 1) by omega]; exact hb.2⟩
    unfold RN
    rw [hl, show 52 + (r / B - 1) - 52 = r / B - 1 by omega]
    have hBp : 0 < B := by decide
    have hge : 1 ≤ r / B := (Nat.le_div_iff_mul_le hBp).2 (by omega)
    have : cut (V r) (r / B - 1) = B + r % B := by
      unfold V; rw [if_neg h]
      have := cut_scale (B + r % B) 0 (r / B - 1)
      rw [cut_zero, Nat.zero_add] at this
      exact this
    rw [this]
    congr 1
    have hdm := Nat.div_add_mod r B
    have : (r / B - 1) * B + B = B * (r / B) := by
      rw [Nat.mul_comm B, ← Nat.succ_mul]; congr 1; omega
    omega

theorem RN_le (n : Nat) : RN n ≤ infR := Nat.min_le_right _ _

theorem RN_pos (n : Nat) (h : 0 < n) : 0 < RN n := by
  by_cases hn : n < 2 ^ 53
  · rw [RN_low n hn]; exact h
  · unfold RN
    have h0 : n ≠ 0 := by omega
    have : 53 ≤ n.log2 := (Nat.le_log2 h0).2 (by omega)
    have hB : 0 < B := by decide
    have : 0 < (n.log2 - 52) * B := Nat.mul_pos (by omega) hB
    have : 0 < infR := by decide
    omega

/-! ### Sums -/
theorem sum_eq (a b : Nat) (ha : mag a < infR) (hb : mag b < infR) :
    Ieee.double.add a b = some (Ieee.double.word (if sv a + sv b = 0 then neg a && neg b else decide (sv a + sv b < 0)) (RN (sv a + sv b).natAbs)) := by
  obtain ⟨m, p, e1, hp, h1⟩ := read_fin a ha
  obtain ⟨n, q, e2, hq, h2⟩ := read_fin b hb
  have s1 := signed_scale (neg a) m p (min p q) (by omega) (by omega)
  have s2 := signed_scale (neg b) n q (min p q) (by omega) (by omega)
  rw [h1] at s1
  rw [h2] at s2
  have key : (Ieee.signed (neg a) m (p - min p q).toNat + Ieee.signed (neg b) n (q - min p q).toNat) * (2 : Int) ^ (min p q + 1074).toNat = sv a + sv b := by
    rw [Int.add_mul, s1, s2]; rfl
  unfold Ieee.Format.add
  rw [e1, e2]
  show Option.map _ (some _) = _
  simp only [Option.map_some]
  congr 1
  unfold Ieee.Format.write
  dsimp only
  generalize Ieee.signed (neg a) m (p - min p q).toNat + Ieee.signed (neg b) n (q - min p q).toNat = t at key ⊢
  have hc := pow_pos_int (min p q + 1074).toNat
  rw [nearest_eq _ _ _ (by omega)]
  have z1 : t = 0 ↔ sv a + sv b = 0 := by
    rw [← key]
    constructor
    · intro h; rw [h]; simp
    · intro h
      rcases Int.mul_eq_zero.1 h with g | g
      · exact g
      · omega
  have z2 : t < 0 ↔ sv a + sv b < 0 := by
    rw [← key]
    constructor
    · intro h; exact Int.mul_neg_of_neg_of_pos h hc
    · intro h
      rcases Int.lt_trichotomy t 0 with g | g | g
      · exact g
      · subst g; simp at h
      · have := Int.mul_pos g hc; omega
  have z3 : t.natAbs * 2 ^ (min p q + 1074).toNat = (sv a + sv b).natAbs := by
    rw [← key, Int.natAbs_mul, Int.natAbs_pow]
    rfl
  rw [z3]
  congr 1
  by_cases g : t = 0
  · rw [if_pos g, if_pos (z1.1 g)]
  · rw [if_neg g, if_neg (fun h => g (z1.2 h))]
    simp only [z2]

/-! ### The document's functions, on words -/
def canon (w : Nat) : Nat := if infR < mag w then nanW else if mag w = 0 then 0 else w
def kind (w : Nat) : Nat := if infR < mag w then 3 else if mag w = infR then 2 else if mag w = 0 then 0 else 1
def rank (w : Nat) : Nat := if canon w < sgnW then canon w + sgnW else maxW - 1 - canon w
def less (a b : Nat) : Bool := decide (rank a < rank b)
def top (a b : Nat) : Nat := if rank a < rank b then canon b else canon a
def back (r : Nat) : Nat := if r < sgnW then maxW - 1 - r else r - sgnW
def wordOk (r : Nat) : Bool := decide (canon (back r) = back r ∧ rank (back r) = r)
def word (r : Nat) : Nat := if wordOk r then back r else 0
def sumFin (a b : Nat) : Nat := if sv a + sv b = 0 then 0 else (if sv a + sv b < 0 then sgnW else 0) + RN (sv a + sv b).natAbs
def sum (a b : Nat) : Nat :=
  if infR < mag a ∨ infR < mag b then nanW
  else if mag a = infR then (if mag b = infR ∧ neg a ≠ neg b then nanW else a)
  else if mag b = infR then b
  else sumFin a b

/-- What the float '+' leaves, canonical, is the sum. -/
theorem sum_of_add (a b r : Nat) (ha : a < maxW) (hb : b < maxW) (h : Ieee.double.add a b = some r) : canon r = sum a b := by
  have hw : ∀ s x, Ieee.double.word s x = (if s then sgnW else 0) + x := by
    intro s x
    have hs : Ieee.double.signWeight = sgnW := by decide
    unfold Ieee.Format.word
    rw [hs]; cases s <;> simp
  have wordmag : ∀ s x, x ≤ infR → mag (Ieee.double.word s x) = x := by
    intro s x hx
    rw [hw]; unfold mag
    have e1 : infR = 9218868437227405312 := rfl
    have e2 : sgnW = 9223372036854775808 := rfl
    rw [e1] at hx; rw [e2]
    cases s <;> simp <;> omega
  have self : ∀ w, w < maxW → w = (if neg w then sgnW else 0) + mag w := by
    intro w hw
    unfold neg mag
    have e1 : sgnW = 9223372036854775808 := rfl
    have e2 : maxW = 18446744073709551616 := rfl
    rw [e2] at hw; rw [e1]
    by_cases g : w / 9223372036854775808 % 2 = 1
    · simp [g]; omega
    · simp [g]; omega
  have infw : ∀ s, Ieee.double.write (.infinity s) = (if s then sgnW else 0) + infR := by
    intro s
    show Ieee.double.word s Ieee.double.infRung = _
    rw [hw]; congr 1
  have hinf : 0 < infR := by decide
  unfold sum
  by_cases na : infR < mag a
  · obtain ⟨f, e⟩ := read_nan a na
    unfold Ieee.Format.add at h
    rw [e] at h
    simp [Ieee.Datum.sum] at h
  by_cases nb : infR < mag b
  · obtain ⟨f, e⟩ := read_nan b nb
    unfold Ieee.Format.add at h
    rw [e] at h
    cases ha' : Ieee.double.read a <;> rw [ha'] at h <;> simp [Ieee.Datum.sum] at h
  rw [if_neg (by omega)]
  by_cases ia : mag a = infR
  · rw [if_pos ia]
    unfold Ieee.Format.add at h
    rw [read_inf a ia] at h
    by_cases ib : mag b = infR
    · rw [read_inf b ib] at h
      simp only [Ieee.Datum.sum] at h
      by_cases e : neg a = neg b
      · rw [if_pos e] at h
        simp only [Option.map_some, Option.some.injEq] at h
        rw [if_neg (by simp [e])]
        subst h
        rw [infw, ← ia, ← self a ha]
        unfold canon; rw [if_neg na, if_neg (by omega)]
      · rw [if_neg e] at h; simp at h
    · rw [if_neg (fun g => ib g.1)]
      obtain ⟨n, q, e2, _⟩ := read_fin b (by omega)
      rw [e2] at h
      simp only [Ieee.Datum.sum, Option.map_some, Option.some.injEq] at h
      subst h
      rw [infw, ← ia, ← self a ha]
      unfold canon; rw [if_neg na, if_neg (by omega)]
  · rw [if_neg ia]
    by_cases ib : mag b = infR
    · rw [if_pos ib]
      unfold Ieee.Format.add at h
      obtain ⟨n, q, e2, _⟩ := read_fin a (by omega)
      rw [read_inf b ib, e2] at h
      simp only [Ieee.Datum.sum, Option.map_some, Option.some.injEq] at h
      subst h
      rw [infw, ← ib, ← self b hb]
      unfold canon; rw [if_neg nb, if_neg (by omega)]
    · rw [if_neg ib]
      rw [sum_eq a b (by omega) (by omega)] at h
      simp only [Option.some.injEq] at h
      subst h
      unfold sumFin canon
      rw [wordmag _ _ (RN_le _)]
      have := RN_le (sv a + sv b).natAbs
      rw [if_neg (by omega)]
      by_cases z : sv a + sv b = 0
      · rw [if_pos z]; simp [z, RN_low 0 (by decide)]
      · have := RN_pos (sv a + sv b).natAbs (by omega)
        rw [if_neg (by omega), if_neg z, hw]
        by_cases z2 : sv a + sv b < 0 <;> simp [z, z2]

/-- Where '+' tells no word (a NaN among the two, or both ends), the sum is the NaN. -/
theorem sum_of_none (a b : Nat) (h : Ieee.double.add a b = none) : sum a b = nanW := by
  unfold sum
  by_cases n : infR < mag a ∨ infR < mag b
  · rw [if_pos n]
  rw [if_neg n]
  unfold Ieee.Format.add at h
  by_cases ia : mag a = infR
  · rw [if_pos ia]
    rw [read_inf a ia] at h
    by_cases ib : mag b = infR
    · rw [read_inf b ib] at h
      by_cases e : neg a = neg b
      · simp [Ieee.Datum.sum, e] at h
      · rw [if_pos ⟨ib, e⟩]
    · obtain ⟨n, q, e2, _⟩ := read_fin b (by omega)
      rw [e2] at h
      simp [Ieee.Datum.sum] at h
  · obtain ⟨m, p, e1, _⟩ := read_fin a (by omega)
    rw [e1] at h
    by_cases ib : mag b = infR
    · rw [read_inf b ib] at h
      simp [Ieee.Datum.sum] at h
    · obtain ⟨n, q, e2, _⟩ := read_fin b (by omega)
      rw [e2] at h
      simp [Ieee.Datum.sum] at h

end Go.Proofs.YtlcpcgdecodjfaaDoor.Flt
namespace Go.Proofs.YtlcpcgdecodjfaaDoor.Bits
set_option linter.unusedVariables false
set_option linter.unusedSimpArgs false

theorem and_top_lo (c : Nat) (h : c < 9223372036854775808) : c &&& 9223372036854775808 = 0 := by
  refine Nat.eq_of_testBit_eq fun i => ?_
  rw [Nat.testBit_and, Nat.zero_testBit, show (9223372036854775808 : Nat) = 2 ^ 63 from by decide, Nat.testBit_two_pow]
  by_cases e : 63 = i
  · subst e; rw [Nat.testBit_lt_two_pow (by omega)]; rfl
  · simp [e]

theorem or_top (c : Nat) (h : c < 9223372036854775808) : c ||| 9223372036854775808 = c + 9223372036854775808 := by
  have := Nat.two_pow_add_eq_or_of_lt (i := 63) (b := c) (by omega) 1
  rw [Nat.or_comm]
  simp only [show (2 : Nat) ^ 63 = 9223372036854775808 from by decide, Nat.mul_one] at this
  omega

theorem and_top_hi (c : Nat) (h : 9223372036854775808 ≤ c) (h2 : c < 18446744073709551616) : c &&& 9223372036854775808 = 9223372036854775808 := by
  obtain ⟨d, rfl⟩ : ∃ d, c = d + 9223372036854775808 := ⟨c - 9223372036854775808, by omega⟩
  rw [← or_top d (by omega), Nat.and_or_distrib_right, and_top_lo d (by omega), Nat.and_self, Nat.zero_or]

theorem not_top (c : Nat) : c &&& 9223372036854775807 = c % 9223372036854775808 := by
  have := Nat.and_two_pow_sub_one_eq_mod c 63
  exact this

theorem xor_max (c : Nat) (h : c < 18446744073709551616) : 18446744073709551615 ^^^ c = 18446744073709551615 - c := by
  have e : (BitVec.allOnes 64 ^^^ BitVec.ofNat 64 c).toNat = (~~~ BitVec.ofNat 64 c).toNat := by rw [BitVec.allOnes_xor]
  rw [BitVec.toNat_xor, BitVec.toNat_not, BitVec.toNat_allOnes, BitVec.toNat_ofNat, Nat.mod_eq_of_lt (by omega)] at e
  exact e

theorem xor_top_lo (c : Nat) (h : c < 9223372036854775808) : c ^^^ 9223372036854775808 = c + 9223372036854775808 := by
  rw [← or_top c h]
  refine Nat.eq_of_testBit_eq fun i => ?_
  rw [Nat.testBit_xor, Nat.testBit_or, show (9223372036854775808 : Nat) = 2 ^ 63 from by decide, Nat.testBit_two_pow]
  by_cases e : 63 = i
  · subst e; rw [Nat.testBit_lt_two_pow (by omega)]; rfl
  · simp [e]

theorem xor_top_hi (c : Nat) (h : 9223372036854775808 ≤ c) (h2 : c < 18446744073709551616) : c ^^^ 9223372036854775808 = c - 9223372036854775808 := by
  obtain ⟨d, rfl⟩ : ∃ d, c = d + 9223372036854775808 := ⟨c - 9223372036854775808, by omega⟩
  rw [← xor_top_lo d (by omega), Nat.xor_assoc, Nat.xor_self, Nat.xor_zero, xor_top_lo d (by omega)]; omega

/-! The same as the walk spells it. -/
theorem b_and_top (a : Int) (h0 : 0 ≤ a) (h1 : a < 18446744073709551616) : bits .and .u64 a 9223372036854775808 = if a < 9223372036854775808 then 0 else 9223372036854775808 := by
  rw [u64_and a _ h0 h1 (by decide) (by decide)]
  by_cases h : a < 9223372036854775808
  · rw [if_pos h, show (9223372036854775808 : Int).toNat = 9223372036854775808 from rfl, and_top_lo _ (by omega)]; rfl
  · rw [if_neg h, show (9223372036854775808 : Int).toNat = 9223372036854775808 from rfl, and_top_hi _ (by omega) (by omega)]; rfl

theorem b_or_top (a : Int) (h0 : 0 ≤ a) (h1 : a < 9223372036854775808) : bits .or .u64 a 9223372036854775808 = a + 9223372036854775808 := by
  rw [u64_or a _ h0 (by omega) (by decide) (by decide), show (9223372036854775808 : Int).toNat = 9223372036854775808 from rfl, or_top _ (by omega)]; omega

theorem b_not_top (a : Int) (h0 : 0 ≤ a) (h1 : a < 18446744073709551616) : bits .andNot .u64 a 9223372036854775808 = a % 9223372036854775808 := by
  rw [u64_andNot a _ h0 h1 (by decide) (by decide), show (18446744073709551615 - (9223372036854775808 : Int).toNat) = 9223372036854775807 from rfl, not_top]; omega

theorem b_xor_max (a : Int) (h0 : 0 ≤ a) (h1 : a < 18446744073709551616) : bits .xor .u64 IntKind.u64.max a = 18446744073709551615 - a := by
  rw [show IntKind.u64.max = 18446744073709551615 from rfl, u64_xor _ a (by decide) (by decide) h0 h1, show (18446744073709551615 : Int).toNat = 18446744073709551615 from rfl, xor_max _ (by omega)]; omega

theorem b_xor_top (a : Int) (h0 : 0 ≤ a) (h1 : a < 18446744073709551616) : bits .xor .u64 a 9223372036854775808 = if a < 9223372036854775808 then a + 9223372036854775808 else a - 9223372036854775808 := by
  rw [u64_xor a _ h0 h1 (by decide) (by decide), show (9223372036854775808 : Int).toNat = 9223372036854775808 from rfl]
  by_cases h : a < 9223372036854775808
  · rw [if_pos h, xor_top_lo _ (by omega)]; omega
  · rw [if_neg h, xor_top_hi _ (by omega) (by omega)]; omega

end Go.Proofs.YtlcpcgdecodjfaaDoor.Bits
namespace Go.Proofs.YtlcpcgdecodjfaaDoor
open Go.RowKit
set_option linter.unusedVariables false
set_option linter.unusedSimpArgs false

def iCanon (a : Int) : Int := (Flt.canon a.toNat : Nat)
def iKind (a : Int) : Int := (Flt.kind a.toNat : Nat)
def iRank (a : Int) : Int := (Flt.rank a.toNat : Nat)
def bLess (a b : Int) : Bool := decide (iRank a < iRank b)
def iTop (a b : Int) : Int := (Flt.top a.toNat b.toNat : Nat)
def iSum (a b : Int) : Int := (Flt.sum a.toNat b.toNat : Nat)
def iWord (a : Int) : Int := (Flt.word a.toNat : Nat)
def bWordOk (a : Int) : Bool := Flt.wordOk a.toNat
def iBack (a : Int) : Int := (Flt.back a.toNat : Nat)

theorem u64_nat {a : Int} (h : U64 a) : a.toNat < Flt.maxW := by
  have : Flt.maxW = 18446744073709551616 := rfl
  unfold U64 at h; omega
theorem canon_lt (w : Nat) (h : w < Flt.maxW) : Flt.canon w < Flt.maxW := by
  unfold Flt.canon
  split
  · decide
  · split
    · decide
    · exact h
theorem rank_lt (w : Nat) (h : w < Flt.maxW) : Flt.rank w < Flt.maxW := by
  have := canon_lt w h
  have : Flt.maxW = 18446744073709551616 := rfl
  have : Flt.sgnW = 9223372036854775808 := rfl
  unfold Flt.rank
  split <;> omega
theorem u64_canon {a : Int} (h : U64 a) : U64 (iCanon a) := by
  have h1 := canon_lt _ (u64_nat h)
  have : Flt.maxW = 18446744073709551616 := rfl
  unfold U64 iCanon; omega
theorem u64_rank {a : Int} (h : U64 a) : U64 (iRank a) := by
  have h1 := rank_lt _ (u64_nat h)
  have : Flt.maxW = 18446744073709551616 := rfl
  unfold U64 iRank; omega

@[go_sem] theorem frombits_run (a : Int) (w : World) : (callFunc 77 #[.int .u64 a]).run Tryd.prog w = .ok (.value (.float .f64 a.toNat)) w := by
  rw [run_callFunc_extern Tryd.func77 (by kernel_rfl) (by kernel_rfl) (by kernel_rfl) (e := Extern.MathFloatBits.float64frombits) (by kernel_rfl)]
  rfl
@[go_sem] theorem tobits_run (a : Nat) (w : World) : (callFunc 104 #[.float .f64 a]).run Tryd.prog w = .ok (.value (.int .u64 a)) w := by
  rw [run_callFunc_extern Tryd.func104 (by kernel_rfl) (by kernel_rfl) (by kernel_rfl) (e := Extern.MathFloatBits.float64bits) (by kernel_rfl)]
  rfl


theorem ord_nan (a : Nat) (b : Bool) (h : (FloatKind.f64.format.order a a != some .eq) = b) : decide (Flt.infR < Flt.mag a) = b := by
  rw [← Flt.order_self]; exact h
theorem ord_zero (a : Nat) (b : Bool) (h : (FloatKind.f64.format.order a 0 == some .eq) = b) : decide (Flt.mag a = 0) = b := by
  rw [← Flt.order_zero]; exact h

theorem canon_c1 {a : Int} (h : (FloatKind.f64.format.order a.toNat a.toNat != some .eq) = true) : (9221120237041090561 : Int) = iCanon a := by
  have h := of_decide_eq_true (ord_nan _ _ h)
  unfold iCanon Flt.canon; rw [if_pos h]; rfl
theorem canon_c2 {a : Int} (h : (FloatKind.f64.format.order a.toNat a.toNat != some .eq) = false) (h2 : (FloatKind.f64.format.order a.toNat 0 == some .eq) = true) : (0 : Int) = iCanon a := by
  have h := of_decide_eq_false (ord_nan _ _ h)
  have h2 := of_decide_eq_true (ord_zero _ _ h2)
  unfold iCanon Flt.canon; rw [if_neg h, if_pos h2]; rfl
theorem canon_c3 {a : Int} (ha : U64 a) (h : (FloatKind.f64.format.order a.toNat a.toNat != some .eq) = false) (h2 : (FloatKind.f64.format.order a.toNat 0 == some .eq) = false) : a = iCanon a := by
  have h := of_decide_eq_false (ord_nan _ _ h)
  have h2 := of_decide_eq_false (ord_zero _ _ h2)
  unfold iCanon Flt.canon; rw [if_neg h, if_neg h2]
  unfold U64 at ha; omega

theorem canon_any (a : Int) (ha : U64 a) (w : World) : Calls Tryd.prog 38 #[.int .u64 a] w fun e w' => e = .returned (.int .u64 (iCanon a)) ∧ w = w' := by
  go_enter Tryd.func38, Tryd.ntmps38
  go_wp2
  · go_ret; exact ⟨ret_int (canon_c1 ‹_›), rfl⟩
  · go_ret; exact ⟨ret_int (canon_c2 ‹_› ‹_›), rfl⟩
  · go_ret; exact ⟨ret_int (canon_c3 ha ‹_› ‹_›), rfl⟩

theorem ord_big {a : Int} (ha : U64 a) (hn : ¬ Flt.infR < Flt.mag a.toNat) (b : Bool) (h : (FloatKind.f64.format.order (bits BinOp.andNot IntKind.u64 (max a 0) 9223372036854775808).toNat 9218868437227405311 == some Ordering.gt) = b) :
    decide (Flt.mag a.toNat = Flt.infR) = b := by
  rw [← h]
  unfold U64 at ha
  have e : (bits BinOp.andNot IntKind.u64 (max a 0) 9223372036854775808).toNat = Flt.mag a.toNat := by
    rw [show max a 0 = a by omega, Bits.b_not_top a ha.1 ha.2]
    unfold Flt.mag
    have : Flt.sgnW = 9223372036854775808 := rfl
    rw [this]; omega
  rw [e]
  have e1 : Flt.infR = 9218868437227405312 := rfl
  have e2 : Flt.sgnW = 9223372036854775808 := rfl
  have hm : Flt.mag (Flt.mag a.toNat) = Flt.mag a.toNat := by unfold Flt.mag; exact Nat.mod_mod _ _
  have hg : Flt.neg (Flt.mag a.toNat) = false := by
    unfold Flt.neg Flt.mag; rw [e2]
    rw [Nat.div_eq_of_lt (Nat.mod_lt _ (by decide))]; rfl
  have hM : Flt.mag 9218868437227405311 = 9218868437227405311 := by decide
  have hG : Flt.neg 9218868437227405311 = false := by decide
  change _ = (Ieee.double.order _ _ == some Ordering.gt)
  by_cases i : Flt.mag a.toNat = Flt.infR
  · rw [i]; decide
  · have hl : Flt.mag a.toNat < Flt.infR := by omega
    rw [Flt.order_fin _ _ (by rw [hm]; exact hl) (by decide)]
    unfold Flt.sv
    rw [hg, hG, hm, hM]
    have : ¬ Flt.V 9218868437227405311 < Flt.V (Flt.mag a.toNat) := by rw [Flt.V_lt_iff]; omega
    simp only [i, decide_false]
    simp only [compare, compareOfLessAndEq, Bool.false_eq_true, if_false]
    split
    · rfl
    · rename_i hlt
      rw [if_pos (by omega)]; rfl

theorem kind_c1 {a : Int} (h : (FloatKind.f64.format.order a.toNat a.toNat != some .eq) = true) : (3 : Int) = iKind a := by
  have h := of_decide_eq_true (ord_nan _ _ h)
  unfold iKind Flt.kind; rw [if_pos h]; rfl
theorem kind_c2 {a : Int} (ha : U64 a) (h : (FloatKind.f64.format.order a.toNat a.toNat != some .eq) = false)
    (h1 : (FloatKind.f64.format.order (bits BinOp.andNot IntKind.u64 (max a 0) 9223372036854775808).toNat 9218868437227405311 == some Ordering.gt) = true) : (2 : Int) = iKind a := by
  have h := of_decide_eq_false (ord_nan _ _ h)
  have h1 := of_decide_eq_true (ord_big ha h _ h1)
  unfold iKind Flt.kind; rw [if_neg h, if_pos h1]; rfl
theorem kind_c3 {a : Int} (ha : U64 a) (h : (FloatKind.f64.format.order a.toNat a.toNat != some .eq) = false)
    (h1 : (FloatKind.f64.format.order (bits BinOp.andNot IntKind.u64 (max a 0) 9223372036854775808).toNat 9218868437227405311 == some Ordering.gt) = false)
    (h2 : (FloatKind.f64.format.order a.toNat 0 == some .eq) = true) : (0 : Int) = iKind a := by
  have h := of_decide_eq_false (ord_nan _ _ h)
  have h1 := of_decide_eq_false (ord_big ha h _ h1)
  have h2 := of_decide_eq_true (ord_zero _ _ h2)
  unfold iKind Flt.kind; rw [if_neg h, if_neg h1, if_pos h2]; rfl
theorem kind_c4 {a : Int} (ha : U64 a) (h : (FloatKind.f64.format.order a.toNat a.toNat != some .eq) = false)
    (h1 : (FloatKind.f64.format.order (bits BinOp.andNot IntKind.u64 (max a 0) 9223372036854775808).toNat 9218868437227405311 == some Ordering.gt) = false)
    (h2 : (FloatKind.f64.format.order a.toNat 0 == some .eq) = false) : (1 : Int) = iKind a := by
  have h := of_decide_eq_false (ord_nan _ _ h)
  have h1 := of_decide_eq_false (ord_big ha h _ h1)
  have h2 := of_decide_eq_false (ord_zero _ _ h2)
  unfold iKind Flt.kind; rw [if_neg h, if_neg h1, if_neg h2]; rfl


theorem rank_c1 {a : Int} (ha : U64 a) (h : (bits BinOp.and IntKind.u64 (iCanon a) 9223372036854775808 == 0) = true) : bits BinOp.or IntKind.u64 (iCanon a) 9223372036854775808 = iRank a := by
  have hc := u64_canon ha
  unfold U64 at hc
  rw [Bits.b_and_top _ hc.1 hc.2] at h
  have hl : iCanon a < 9223372036854775808 := by
    by_cases g : iCanon a < 9223372036854775808
    · exact g
    · rw [if_neg g] at h; simp at h
  rw [Bits.b_or_top _ hc.1 hl]
  have e2 : Flt.sgnW = 9223372036854775808 := rfl
  unfold iRank Flt.rank
  unfold iCanon at hl ⊢
  rw [if_pos (by omega)]; omega
theorem rank_c2 {a : Int} (ha : U64 a) (h : (bits BinOp.and IntKind.u64 (iCanon a) 9223372036854775808 == 0) = false) : bits BinOp.xor IntKind.u64 IntKind.u64.max (iCanon a) = iRank a := by
  have hc := u64_canon ha
  unfold U64 at hc
  rw [Bits.b_and_top _ hc.1 hc.2] at h
  have hl : ¬ iCanon a < 9223372036854775808 := by
    intro g
    rw [if_pos g] at h; simp at h
  rw [Bits.b_xor_max _ hc.1 hc.2]
  have e2 : Flt.sgnW = 9223372036854775808 := rfl
  have e3 : Flt.maxW = 18446744073709551616 := rfl
  unfold iRank Flt.rank
  unfold iCanon at hl hc ⊢
  rw [if_neg (by omega)]; omega

theorem rank_any (a : Int) (ha : U64 a) (w : World) : Calls Tryd.prog 36 #[.int .u64 a] w fun e w' => e = .returned (.int .u64 (iRank a)) ∧ w = w' := by
  go_enter Tryd.func36, Tryd.ntmps36
  go_wp2_with (go_at_call 38; refine (canon_any _ ha _).mono ?_; rintro e w' ⟨rfl, rfl⟩)
  · go_ret; exact ⟨ret_int (rank_c1 ha ‹_›), rfl⟩
  · go_ret; exact ⟨ret_int (rank_c2 ha ‹_›), rfl⟩

theorem less_any (a b : Int) (ha : U64 a) (hb : U64 b) (w : World) : Calls Tryd.prog 39 #[.int .u64 a, .int .u64 b] w fun e w' => e = .returned (.bool (bLess a b)) ∧ w = w' := by
  go_enter Tryd.func39, Tryd.ntmps39
  go_wp2_with fail
  refine (rank_any a ha _).mono ?_
  rintro e w' ⟨rfl, rfl⟩
  go_wp2_with fail
  refine (rank_any b hb _).mono ?_
  rintro e w' ⟨rfl, rfl⟩
  go_wp2_with fail
  go_ret; exact ⟨rfl, rfl⟩

end Go.Proofs.YtlcpcgdecodjfaaDoor
namespace Go.Proofs.YtlcpcgdecodjfaaDoor
open Go.RowKit
set_option linter.unusedVariables false
set_option linter.unusedSimpArgs false

theorem back_lt (r : Nat) (h : r < Flt.maxW) : Flt.back r < Flt.maxW := by
  have : Flt.maxW = 18446744073709551616 := rfl
  have : Flt.sgnW = 9223372036854775808 := rfl
  unfold Flt.back
  split <;> omega
theorem u64_back {a : Int} (h : U64 a) : U64 (iBack a) := by
  have h1 := back_lt _ (u64_nat h)
  have : Flt.maxW = 18446744073709551616 := rfl
  unfold U64 iBack; omega
theorem word_lt (r : Nat) (h : r < Flt.maxW) : Flt.word r < Flt.maxW := by
  unfold Flt.word
  split
  · exact back_lt r h
  · decide
theorem u64_word {a : Int} (h : U64 a) : U64 (iWord a) := by
  have h1 := word_lt _ (u64_nat h)
  have : Flt.maxW = 18446744073709551616 := rfl
  unfold U64 iWord; omega

theorem back_c1 {a : Int} (ha : U64 a) (h : a < 9223372036854775808) : bits BinOp.xor IntKind.u64 IntKind.u64.max a = iBack a := by
  unfold U64 at ha
  rw [Bits.b_xor_max _ ha.1 ha.2]
  have : Flt.maxW = 18446744073709551616 := rfl
  have : Flt.sgnW = 9223372036854775808 := rfl
  unfold iBack Flt.back
  rw [if_pos (by omega)]; omega
theorem back_c2 {a : Int} (ha : U64 a) (h : ¬ a < 9223372036854775808) : bits BinOp.andNot IntKind.u64 a 9223372036854775808 = iBack a := by
  unfold U64 at ha
  rw [Bits.b_not_top _ ha.1 ha.2]
  have : Flt.maxW = 18446744073709551616 := rfl
  have : Flt.sgnW = 9223372036854775808 := rfl
  unfold iBack Flt.back
  rw [if_neg (by omega)]; omega
theorem top_r1 {a : Int} (ha : U64 a) (h : (bits BinOp.and IntKind.u64 a 9223372036854775808 == 0) = true) : a < 9223372036854775808 := by
  unfold U64 at ha
  rw [Bits.b_and_top _ ha.1 ha.2] at h
  by_cases g : a < 9223372036854775808
  · exact g
  · rw [if_neg g] at h; simp at h
theorem top_r2 {a : Int} (ha : U64 a) (h : (bits BinOp.and IntKind.u64 a 9223372036854775808 == 0) = false) : ¬ a < 9223372036854775808 := by
  unfold U64 at ha
  rw [Bits.b_and_top _ ha.1 ha.2] at h
  intro g
  rw [if_pos g] at h; simp at h
theorem ok_c {a : Int} (ha : U64 a) (h : iCanon (iBack a) = iBack a) (h2 : (iRank (iBack a) == a) = true) : bWordOk a = true := by
  unfold U64 at ha
  unfold bWordOk Flt.wordOk
  simp only [beq_iff_eq] at h2
  unfold iCanon iRank iBack at *
  simp only [Int.toNat_natCast] at h h2
  refine decide_eq_true ⟨by omega, by omega⟩
theorem notok_c1 {a : Int} (h : ¬ iCanon (iBack a) = iBack a) : bWordOk a = false := by
  unfold bWordOk Flt.wordOk
  unfold iCanon iBack at *
  simp only [Int.toNat_natCast] at h
  refine decide_eq_false (fun g => h (by omega))
theorem notok_c2 {a : Int} (ha : U64 a) (h : (iRank (iBack a) == a) = false) : bWordOk a = false := by
  unfold U64 at ha
  unfold bWordOk Flt.wordOk
  simp only [beq_eq_false_iff_ne] at h
  unfold iRank iBack at *
  simp only [Int.toNat_natCast] at h
  refine decide_eq_false (fun g => h (by omega))
theorem word_yes {a : Int} (h : bWordOk a = true) : iBack a = iWord a := by
  unfold bWordOk at h; unfold iBack iWord Flt.word; rw [if_pos h]
theorem word_no {a : Int} (h : bWordOk a = false) : 0 = iWord a := by
  unfold bWordOk at h; unfold iWord Flt.word; rw [h]; rfl

theorem word_any (a : Int) (ha : U64 a) (w : World) : Calls Tryd.prog 100 #[.int .u64 a] w fun e w' => e = .returned (.tuple #[.int .u64 (iWord a), .bool (bWordOk a)]) ∧ w = w' := by
  have hb := u64_back ha
  go_enter Tryd.func100, Tryd.ntmps100
  go_wp2_with fail
  · rw [back_c1 ha (top_r1 ha ‹_›)]
    refine (canon_any _ hb _).mono ?_
    rintro e w' ⟨rfl, rfl⟩
    go_wp2_with fail
    · refine (rank_any _ hb _).mono ?_
      rintro e w' ⟨rfl, rfl⟩
      go_wp2_with fail
      · go_ret2; exact ⟨ret_int_bool (word_yes (ok_c ha ‹_› ‹_›)) (ok_c ha ‹_› ‹_›).symm, rfl⟩
      · go_ret2; exact ⟨ret_int_bool (word_no (notok_c2 ha ‹_›)) (notok_c2 ha ‹_›).symm, rfl⟩
    · go_ret2; exact ⟨ret_int_bool (word_no (notok_c1 ‹_›)) (notok_c1 ‹_›).symm, rfl⟩
  · rw [back_c2 ha (top_r2 ha ‹_›)]
    refine (canon_any _ hb _).mono ?_
    rintro e w' ⟨rfl, rfl⟩
    go_wp2_with fail
    · refine (rank_any _ hb _).mono ?_
      rintro e w' ⟨rfl, rfl⟩
      go_wp2_with fail
      · go_ret2; exact ⟨ret_int_bool (word_yes (ok_c ha ‹_› ‹_›)) (ok_c ha ‹_› ‹_›).symm, rfl⟩
      · go_ret2; exact ⟨ret_int_bool (word_no (notok_c2 ha ‹_›)) (notok_c2 ha ‹_›).symm, rfl⟩
    · go_ret2; exact ⟨ret_int_bool (word_no (notok_c1 ‹_›)) (notok_c1 ‹_›).symm, rfl⟩

/-! Ranks and back. -/
theorem canon_canon (w : Nat) : Flt.canon (Flt.canon w) = Flt.canon w := by
  by_cases h : Flt.infR < Flt.mag w
  · have : Flt.canon w = Flt.nanW := by unfold Flt.canon; rw [if_pos h]
    rw [this]; decide
  · by_cases h2 : Flt.mag w = 0
    · have : Flt.canon w = 0 := by unfold Flt.canon; rw [if_neg h, if_pos h2]
      rw [this]; decide
    · have : Flt.canon w = w := by unfold Flt.canon; rw [if_neg h, if_neg h2]
      rw [this, this]
theorem rank_canon (w : Nat) : Flt.rank (Flt.canon w) = Flt.rank w := by
  unfold Flt.rank; rw [canon_canon]
theorem back_rank (w : Nat) (h : w < Flt.maxW) : Flt.back (Flt.rank w) = Flt.canon w := by
  have := canon_lt w h
  have : Flt.maxW = 18446744073709551616 := rfl
  have : Flt.sgnW = 9223372036854775808 := rfl
  unfold Flt.rank
  split
  · unfold Flt.back; rw [if_neg (by omega)]; omega
  · unfold Flt.back; rw [if_pos (by omega)]; omega
theorem wordOk_rank (w : Nat) (h : w < Flt.maxW) : Flt.wordOk (Flt.rank w) = true := by
  unfold Flt.wordOk
  rw [back_rank w h, canon_canon, rank_canon]; simp
theorem word_rank (w : Nat) (h : w < Flt.maxW) : Flt.word (Flt.rank w) = Flt.canon w := by
  unfold Flt.word
  rw [wordOk_rank w h, back_rank w h]; rfl

theorem top_yes {a b : Int} (hb : U64 b) (h : iRank a < iRank b) : iWord (iRank b) = iTop a b := by
  unfold iRank at h
  unfold iWord iTop iRank Flt.top
  rw [if_pos (by omega), Int.toNat_natCast, word_rank _ (u64_nat hb)]
theorem top_no {a b : Int} (ha : U64 a) (h : iRank b ≤ iRank a) : iWord (iRank a) = iTop a b := by
  unfold iRank at h
  unfold iWord iTop iRank Flt.top
  rw [if_neg (by omega), Int.toNat_natCast, word_rank _ (u64_nat ha)]

theorem max_any (a b : Int) (ha : U64 a) (hb : U64 b) (w : World) : Calls Tryd.prog 79 #[.int .u64 a, .int .u64 b] w fun e w' => e = .returned (.int .u64 (iTop a b)) ∧ w = w' := by
  have hra := u64_rank ha
  have hrb := u64_rank hb
  go_enter Tryd.func79, Tryd.ntmps79
  go_wp2_with fail
  refine (rank_any a ha _).mono ?_
  rintro e w' ⟨rfl, rfl⟩
  go_wp2_with fail
  refine (rank_any b hb _).mono ?_
  rintro e w' ⟨rfl, rfl⟩
  go_wp2_with fail
  · refine (word_any _ hrb _).mono ?_
    rintro e w' ⟨rfl, rfl⟩
    go_wp2_with fail
    go_ret; exact ⟨ret_int (top_yes hb ‹_›), rfl⟩
  · refine (word_any _ hra _).mono ?_
    rintro e w' ⟨rfl, rfl⟩
    go_wp2_with fail
    go_ret; exact ⟨ret_int (top_no ha ‹_›), rfl⟩

/-! Sums. -/
theorem add_some {P : Program} (t : TypeId) (x y r : Nat) (h : Ieee.double.add x y = some r) (w : World) : (binOp .add t (.float .f64 x) (.float .f64 y)).run P w = .ok (.float .f64 r) w :=
  run_float_arith w .add t .f64 x y r h
theorem add_none {P : Program} (t : TypeId) (x y : Nat) (h : Ieee.double.add x y = none) (w : World) :
    ∃ r, r < 18446744073709551616 ∧ Flt.infR < Flt.mag r ∧ (binOp .add t (.float .f64 x) (.float .f64 y)).run P w = .ok (.float .f64 r) w.drew := by
  have h' : FloatKind.f64.format.add x y = none := h
  refine ⟨(Question.nanBits .f64 x y).cut (w.tape w.drawn (.nanBits .f64 x y)), ?_, ?_, ?_⟩
  · simp only [Question.cut]; omega
  · simp only [Question.cut]
    unfold Flt.mag
    have e1 : Flt.infR = 9218868437227405312 := rfl
    have e2 : Flt.sgnW = 9223372036854775808 := rfl
    rw [e1, e2]
    generalize w.tape w.drawn (.nanBits .f64 x y) = t
    have : t % 2 = 0 ∨ t % 2 = 1 := by omega
    rcases this with g | g <;> rw [g] <;> omega
  · simp [binOp, Op.floatArith, h', Question.forced]

theorem sum_c1 {a b : Int} {r : Nat} (ha : U64 a) (hb : U64 b) (h : Ieee.double.add a.toNat b.toNat = some r) : iCanon r = iSum a b := by
  unfold iCanon iSum
  rw [Int.toNat_natCast, Flt.sum_of_add _ _ _ (u64_nat ha) (u64_nat hb) h]
theorem sum_c2 {a b : Int} {r : Nat} (hr : Flt.infR < Flt.mag r) (h : Ieee.double.add a.toNat b.toNat = none) : iCanon r = iSum a b := by
  unfold iCanon iSum
  rw [Int.toNat_natCast, Flt.sum_of_none _ _ h]
  unfold Flt.canon; rw [if_pos hr]
theorem u64_nat' {r : Nat} (h : r < 18446744073709551616) : U64 r := by unfold U64; omega

theorem sum_any (a b : Int) (ha : U64 a) (hb : U64 b) (w : World) : Calls Tryd.prog 80 #[.int .u64 a, .int .u64 b] w fun e w' => e = .returned (.int .u64 (iSum a b)) ∧ ∃ n, w' = w.drewN n := by
  cases hadd : Ieee.double.add a.toNat b.toNat with
  | some r =>
    have hr : r < 18446744073709551616 := Ieee.Format.add_lt _ hadd
    have hrun := fun w => add_some (P := Tryd.prog) 119 _ _ _ hadd w
    have hx := sum_c1 ha hb hadd
    have H := (show Hid (iCanon r = iSum a b) from hx)
    clear hx hadd
    have hu := u64_nat' hr
    go_enter Tryd.func80, Tryd.ntmps80
    go_wp2_with (go_at_call 38; refine (canon_any _ hu _).mono ?_; rintro e w' ⟨rfl, rfl⟩)
    go_ret; exact ⟨ret_int H.out, 0, rfl⟩
  | none =>
    obtain ⟨r, hr, hm, hrun⟩ := add_none (P := Tryd.prog) 119 _ _ hadd w
    have hx := sum_c2 hm hadd
    have H := (show Hid (iCanon r = iSum a b) from hx)
    clear hx hadd
    have hu := u64_nat' hr
    go_enter Tryd.func80, Tryd.ntmps80
    go_wp2_with (go_at_call 38; refine (canon_any _ hu _).mono ?_; rintro e w' ⟨rfl, rfl⟩)
    go_ret; exact ⟨ret_int H.out, 1, rfl⟩

end Go.Proofs.YtlcpcgdecodjfaaDoor
namespace Go.Proofs.YtlcpcgdecodjfaaDoor.Flt
set_option linter.unusedVariables false
set_option linter.unusedSimpArgs false

/-- n / 2^d, its last bit set if anything is lost. -/
def RO (n d : Nat) : Nat := if n % 2 ^ d = 0 then n / 2 ^ d else n / 2 ^ d / 2 * 2 + 1

theorem RO_zero (n : Nat) : RO n 0 = n := by unfold RO; simp [Nat.mod_one]
theorem RO_one (n : Nat) : RO n 1 = if n % 2 = 0 then n / 2 else n / 2 / 2 * 2 + 1 := by unfold RO; rfl
theorem mod_succ_zero (n d : Nat) : n % 2 ^ (d + 1) = 0 ↔ n % 2 ^ d = 0 ∧ n / 2 ^ d % 2 = 0 := by
  have h1 : n % 2 ^ (d + 1) = n % 2 ^ d + 2 ^ d * (n / 2 ^ d % 2) := by rw [Nat.pow_succ, Nat.mod_mul]
  have := pow_pos d
  rw [h1]
  constructor
  · intro h
    have : 2 ^ d * (n / 2 ^ d % 2) = 0 := by omega
    rcases Nat.mul_eq_zero.1 this with g | g <;> omega
  · intro ⟨g1, g2⟩; rw [g1, g2]; simp
theorem div_succ (n d : Nat) : n / 2 ^ (d + 1) = n / 2 ^ d / 2 := by rw [Nat.pow_succ, Nat.div_div_eq_div_mul]

theorem RO_RO (n d : Nat) : RO (RO n d) 1 = RO n (d + 1) := by
  rw [RO_one]
  unfold RO
  simp only [mod_succ_zero, div_succ]
  by_cases h : n % 2 ^ d = 0
  · simp only [h, if_true, true_and]
  · simp only [h, if_false, false_and]
    have e : (n / 2 ^ d / 2 * 2 + 1) % 2 ≠ 0 := by omega
    simp only [e, if_false]; omega

theorem RO_stays {n d : Nat} (h : RO n d ≤ 1) (k : Nat) : RO n (d + k) = RO n d := by
  induction k with
  | zero => rfl
  | succ k ih =>
    rw [← Nat.add_assoc, ← RO_RO, ih, RO_one]
    split <;> omega

/-- RO lies at n / 2^d, or one above. -/
theorem RO_lt (n d m : Nat) : RO n d < 2 * m ↔ n / 2 ^ d < 2 * m := by
  unfold RO; split <;> omega
theorem RO_le (n d : Nat) : n / 2 ^ d ≤ RO n d ∧ RO n d ≤ n / 2 ^ d + 1 := by
  unfold RO; split <;> omega
theorem RO_exact (n d : Nat) : RO (n * 2 ^ d) d = n := by
  unfold RO
  rw [Nat.mul_mod_left, if_pos rfl, Nat.mul_div_cancel _ (pow_pos d)]

theorem RO_add (x y d : Nat) (hx : x % 2 = 0) : x + RO y d = RO (x * 2 ^ d + y) d := by
  unfold RO
  rw [Nat.mul_add_mod', Nat.add_comm (x * 2 ^ d) y, Nat.add_mul_div_right _ _ (pow_pos d)]
  split <;> omega

theorem RO_sub (x y d : Nat) (hx : x % 2 = 0) (h : y ≤ x * 2 ^ d) : x - RO y d = RO (x * 2 ^ d - y) d := by
  have hp := pow_pos d
  have hdm := Nat.div_add_mod y (2 ^ d)
  have hm : y % 2 ^ d < 2 ^ d := Nat.mod_lt _ hp
  generalize hq : y / 2 ^ d = q at *
  generalize hr : y % 2 ^ d = r at *
  by_cases h0 : r = 0
  · subst h0
    have e : x * 2 ^ d - y = (x - q) * 2 ^ d := by rw [Nat.sub_mul, ← hdm]; rw [Nat.mul_comm (2 ^ d) q]; rfl
    rw [e, RO_exact]
    unfold RO; rw [hr, hq]; rfl
  · have hq1 : q < x := by
      refine Nat.lt_of_mul_lt_mul_left (a := 2 ^ d) ?_
      have := Nat.mul_comm x (2 ^ d)
      omega
    have e : x * 2 ^ d - y = (x - q - 1) * 2 ^ d + (2 ^ d - r) := by
      have e1 : x * 2 ^ d = (x - q - 1) * 2 ^ d + q * 2 ^ d + 2 ^ d := by
        rw [← Nat.add_mul, ← Nat.succ_mul]; congr 1; omega
      have := Nat.mul_comm q (2 ^ d)
      omega
    rw [e]
    unfold RO
    rw [hr, hq, Nat.mul_add_mod', Nat.mod_eq_of_lt (show 2 ^ d - r < 2 ^ d by omega), if_neg h0, if_neg (by omega), Nat.add_comm ((x - q - 1) * 2 ^ d), Nat.add_mul_div_right _ _ hp, Nat.div_eq_of_lt (show 2 ^ d - r < 2 ^ d by omega)]
    omega

/-- Rounding at two places or more behind RO is rounding. -/
theorem cut_RO (n d k : Nat) (hk : 2 ≤ k) : cut (RO n d) k = cut n (d + k) := by
  by_cases h : n % 2 ^ d = 0
  · have e : n = n / 2 ^ d * 2 ^ d := by have := Nat.div_add_mod n (2 ^ d); rw [Nat.mul_comm]; omega
    have : cut n (d + k) = cut (n / 2 ^ d) k := by
      rw [e, Nat.add_comm d k, cut_scale, ← e]
    rw [this]; unfold RO; rw [if_pos h]
  · have hp := pow_pos d
    have hf : n % 2 ^ d < 2 ^ d := Nat.mod_lt _ hp
    obtain ⟨j, rfl⟩ : ∃ j, k = j + 2 := ⟨k - 2, by omega⟩
    have hj := pow_pos j
    have hk4 : 2 ^ (j + 2) = 4 * 2 ^ j := by rw [Nat.pow_add, Nat.mul_comm]
    have hdiv : n / 2 ^ (d + (j + 2)) = n / 2 ^ d / 2 ^ (j + 2) := by rw [Nat.pow_add, Nat.div_div_eq_div_mul]
    have hmod : n % 2 ^ (d + (j + 2)) = n % 2 ^ d + 2 ^ d * (n / 2 ^ d % 2 ^ (j + 2)) := by rw [Nat.pow_add, Nat.mod_mul]
    have hpow : 2 ^ (d + (j + 2)) = 2 ^ d * (4 * 2 ^ j) := by rw [Nat.pow_add, hk4]
    unfold cut up RO
    rw [if_neg h, hdiv, hmod, hpow, hk4]
    generalize n / 2 ^ d = q at *
    generalize n % 2 ^ d = f at *
    generalize 2 ^ j = g at *
    generalize 2 ^ d = D at *
    have hqd := Nat.div_add_mod q (4 * g)
    have hql : q % (4 * g) < 4 * g := Nat.mod_lt _ (by omega)
    generalize ht : q % (4 * g) = t at *
    generalize hb : q / (4 * g) = b at *
    have hodd : q / 2 * 2 + 1 = 4 * g * b + (t / 2 * 2 + 1) := by
      have : 4 * g * b = 2 * (2 * (g * b)) := by rw [Nat.mul_assoc]; omega
      omega
    have ht1 : t / 2 * 2 + 1 < 4 * g := by omega
    rw [hodd, Nat.mul_add_mod, Nat.mod_eq_of_lt ht1, Nat.mul_add_div (by omega), Nat.div_eq_of_lt ht1, Nat.add_zero]
    congr 1
    have A : (4 * g < 2 * (t / 2 * 2 + 1)) ↔ 2 * g ≤ t := by omega
    have B1 : ¬ (4 * g = 2 * (t / 2 * 2 + 1)) := by omega
    have C : (D * (4 * g) < 2 * (f + D * t)) ↔ 2 * g ≤ t := by
      constructor
      · intro hh
        refine Nat.le_of_lt_succ (Nat.lt_of_mul_lt_mul_left (a := D) ?_)
        have e1 : D * (4 * g) = 2 * (D * (2 * g)) := by rw [Nat.mul_left_comm 2 D (2 * g), ← Nat.mul_assoc 2 2 g]
        have e2 : D * (t + 1) = D * t + D := by rw [Nat.mul_add, Nat.mul_one]
        have e3 : D * t.succ = D * t + D := e2
        omega
      · intro hh
        have := Nat.mul_le_mul_left D hh
        have e1 : D * (4 * g) = 2 * (D * (2 * g)) := by rw [Nat.mul_left_comm 2 D (2 * g), ← Nat.mul_assoc 2 2 g]
        omega
    have E : ¬ (D * (4 * g) = 2 * (f + D * t)) := by
      intro hh
      have e1 : D * (4 * g) = 2 * (D * (2 * g)) := by rw [Nat.mul_left_comm 2 D (2 * g), ← Nat.mul_assoc 2 2 g]
      have e2 : D * (2 * g) = f + D * t := by omega
      rcases Nat.lt_or_ge t (2 * g) with h1 | h1
      · have := Nat.mul_le_mul_left D (Nat.succ_le_of_lt h1)
        have e3 : D * t.succ = D * t + D := by rw [Nat.succ_eq_add_one, Nat.mul_add, Nat.mul_one]
        omega
      · have := Nat.mul_le_mul_left D h1
        omega
    simp only [A, B1, C, E, false_and, or_false]

/-! ### What the document's 'made' makes -/
def norm1 (e m : Nat) : Nat × Nat := if 72057594037927936 ≤ m then (e + 1, RO m 1) else (e, m)
def norm2 : Nat → Nat → Nat × Nat
  | 0, m => (0, m)
  | 1, m => (1, m)
  | e + 2, m => if m < 36028797018963968 then norm2 (e + 1) (m * 2) else (e + 2, m)
def fin (e m : Nat) : Nat := min ((e - 1) * B + cut m 3) infR
def made (s e m : Nat) : Nat := if m = 0 then 0 else s * sgnW + fin (norm2 (norm1 e m).1 (norm1 e m).2).1 (norm2 (norm1 e m).1 (norm1 e m).2).2

/-- The last step, where nothing is to be shifted any more. -/
theorem fin_RN (N e m : Nat) (hc : cut m 3 = cut N (e - 1)) (hl : N.log2 - 52 = e - 1) : fin e m = RN N := by
  unfold fin RN; rw [hc, hl]

theorem log8 (N : Nat) (h : N ≠ 0) : (8 * N).log2 = N.log2 + 3 := by
  have := log2_mul_pow N 3 h
  rw [Nat.mul_comm]; exact this

theorem norm2_exact (N : Nat) : ∀ (e m : Nat), 1 ≤ e → m * 2 ^ (e - 1) = 8 * N → m < 72057594037927936 → m ≠ 0 → fin (norm2 e m).1 (norm2 e m).2 = RN N := by
  intro e
  induction e with
  | zero => intro m h; omega
  | succ e ih =>
    intro m _ hN hlt hm0
    rw [Nat.add_sub_cancel] at hN
    have hN0 : N ≠ 0 := by
      intro h; subst h
      have := pow_pos e
      rcases Nat.mul_eq_zero.1 hN with g | g <;> omega
    have final : (e = 0 ∨ 36028797018963968 ≤ m) → fin (e + 1) m = RN N := by
      intro hcase
      refine fin_RN N (e + 1) m ?_ ?_
      · rw [Nat.add_sub_cancel]
        have a1 := cut_scale m 3 e
        have a2 := cut_scale N e 3
        rw [hN, Nat.add_comm 3 e] at a1
        rw [Nat.mul_comm N] at a2
        rw [← a1, ← a2]
      · rw [Nat.add_sub_cancel]
        have l1 := log8 N hN0
        rw [← hN, log2_mul_pow m e hm0] at l1
        rcases hcase with h | h
        · subst h
          have := (Nat.log2_lt hm0 (k := 56)).2 (by omega)
          omega
        · have : m.log2 = 55 := (Nat.log2_eq_iff hm0).2 ⟨by omega, by omega⟩
          omega
    match e, ih, final, hN with
    | 0, _, final, _ => exact final (Or.inl rfl)
    | e + 1, ih, final, hN =>
      unfold norm2
      by_cases hb : m < 36028797018963968
      · rw [if_pos hb]
        refine ih (m * 2) (by omega) ?_ (by omega) (by omega)
        rw [Nat.add_sub_cancel, ← hN, Nat.pow_succ, Nat.mul_assoc, Nat.mul_comm 2]
      · rw [if_neg hb]; exact final (Or.inr (by omega))

theorem log_RO (n d j : Nat) (h1 : 2 ^ (j + 1) ≤ RO n d) (h2 : RO n d < 2 ^ (j + 2)) : n ≠ 0 ∧ n.log2 = j + 1 + d := by
  have hp := pow_pos d
  have e1 : (2 : Nat) ^ (j + 1) = 2 * 2 ^ j := by rw [Nat.pow_succ, Nat.mul_comm]
  have e2 : (2 : Nat) ^ (j + 2) = 2 * 2 ^ (j + 1) := by rw [Nat.pow_succ, Nat.mul_comm]
  have g1 : ¬ n / 2 ^ d < 2 ^ (j + 1) := by rw [e1, ← RO_lt, ← e1]; omega
  have g2 : n / 2 ^ d < 2 ^ (j + 2) := by rw [e2, ← RO_lt, ← e2]; exact h2
  rw [Nat.div_lt_iff_lt_mul hp] at g1 g2
  have hn : n ≠ 0 := by
    intro h; subst h
    have := Nat.mul_pos (pow_pos (j + 1)) hp
    omega
  refine ⟨hn, (Nat.log2_eq_iff hn).2 ⟨?_, ?_⟩⟩
  · rw [Nat.pow_add]; omega
  · rw [show j + 1 + d + 1 = (j + 2) + d by omega, Nat.pow_add]; exact g2

theorem norm2_sticky (N n d e f : Nat) (he : e = d + f) (hf : 1 ≤ f) (he2 : 2 ≤ e) (hN : 8 * N = n * 2 ^ (f - 1))
    (h1 : 18014398509481984 ≤ RO n d) (h2 : RO n d < 72057594037927936) : fin (norm2 e (RO n d)).1 (norm2 e (RO n d)).2 = RN N := by
  have hcut : ∀ k, k ≤ 1 → cut (RO n d) (3 - k) = cut N (e - 1 - k) := by
    intro k hk
    rw [cut_RO n d (3 - k) (by omega)]
    have a1 := cut_scale n (d + (3 - k)) (f - 1)
    have a2 := cut_scale N (e - 1 - k) 3
    rw [← a1, ← a2, ← hN, Nat.mul_comm N]
    congr 1; omega
  have hlog : ∀ j, 2 ^ (j + 1) ≤ RO n d → RO n d < 2 ^ (j + 2) → N.log2 + 3 = j + d + f := by
    intro j g1 g2
    obtain ⟨hn, hl⟩ := log_RO n d j g1 g2
    have hN0 : N ≠ 0 := by
      intro h; subst h
      have := pow_pos (f - 1)
      rcases Nat.mul_eq_zero.1 hN.symm with g | g <;> omega
    have l1 := log8 N hN0
    rw [hN, log2_mul_pow n _ hn, hl] at l1
    omega
  obtain ⟨i, rfl⟩ : ∃ i, e = i + 2 := ⟨e - 2, by omega⟩
  unfold norm2
  by_cases hb : RO n d < 36028797018963968
  · rw [if_pos hb]
    have hl := hlog 53 (by omega) (by omega)
    have hs : norm2 (i + 1) (RO n d * 2) = (i + 1, RO n d * 2) := by
      match i with
      | 0 => rfl
      | i + 1 => unfold norm2; rw [if_neg (by omega)]
    rw [hs]
    refine fin_RN N _ _ ?_ (by show N.log2 - 52 = i + 1 - 1; omega)
    show cut (RO n d * 2) 3 = cut N (i + 1 - 1)
    have a := hcut 1 (by omega)
    have b := cut_scale (RO n d) 2 1
    rw [show 3 - 1 = 2 by rfl, ← b] at a
    exact a
  · rw [if_neg hb]
    have hl := hlog 54 (by omega) (by omega)
    have a : cut (RO n d) 3 = cut N (i + 2 - 1) := by
      have := hcut 0 (by omega)
      rw [Nat.sub_zero, Nat.sub_zero] at this
      exact this
    dsimp only
    have b : N.log2 - 52 = i + 2 - 1 := by clear a hcut; omega
    unfold fin RN
    rw [a, b]

/-- What 'made' makes of n / 2^d eighths at exponent d + f: the rung nearest to what that is. -/
theorem made_RN (s N n d f : Nat) (hf : 1 ≤ f) (hN : 8 * N = n * 2 ^ (f - 1)) (h2 : RO n d < 144115188075855872)
    (hx : n % 2 ^ d = 0 ∨ (2 ≤ d + f ∧ 18014398509481984 ≤ RO n d)) : made s (d + f) (RO n d) = if N = 0 then 0 else s * sgnW + RN N := by
  unfold made
  by_cases h0 : N = 0
  · subst h0
    have hn : n = 0 := by
      have := pow_pos (f - 1)
      rcases Nat.mul_eq_zero.1 hN.symm with g | g <;> omega
    subst hn
    have : RO 0 d = 0 := by unfold RO; simp
    rw [if_pos this, if_pos rfl]
  · have hr : RO n d ≠ 0 := by
      intro h
      rcases hx with hx | hx
      · have hn : n = 0 := by
          have := Nat.div_add_mod n (2 ^ d)
          unfold RO at h; rw [if_pos hx] at h; rw [h, hx] at this; simp at this; omega
        subst hn; simp at hN; omega
      · omega
    rw [if_neg hr, if_neg h0]
    refine congrArg (s * sgnW + ·) ?_
    unfold norm1
    by_cases hb : 72057594037927936 ≤ RO n d
    · rw [if_pos hb]
      simp only []
      have hge : 36028797018963968 ≤ RO (RO n d) 1 := by
        have := (RO_le (RO n d) 1).1
        omega
      have hlt : RO (RO n d) 1 < 72057594037927936 := by
        have := (RO_lt (RO n d) 1 36028797018963968).2 (by omega)
        omega
      rw [RO_RO] at hge hlt ⊢
      exact norm2_sticky N n (d + 1) (d + f + 1) f (by omega) hf (by omega) hN (by omega) hlt
    · rw [if_neg hb]
      simp only []
      rcases hx with hx | hx
      · refine norm2_exact N (d + f) (RO n d) (by omega) ?_ (by omega) hr
        have hn : n = RO n d * 2 ^ d := by
          have := Nat.div_add_mod n (2 ^ d)
          unfold RO; rw [if_pos hx, Nat.mul_comm]; omega
        rw [hN]
        have e1 : d + f - 1 = d + (f - 1) := by omega
        rw [e1, Nat.pow_add, ← Nat.mul_assoc, ← hn]
      · exact norm2_sticky N n d (d + f) f rfl hf hx.1 hN hx.2 (by omega)

/-! ### The document's sum is the sum -/
theorem even_of (x : Nat) : 8 * x % 2 = 0 := by omega

def expo (w : Nat) : Nat := w / B % 2048
def frac (w : Nat) : Nat := w % B
/-- exponent and fraction in eighths, as the document writes them -/
def wholeE (w : Nat) : Nat := if expo w = 0 then 1 else expo w
def wholeM (w : Nat) : Nat := if expo w = 0 then frac w * 8 else (frac w + B) * 8
def mant (w : Nat) : Nat := if expo w = 0 then frac w else frac w + B

theorem wholeM_eq (w : Nat) : wholeM w = 8 * mant w := by unfold wholeM mant; split <;> omega
theorem expo_mag (w : Nat) : expo w = mag w / B := by
  have h1 : sgnW = B * 2048 := by decide
  unfold expo mag
  rw [h1, Nat.mod_mul_right_div_self]
theorem frac_mag (w : Nat) : frac w = mag w % B := by
  have h1 : sgnW = B * 2048 := by decide
  unfold frac mag
  rw [h1, Nat.mod_mul_right_mod]
theorem V_mant (w : Nat) : V (mag w) = mant w * 2 ^ (wholeE w - 1) := by
  have hB : 0 < B := by decide
  unfold V mant wholeE
  rw [expo_mag, frac_mag]
  by_cases h : mag w < B
  · rw [if_pos h, if_pos (Nat.div_eq_of_lt h), if_pos (Nat.div_eq_of_lt h), Nat.mod_eq_of_lt h]; simp
  · have : 1 ≤ mag w / B := (Nat.le_div_iff_mul_le hB).2 (by omega)
    rw [if_neg h, if_neg (by omega), if_neg (by omega), Nat.add_comm]
theorem mant_lt (w : Nat) : mant w < 2 * B := by
  have hB : 0 < B := by decide
  have : frac w < B := Nat.mod_lt _ hB
  unfold mant; split <;> omega
theorem wholeE_pos (w : Nat) : 1 ≤ wholeE w := by unfold wholeE; split <;> omega
theorem mant_ge (w : Nat) (h : 2 ≤ wholeE w) : B ≤ mant w := by
  unfold wholeE at h; unfold mant
  split at h
  · omega
  · rw [if_neg (by assumption)]; omega
theorem wholeE_mono {a b : Nat} (h : mag b ≤ mag a) : wholeE b ≤ wholeE a := by
  have hB : 0 < B := by decide
  have := Nat.div_le_div_right (c := B) h
  unfold wholeE
  rw [expo_mag, expo_mag]
  split <;> split <;> omega

/-- The document's way to a sum of two whose signs are the same (plus) or not: of sizes that fall. -/
theorem made_add (s a b : Nat) (h : mag b ≤ mag a) :
    made s (wholeE a) (wholeM a + RO (wholeM b) (wholeE a - wholeE b)) = if V (mag a) + V (mag b) = 0 then 0 else s * sgnW + RN (V (mag a) + V (mag b)) := by
  have he := wholeE_mono h
  have hB : B = 4503599627370496 := rfl
  have ma := mant_lt a
  have mb := mant_lt b
  have pb := wholeE_pos b
  obtain ⟨d, hd⟩ : ∃ d, wholeE a = d + wholeE b := ⟨wholeE a - wholeE b, by omega⟩
  rw [wholeM_eq, wholeM_eq, show wholeE a - wholeE b = d by omega, RO_add _ _ _ (even_of _)]
  have hlt : RO (8 * mant a * 2 ^ d + 8 * mant b) d < 144115188075855872 := by
    rw [← RO_add _ _ _ (even_of _)]
    have := (RO_le (8 * mant b) d).2
    have : 8 * mant b / 2 ^ d ≤ 8 * mant b := Nat.div_le_self _ _
    omega
  rw [hd]
  refine made_RN s _ _ d (wholeE b) pb ?_ hlt ?_
  · rw [V_mant, V_mant, hd, show d + wholeE b - 1 = d + (wholeE b - 1) by omega, Nat.pow_add, ← Nat.mul_assoc, ← Nat.add_mul, ← Nat.mul_assoc, Nat.mul_add, ← Nat.mul_assoc]
  · by_cases h3 : d ≤ 3
    · left
      have e : 8 * mant a * 2 ^ d + 8 * mant b = (8 * mant a + mant b * 2 ^ (3 - d)) * 2 ^ d := by
        rw [Nat.add_mul, Nat.mul_assoc (mant b), ← Nat.pow_add, show 3 - d + d = 3 by omega, Nat.mul_comm (mant b)]
      rw [e, Nat.mul_mod_left]
    · right
      have := mant_ge a (by omega)
      refine ⟨by omega, ?_⟩
      rw [← RO_add _ _ _ (even_of _)]
      omega

theorem made_sub (s a b : Nat) (h : mag b ≤ mag a) :
    made s (wholeE a) (wholeM a - RO (wholeM b) (wholeE a - wholeE b)) = if V (mag a) - V (mag b) = 0 then 0 else s * sgnW + RN (V (mag a) - V (mag b)) := by
  have he := wholeE_mono h
  have hB : B = 4503599627370496 := rfl
  have ma := mant_lt a
  have mb := mant_lt b
  have pb := wholeE_pos b
  obtain ⟨d, hd⟩ : ∃ d, wholeE a = d + wholeE b := ⟨wholeE a - wholeE b, by omega⟩
  have hV : V (mag b) ≤ V (mag a) := by
    rcases Nat.lt_or_ge (mag b) (mag a) with g | g
    · exact Nat.le_of_lt (V_lt g)
    · rw [Nat.le_antisymm h g]; exact Nat.le_refl _
  have hle : 8 * mant b ≤ 8 * mant a * 2 ^ d := by
    rw [V_mant, V_mant, hd, show d + wholeE b - 1 = d + (wholeE b - 1) by omega, Nat.pow_add, ← Nat.mul_assoc] at hV
    have := Nat.le_of_mul_le_mul_right hV (pow_pos _)
    rw [Nat.mul_assoc]; omega
  rw [wholeM_eq, wholeM_eq, show wholeE a - wholeE b = d by omega, RO_sub _ _ _ (even_of _) hle]
  have hsub := RO_sub (8 * mant a) (8 * mant b) d (even_of _) hle
  have hlt : RO (8 * mant a * 2 ^ d - 8 * mant b) d < 144115188075855872 := by
    rw [← hsub]; omega
  rw [hd]
  refine made_RN s _ _ d (wholeE b) pb ?_ hlt ?_
  · rw [V_mant, V_mant, hd, show d + wholeE b - 1 = d + (wholeE b - 1) by omega, Nat.pow_add, ← Nat.mul_assoc, ← Nat.sub_mul, ← Nat.mul_assoc, Nat.mul_sub, ← Nat.mul_assoc]
  · by_cases h3 : d ≤ 3
    · left
      have e : 8 * mant a * 2 ^ d - 8 * mant b = (8 * mant a - mant b * 2 ^ (3 - d)) * 2 ^ d := by
        rw [Nat.sub_mul, Nat.mul_assoc (mant b), ← Nat.pow_add, show 3 - d + d = 3 by omega, Nat.mul_comm (mant b)]
      rw [e, Nat.mul_mod_left]
    · right
      have := mant_ge a (by omega)
      refine ⟨by omega, ?_⟩
      rw [← hsub]
      have r2 := (RO_le (8 * mant b) d).2
      have h16 : 16 ≤ 2 ^ d := by
        have : 2 ^ 4 ≤ 2 ^ d := Nat.pow_le_pow_right (by decide) (by omega)
        omega
      have : 8 * mant b / 2 ^ d ≤ 8 * mant b / 16 := Nat.div_le_div_left h16 (by decide)
      omega

end Go.Proofs.YtlcpcgdecodjfaaDoor.Flt
namespace Go.Proofs.YtlcpcgdecodjfaaDoor
open Go.RowKit
set_option linter.unusedVariables false
set_option linter.unusedSimpArgs false

theorem rparts_any (a : Int) (ha : U64 a) (w : World) : Calls Tryd.prog 97 #[.int .u64 a] w fun e w' => e = .returned (.tuple #[.int .i64 (a / 4503599627370496 % 2048), .int .u64 (a % 4503599627370496)]) ∧ w = w' := by
  obtain ⟨h0, h1⟩ := ha
  go_enter Tryd.func97, Tryd.ntmps97
  go_wp2
  go_ret2
  exact ⟨rfl, rfl⟩

theorem kind_of {a : Int} (ha : U64 a) : iKind a =
    if a / 4503599627370496 % 2048 = 2047 then (if a % 4503599627370496 = 0 then 2 else 3) else if a / 4503599627370496 % 2048 = 0 ∧ a % 4503599627370496 = 0 then 0 else 1 := by
  unfold U64 at ha
  have e1 : Flt.infR = 9218868437227405312 := rfl
  have e2 : Flt.sgnW = 9223372036854775808 := rfl
  unfold iKind Flt.kind Flt.mag
  rw [e1, e2]
  by_cases g1 : a / 4503599627370496 % 2048 = 2047
  · rw [if_pos g1]
    by_cases g2 : a % 4503599627370496 = 0
    · rw [if_pos g2, if_neg (by omega), if_pos (by omega)]; rfl
    · rw [if_neg g2, if_pos (by omega)]; rfl
  · rw [if_neg g1, if_neg (by omega), if_neg (by omega)]
    by_cases g3 : a / 4503599627370496 % 2048 = 0 ∧ a % 4503599627370496 = 0
    · rw [if_pos g3, if_pos (by omega)]; rfl
    · rw [if_neg g3, if_neg (by omega)]; rfl


theorem rkind_any (a : Int) (ha : U64 a) (w : World) : Calls Tryd.prog 62 #[.int .u64 a] w fun e w' => e = .returned (.int .i64 (iKind a)) ∧ w = w' := by
  have hk := kind_of ha
  have H := (show Hid _ from hk)
  clear hk
  go_enter Tryd.func62, Tryd.ntmps62
  go_wp2_with fail
  refine (rparts_any a ha _).mono ?_
  rintro e w' ⟨rfl, rfl⟩
  go_wp2_with fail
  · go_ret; exact ⟨ret_int (by rw [H.out, if_pos ‹_›, if_neg (bne_iff_ne.1 ‹_›)]), rfl⟩
  · go_ret; exact ⟨ret_int (by rw [H.out, if_pos ‹_›, if_pos (bne_false ‹_›)]), rfl⟩
  · go_ret; exact ⟨ret_int (by rw [H.out, if_neg ‹_›, if_pos ⟨‹_›, beq_iff_eq.1 ‹_›⟩]), rfl⟩
  · go_ret; exact ⟨ret_int (by rw [H.out, if_neg ‹_›, if_neg (fun g => beq_eq_false_iff_ne.1 ‹(a % 4503599627370496 == 0) = false› g.2)]), rfl⟩
  · go_ret; exact ⟨ret_int (by rw [H.out, if_neg ‹_›, if_neg (fun g => ‹¬a / 4503599627370496 % 2048 = 0› g.1)]), rfl⟩

theorem shift_or (n : Int) (h0 : 0 ≤ n) (h1 : n < 18446744073709551616) : bits BinOp.or IntKind.u64 (n / 2) (n % 2) = (Flt.RO n.toNat 1 : Nat) := by
  have hor : ∀ q : Nat, q ||| 1 = q / 2 * 2 + 1 := by
    intro q
    have h := Nat.two_pow_add_eq_or_of_lt (i := 1) (b := 1) (by omega) (q / 2)
    rcases Nat.mod_two_eq_zero_or_one q with g | g
    · have : 2 ^ 1 * (q / 2) = q := by omega
      rw [this] at h; omega
    · have hq : q = 2 ^ 1 * (q / 2) + 1 := by omega
      have h2 : q ||| 1 = (2 ^ 1 * (q / 2) ||| 1) ||| 1 := by rw [← h]; rw [← hq]
      rw [h2, Nat.or_assoc, Nat.or_self, ← h]; omega
  obtain ⟨m, rfl⟩ := Int.eq_ofNat_of_zero_le h0
  rw [u64_or _ _ (by omega) (by omega) (by omega) (by omega), Flt.RO_one]
  have e1 : ((m : Int) / 2).toNat = m / 2 := by omega
  have e2 : ((m : Int) % 2).toNat = m % 2 := by omega
  rw [e1, e2, Int.toNat_natCast]
  rcases Nat.mod_two_eq_zero_or_one m with g | g
  · rw [if_pos g, g, Nat.or_zero]
  · rw [if_neg (by omega), g, hor]

theorem RO_u64 (n k : Nat) (h : n < 18446744073709551616) : Flt.RO n k < 18446744073709551616 := by
  cases k with
  | zero => rw [Flt.RO_zero]; exact h
  | succ k =>
    have := (Flt.RO_lt n (k + 1) 9223372036854775808).2 (Nat.lt_of_le_of_lt (Nat.div_le_self _ _) h)
    omega

theorem shifted_end {m k r : Nat} {b v : Int} (hk : (k : Int) ≤ b) (hr : Flt.RO m k = r) (h : (r : Int) ≤ 1 ∨ b ≤ (k : Int)) (hv : v = (r : Int) ∨ (r : Int) = v) : v = (Flt.RO m b.toNat : Nat) := by
  have hv : v = (r : Int) := by omega
  subst hv
  by_cases g : b ≤ (k : Int)
  · have : b.toNat = k := by omega
    rw [this, hr]
  · have h1 := Flt.RO_stays (n := m) (d := k) (by omega) (b.toNat - k)
    rw [show k + (b.toNat - k) = b.toNat by omega, hr] at h1
    rw [h1]

theorem rshifted_any (m : Nat) (b : Int) (hm : m < 18446744073709551616) (hb : 0 ≤ b) (hb2 : b ≤ 4096) (w : World) :
    Calls Tryd.prog 126 #[.int .u64 m, .int .i64 b] w fun e w' => e = .returned (.int .u64 (Flt.RO m b.toNat : Nat)) ∧ w = w' := by
  go_enter Tryd.func126, Tryd.ntmps126
  go_wp2
  go_loop [0, 5] (fun v i => ∃ k : Nat, (k : Int) ≤ b ∧ i = .int .i64 k ∧ v = .int .u64 (Flt.RO m k : Nat)) (fun _ i => (b - intOf i).toNat)
  case atStart => exact ⟨0, by omega, rfl, by rw [Flt.RO_zero]⟩
  case round =>
    obtain ⟨k, hk, rfl, rfl⟩ := hrel
    have hu := RO_u64 m k hm
    have hso := shift_or (Flt.RO m k : Nat) (by omega) (by omega)
    rw [Int.toNat_natCast, Flt.RO_RO] at hso
    have H : Hid (bits BinOp.or IntKind.u64 (((Flt.RO m k : Nat) : Int) / 2) (((Flt.RO m k : Nat) : Int) % 2) = (Flt.RO m (k + 1) : Nat)) := hso
    clear hso
    generalize hr : Flt.RO m k = r at *
    have HR : Hid (Flt.RO m k = r) := hr
    clear hr
    go_wp2
    · go_round
      case rel => exact ⟨k + 1, by omega, by go_num, by rw [H.out]⟩
      case measure => simp [intOf]; omega
    · go_ret; exact ⟨ret_int (shifted_end hk HR.out (Or.inl (by omega)) (Or.inr (beq_iff_eq.1 ‹_›))), rfl⟩
    · go_ret; exact ⟨ret_int (shifted_end hk HR.out (Or.inl (by omega)) (Or.inl rfl)), rfl⟩
    · go_ret; exact ⟨ret_int (shifted_end hk HR.out (Or.inr (by assumption)) (Or.inr (beq_iff_eq.1 ‹_›))), rfl⟩
    · go_ret; exact ⟨ret_int (shifted_end hk HR.out (Or.inr (by assumption)) (Or.inl rfl)), rfl⟩
    · go_ret; exact ⟨ret_int (shifted_end hk HR.out (Or.inr (by assumption)) (Or.inl rfl)), rfl⟩

theorem made_zero (s e : Nat) : Flt.made s e 0 = 0 := rfl
theorem shift_or' (n : Int) (h0 : 0 ≤ n) (h1 : n < 18446744073709551616) : ∃ r : Int, r = (Flt.RO n.toNat 1 : Nat) ∧ bits BinOp.or IntKind.u64 (n / 2) (n % 2) = r ∧ n / 2 ≤ r ∧ r ≤ n / 2 + 1 ∧ (n < 144115188075855872 → r < 72057594037927936) := by
  refine ⟨_, rfl, shift_or n h0 h1, ?_⟩
  have e : n.toNat / 2 ^ 1 = (n / 2).toNat := by omega
  have h := Flt.RO_le n.toNat 1
  have h2 := Flt.RO_lt n.toNat 1 36028797018963968
  rw [e] at h h2
  omega
theorem norm1_hi {x y : Int} (h : 72057594037927936 ≤ y) (hx : 0 ≤ x) {r : Int} (hr : r = (Flt.RO y.toNat 1 : Nat)) (hlt : r < 72057594037927936) : Flt.norm1 (x + 1).toNat r.toNat = Flt.norm1 x.toNat y.toNat := by
  have e : r.toNat = Flt.RO y.toNat 1 := by omega
  unfold Flt.norm1
  rw [if_neg (by omega), if_pos (by omega), e, show (x + 1).toNat = x.toNat + 1 by omega]
theorem norm1_lo {x y : Int} (h : y < 72057594037927936) : Flt.norm1 x.toNat y.toNat = (x.toNat, y.toNat) := by
  unfold Flt.norm1; rw [if_neg (by omega)]
theorem norm2_lo {x y : Int} (h : y < 36028797018963968) (hx : 1 < x) (hy : 0 ≤ y) : Flt.norm2 (x - 1).toNat (y * 2).toNat = Flt.norm2 x.toNat y.toNat := by
  obtain ⟨i, hi⟩ : ∃ i, x.toNat = i + 2 := ⟨x.toNat - 2, by omega⟩
  rw [hi, show (x - 1).toNat = i + 1 by omega, show (y * 2).toNat = y.toNat * 2 by omega]
  conv => rhs; unfold Flt.norm2
  rw [if_pos (by omega)]
theorem norm2_end {x y : Int} (hx : 1 ≤ x) (h : x = 1 ∨ 36028797018963968 ≤ y) : Flt.norm2 x.toNat y.toNat = (x.toNat, y.toNat) := by
  rcases h with h | h
  · subst h; rfl
  · match hx : x.toNat with
    | 0 => rfl
    | 1 => rfl
    | i + 2 => unfold Flt.norm2; rw [if_neg (by omega)]

theorem made_eq {s e m x y x1 y1 : Int} (hs0 : 0 ≤ s) (hx1 : 1 ≤ x1) (hy1 : 1 ≤ y1) (h0 : ¬ m = 0) (hm : 0 ≤ m) (h1 : Flt.norm1 e.toNat m.toNat = (x.toNat, y.toNat)) (h2 : Flt.norm2 x.toNat y.toNat = (x1.toNat, y1.toNat)) :
    ∃ q : Int, ((4 < y1 % 8 ∨ y1 % 8 = 4 ∧ y1 / 8 % 2 = 1) → q = y1 / 8 + 1) ∧ (¬ (4 < y1 % 8 ∨ y1 % 8 = 4 ∧ y1 / 8 % 2 = 1) → q = y1 / 8) ∧
    ((Flt.made s.toNat e.toNat m.toNat : Nat) : Int) = s * 9223372036854775808 + min ((x1 - 1) * 4503599627370496 + q) 9218868437227405312 := by
  refine ⟨(Flt.cut y1.toNat 3 : Nat), ?_, ?_, ?_⟩
  · intro h
    unfold Flt.cut Flt.up
    rw [if_pos (by omega)]; omega
  · intro h
    unfold Flt.cut Flt.up
    rw [if_neg (by omega)]; omega
  · unfold Flt.made Flt.fin
    rw [if_neg (by omega), h1]
    simp only []
    rw [h2]
    simp only []
    have e1 : Flt.infR = 9218868437227405312 := rfl
    have e2 : Flt.sgnW = 9223372036854775808 := rfl
    have e3 : Flt.B = 4503599627370496 := rfl
    rw [e1, e2, e3]
    generalize Flt.cut y1.toNat 3 = c
    omega

set_option maxRecDepth 10000 in
set_option maxHeartbeats 400000 in
theorem rmade_any (s e m : Int) (hs0 : 0 ≤ s) (hs : s ≤ 1) (he : 1 ≤ e) (he2 : e ≤ 2046) (hm0 : 0 ≤ m) (hm : m < 144115188075855872) (w : World) :
    Calls Tryd.prog 127 #[.int .u64 s, .int .i64 e, .int .u64 m] w fun e' w' => e' = .returned (.int .u64 (Flt.made s.toNat e.toNat m.toNat : Nat)) ∧ w = w' := by
  by_cases h0 : m = 0
  · subst h0
    go_enter Tryd.func127, Tryd.ntmps127
    go_wp2
    go_ret
    exact ⟨ret_int (by rw [Int.toNat_zero, made_zero]; rfl), rfl⟩
  · have h0' : (m == 0) = false := by simp; exact h0
    go_enter Tryd.func127, Tryd.ntmps127
    go_wp2
    go_loop [1, 2] (fun e' m' => ∃ x y : Int, e' = .int .i64 x ∧ m' = .int .u64 y ∧ Hid (Flt.norm1 x.toNat y.toNat = Flt.norm1 e.toNat m.toNat) ∧ y < 144115188075855872 ∧ 1 ≤ x ∧ x ≤ 2047 ∧ (x ≤ 2046 ∨ y < 72057594037927936) ∧ 1 ≤ y) (fun _ m' => (intOf m').toNat)
    case atStart => exact ⟨e, m, rfl, rfl, rfl, hm, he, by omega, Or.inl he2, by omega⟩
    case round =>
      obtain ⟨x, y, rfl, rfl, H1, hy, hx1, hx2, hxy, hy1⟩ := hrel
      by_cases hb : 72057594037927936 ≤ y
      · obtain ⟨r, hr, hso, hr1, hr2, hr3⟩ := shift_or' y (by omega) (by omega)
        have HR : Hid (r = (Flt.RO y.toNat 1 : Nat)) := hr
        have hr3 := hr3 hy
        clear hr h0 h0'
        have hx3 : x ≤ 2046 := by omega
        clear hxy
        go_wp2
        go_round
        case rel =>
          refine ⟨x + 1, r, rfl, rfl, ?_, by omega, by omega, by omega, by omega, by omega⟩
          show _ = _
          rw [← H1.out]
          exact norm1_hi hb (by omega) HR.out hr3
        case measure => simp only [intOf]; omega
      · have hb' : y < 72057594037927936 := by omega
        have H2 : Hid (Flt.norm1 e.toNat m.toNat = (x.toNat, y.toNat)) := by
          show _ = _
          rw [← H1.out]; exact norm1_lo hb'
        clear H1 hxy h0' hb
        have H0 : Hid (¬ m = 0) := h0
        clear h0
        go_wp2
        go_loop [1, 2] (fun e' m' => ∃ x1 y1 : Int, e' = .int .i64 x1 ∧ m' = .int .u64 y1 ∧ Hid (Flt.norm2 x1.toNat y1.toNat = Flt.norm2 x.toNat y.toNat) ∧ y1 < 72057594037927936 ∧ 1 ≤ x1 ∧ x1 ≤ 2047 ∧ 1 ≤ y1) (fun e' _ => (intOf e').toNat)
        case atStart => exact ⟨x, y, rfl, rfl, rfl, hb', hx1, hx2, hy1⟩
        case round =>
          obtain ⟨x1, y1, rfl, rfl, H1, hyy, hxx1, hxx2, hyy1⟩ := hrel
          by_cases c1 : y1 < 36028797018963968 ∧ 1 < x1
          · obtain ⟨c1, c2⟩ := c1
            go_wp2
            go_round
            case rel =>
              refine ⟨x1 - 1, y1 * 2, rfl, rfl, ?_, by omega, by omega, by omega, by omega⟩
              show _ = _
              rw [← H1.out]
              exact norm2_lo c1 c2 (by omega)
            case measure => simp [intOf]; omega
          · have H3 : Hid (Flt.norm2 x.toNat y.toNat = (x1.toNat, y1.toNat)) := by
              show _ = _
              rw [← H1.out]; exact norm2_end (by omega) (by omega)
            clear H1
            by_cases c2 : y1 < 36028797018963968
            · have ex : ¬ 1 < x1 := by omega
              clear c1
              go_wp2
              all_goals (go_ret; refine ⟨ret_int ?_, rfl⟩)
              all_goals (obtain ⟨q, q1, q2, q3⟩ := made_eq (s := s) hs0 hxx1 hyy1 H0.out hm0 H2.out H3.out; rw [q3]; clear q3 H3 H2 H0)
              all_goals (simp only [beq_iff_eq, beq_eq_false_iff_ne, ne_eq] at *)
              all_goals omega
            · clear c1
              go_wp2
              all_goals (go_ret; refine ⟨ret_int ?_, rfl⟩)
              all_goals (obtain ⟨q, q1, q2, q3⟩ := made_eq (s := s) hs0 hxx1 hyy1 H0.out hm0 H2.out H3.out; rw [q3]; clear q3 H3 H2 H0)
              all_goals (simp only [beq_iff_eq, beq_eq_false_iff_ne, ne_eq] at *)
              all_goals omega
end Go.Proofs.YtlcpcgdecodjfaaDoor
namespace Go.Proofs.YtlcpcgdecodjfaaDoor
open Go.RowKit
set_option linter.unusedVariables false
set_option linter.unusedSimpArgs false

theorem kind_canon {a : Int} : iCanon a = if iKind a = 3 then 9221120237041090561 else if iKind a = 0 then 0 else (a.toNat : Int) := by
  have e1 : Flt.nanW = 9221120237041090561 := rfl
  have hp : 0 < Flt.infR := by decide
  unfold iCanon iKind Flt.canon Flt.kind
  rw [e1]
  by_cases g1 : Flt.infR < Flt.mag a.toNat
  · simp [g1]
  · by_cases g2 : Flt.mag a.toNat = 0
    · have g3 : ¬ Flt.mag a.toNat = Flt.infR := by rw [g2]; omega
      rw [if_neg g1, if_pos g2, if_neg g1, if_neg g3, if_pos g2]; rfl
    · rw [if_neg g1, if_neg g2, if_neg g1, if_neg g2]
      by_cases g3 : Flt.mag a.toNat = Flt.infR <;> simp [g3]

theorem rcanon_any (a : Int) (ha : U64 a) (w : World) : Calls Tryd.prog 28 #[.int .u64 a] w fun e w' => e = .returned (.int .u64 (iCanon a)) ∧ w = w' := by
  have ht : (a.toNat : Int) = a := by unfold U64 at ha; omega
  have H := (show Hid _ from @kind_canon a)
  have HT : Hid ((a.toNat : Int) = a) := ht
  clear ht
  go_enter Tryd.func28, Tryd.ntmps28
  go_wp2_with fail
  refine (rkind_any a ha _).mono ?_
  rintro e w' ⟨rfl, rfl⟩
  go_wp2_with fail
  · go_ret; exact ⟨ret_int (by rw [H.out, if_pos (beq_iff_eq.1 ‹_›)]), rfl⟩
  · go_ret; exact ⟨ret_int (by rw [H.out, if_neg (beq_eq_false_iff_ne.1 ‹(iKind a == 3) = false›), if_pos (beq_iff_eq.1 ‹(iKind a == 0) = true›)]), rfl⟩
  · go_ret; exact ⟨ret_int (by rw [H.out, if_neg (beq_eq_false_iff_ne.1 ‹(iKind a == 3) = false›), if_neg (beq_eq_false_iff_ne.1 ‹(iKind a == 0) = false›), HT.out]), rfl⟩

theorem rank_eq {a : Int} (ha : U64 a) : iRank a = if iCanon a < 9223372036854775808 then iCanon a + 9223372036854775808 else 18446744073709551615 - iCanon a := by
  have hc := u64_canon ha
  have e2 : Flt.sgnW = 9223372036854775808 := rfl
  have e3 : Flt.maxW = 18446744073709551616 := rfl
  unfold U64 iCanon at hc
  unfold iRank Flt.rank iCanon
  rw [e2, e3]
  split <;> split <;> omega

theorem rrank_any (a : Int) (ha : U64 a) (w : World) : Calls Tryd.prog 91 #[.int .u64 a] w fun e w' => e = .returned (.int .u64 (iRank a)) ∧ w = w' := by
  have H := (show Hid _ from rank_eq ha)
  obtain ⟨c0, c1⟩ := u64_canon ha
  go_enter Tryd.func91, Tryd.ntmps91
  go_wp2_with fail
  refine (rcanon_any a ha _).mono ?_
  rintro e w' ⟨rfl, rfl⟩
  generalize iCanon a = c at *
  by_cases hl : c < 9223372036854775808
  · go_wp2_with fail
    go_ret; exact ⟨ret_int (by rw [H.out, if_pos hl]), rfl⟩
  · go_wp2_with fail
    go_ret; exact ⟨ret_int (by rw [H.out, if_neg (by omega), Bits.b_xor_max _ c0 c1]), rfl⟩

theorem rless_any (a b : Int) (ha : U64 a) (hb : U64 b) (w : World) : Calls Tryd.prog 123 #[.int .u64 a, .int .u64 b] w fun e w' => e = .returned (.bool (bLess a b)) ∧ w = w' := by
  go_enter Tryd.func123, Tryd.ntmps123
  go_wp2_with fail
  refine (rrank_any a ha _).mono ?_
  rintro e w' ⟨rfl, rfl⟩
  go_wp2_with fail
  refine (rrank_any b hb _).mono ?_
  rintro e w' ⟨rfl, rfl⟩
  go_wp2_with fail
  go_ret; exact ⟨rfl, rfl⟩

theorem top_eq {a b : Int} : iTop a b = if bLess a b = true then iCanon b else iCanon a := by
  unfold iTop bLess iRank iCanon Flt.top
  by_cases h : Flt.rank a.toNat < Flt.rank b.toNat
  · rw [if_pos h, if_pos (decide_eq_true (by omega))]
  · rw [if_neg h, if_neg (by rw [decide_eq_true_eq]; omega)]

theorem rmax_any (a b : Int) (ha : U64 a) (hb : U64 b) (w : World) : Calls Tryd.prog 106 #[.int .u64 a, .int .u64 b] w fun e w' => e = .returned (.int .u64 (iTop a b)) ∧ w = w' := by
  have H := (show Hid _ from @top_eq a b)
  go_enter Tryd.func106, Tryd.ntmps106
  go_wp2_with fail
  refine (rless_any a b ha hb _).mono ?_
  rintro e w' ⟨rfl, rfl⟩
  go_wp2_with fail
  · refine (rcanon_any b hb _).mono ?_
    rintro e w' ⟨rfl, rfl⟩
    go_wp2_with fail
    go_ret; exact ⟨ret_int (by rw [H.out, if_pos ‹_›]), rfl⟩
  · refine (rcanon_any a ha _).mono ?_
    rintro e w' ⟨rfl, rfl⟩
    go_wp2_with fail
    go_ret; exact ⟨ret_int (by rw [H.out, if_neg (by rw [Bool.not_eq_true]; assumption)]), rfl⟩


theorem rback_c1 {a : Int} (ha : U64 a) (h : a < 9223372036854775808) : bits BinOp.xor IntKind.u64 IntKind.u64.max a = iBack a := back_c1 ha h
theorem rback_c2 {a : Int} (ha : U64 a) (h : ¬ a < 9223372036854775808) : a - 9223372036854775808 = iBack a := by
  unfold U64 at ha
  have e2 : Flt.sgnW = 9223372036854775808 := rfl
  unfold iBack Flt.back
  rw [if_neg (by omega)]; omega

theorem rword_any (a : Int) (ha : U64 a) (w : World) : Calls Tryd.prog 118 #[.int .u64 a] w fun e w' => e = .returned (.tuple #[.int .u64 (iWord a), .bool (bWordOk a)]) ∧ w = w' := by
  have hb := u64_back ha
  obtain ⟨a0, a1⟩ := id ha
  by_cases hl : a < 9223372036854775808
  · go_enter Tryd.func118, Tryd.ntmps118
    go_wp2_with fail
    rw [rback_c1 ha hl]
    refine (rcanon_any _ hb _).mono ?_
    rintro e w' ⟨rfl, rfl⟩
    go_wp2_with fail
    · refine (rrank_any _ hb _).mono ?_
      rintro e w' ⟨rfl, rfl⟩
      go_wp2_with fail
      · go_ret2; exact ⟨ret_int_bool (word_no (notok_c2 ha (bne_beq ‹_›))) (notok_c2 ha (bne_beq ‹_›)).symm, rfl⟩
      · go_ret2; exact ⟨ret_int_bool (word_yes (ok_c ha ‹_› (bne_beq' ‹_›))) (ok_c ha ‹_› (bne_beq' ‹_›)).symm, rfl⟩
    · go_ret2; exact ⟨ret_int_bool (word_no (notok_c1 ‹_›)) (notok_c1 ‹_›).symm, rfl⟩
  · go_enter Tryd.func118, Tryd.ntmps118
    go_wp2_with fail
    rw [rback_c2 ha (by omega)]
    refine (rcanon_any _ hb _).mono ?_
    rintro e w' ⟨rfl, rfl⟩
    go_wp2_with fail
    · refine (rrank_any _ hb _).mono ?_
      rintro e w' ⟨rfl, rfl⟩
      go_wp2_with fail
      · go_ret2; exact ⟨ret_int_bool (word_no (notok_c2 ha (bne_beq ‹_›))) (notok_c2 ha (bne_beq ‹_›)).symm, rfl⟩
      · go_ret2; exact ⟨ret_int_bool (word_yes (ok_c ha ‹_› (bne_beq' ‹_›))) (ok_c ha ‹_› (bne_beq' ‹_›)).symm, rfl⟩
    · go_ret2; exact ⟨ret_int_bool (word_no (notok_c1 ‹_›)) (notok_c1 ‹_›).symm, rfl⟩

/-! ### The sum -/
theorem rlesser_any (a b : Int) (ha : U64 a) (hb : U64 b) (w : World) : Calls Tryd.prog 124 #[.int .u64 a, .int .u64 b] w fun e w' => e = .returned (.bool (decide (a % 9223372036854775808 < b % 9223372036854775808))) ∧ w = w' := by
  obtain ⟨a0, a1⟩ := id ha
  obtain ⟨b0, b1⟩ := id hb
  go_enter Tryd.func124, Tryd.ntmps124
  go_wp2
  go_ret; exact ⟨rfl, rfl⟩

theorem whole_eq {a : Int} (ha : U64 a) : ((Flt.wholeE a.toNat : Nat) : Int) = (if a / 4503599627370496 % 2048 = 0 then 1 else a / 4503599627370496 % 2048) ∧
    ((Flt.wholeM a.toNat : Nat) : Int) = (if a / 4503599627370496 % 2048 = 0 then a % 4503599627370496 * 8 else (a % 4503599627370496 + 4503599627370496) * 8) := by
  unfold U64 at ha
  have e1 : Flt.B = 4503599627370496 := rfl
  unfold Flt.wholeE Flt.wholeM Flt.expo Flt.frac
  rw [e1]
  constructor <;> split <;> split <;> omega

theorem rwhole_any (a : Int) (ha : U64 a) (w : World) : Calls Tryd.prog 125 #[.int .u64 a] w fun e w' => e = .returned (.tuple #[.int .i64 (Flt.wholeE a.toNat : Nat), .int .u64 (Flt.wholeM a.toNat : Nat)]) ∧ w = w' := by
  obtain ⟨a0, a1⟩ := id ha
  have H := (show Hid _ from whole_eq ha)
  go_enter Tryd.func125, Tryd.ntmps125
  go_wp2_with fail
  refine (rparts_any a ha _).mono ?_
  rintro e w' ⟨rfl, rfl⟩
  go_wp2_with fail
  · have h := beq_iff_eq.1 ‹(a / 4503599627370496 % 2048 == 0) = true›
    go_ret2; exact ⟨ret_int2 (by rw [H.out.1, if_pos h]) (by rw [H.out.2, if_pos h]), rfl⟩
  · have h := beq_eq_false_iff_ne.1 ‹(a / 4503599627370496 % 2048 == 0) = false›
    go_ret2; exact ⟨ret_int2 (by rw [H.out.1, if_neg h]) (by rw [H.out.2, if_neg h]), rfl⟩

end Go.Proofs.YtlcpcgdecodjfaaDoor
namespace Go.Proofs.YtlcpcgdecodjfaaDoor
set_option linter.unusedVariables false
set_option linter.unusedSimpArgs false
namespace Flt
theorem canon_word (s r : Nat) (hs : s ≤ 1) (h0 : 0 < r) (h1 : r ≤ infR) : canon (s * sgnW + r) = s * sgnW + r := by
  have e1 : infR = 9218868437227405312 := rfl
  have e2 : sgnW = 9223372036854775808 := rfl
  unfold canon mag
  rw [e1] at h1; rw [e1, e2]
  rw [if_neg (by omega), if_neg (by omega)]
theorem mag_canon_nan (a : Nat) : infR < mag (canon a) ↔ infR < mag a := by
  unfold canon
  by_cases h : infR < mag a
  · rw [if_pos h]; exact ⟨fun _ => h, fun _ => by decide⟩
  · rw [if_neg h]
    by_cases g : mag a = 0
    · rw [if_pos g]; exact ⟨fun k => absurd k (by decide), fun k => absurd k h⟩
    · rw [if_neg g]
theorem canon_self (a : Nat) (h : ¬ infR < mag a) (g : mag a ≠ 0) : canon a = a := by unfold canon; rw [if_neg h, if_neg g]
theorem sv_canon (a : Nat) (h : ¬ infR < mag a) : sv (canon a) = sv a ∧ mag (canon a) = mag a := by
  by_cases g : mag a = 0
  · have : canon a = 0 := by unfold canon; rw [if_neg h, if_pos g]
    rw [this, (sv_zero a).2 g, g]; decide
  · rw [canon_self a h g]; exact ⟨rfl, rfl⟩
theorem sum_canon (a b : Nat) : sum (canon a) (canon b) = sum a b := by
  unfold sum
  simp only [mag_canon_nan]
  by_cases hn : infR < mag a ∨ infR < mag b
  · rw [if_pos hn, if_pos hn]
  · rw [if_neg hn, if_neg hn]
    obtain ⟨a1, a2⟩ := sv_canon a (by omega)
    obtain ⟨b1, b2⟩ := sv_canon b (by omega)
    have hi : infR ≠ 0 := by decide
    rw [a2, b2]
    unfold sumFin
    rw [a1, b1]
    by_cases ha : mag a = infR
    · have ea : canon a = a := canon_self a (by omega) (by omega)
      by_cases hb : mag b = infR
      · have eb : canon b = b := canon_self b (by omega) (by omega)
        rw [ea, eb]
      · rw [ea, if_pos ha, if_pos ha, if_neg (fun g => hb g.1), if_neg (fun g => hb g.1)]
    · rw [if_neg ha, if_neg ha]
      by_cases hb : mag b = infR
      · have eb : canon b = b := canon_self b (by omega) (by omega)
        rw [eb]
      · rw [if_neg hb, if_neg hb]
theorem same_inf (a b : Nat) (ha : a < maxW) (hb : b < maxW) (h1 : mag a = infR) (h2 : mag b = infR) : neg a = neg b ↔ a = b := by
  constructor
  · intro h
    have self : ∀ w, w < maxW → w = (if neg w then sgnW else 0) + mag w := by
      intro w hw
      unfold neg mag
      have e1 : sgnW = 9223372036854775808 := rfl
      have e2 : maxW = 18446744073709551616 := rfl
      rw [e2] at hw; rw [e1]
      by_cases g : w / 9223372036854775808 % 2 = 1
      · simp [g]; omega
      · simp [g]; omega
    rw [self a ha, self b hb, h1, h2, h]
  · intro h; rw [h]
theorem sum_comm (a b : Nat) (ha : a < maxW) (hb : b < maxW) : sum a b = sum b a := by
  unfold sum
  by_cases hn : infR < mag a ∨ infR < mag b
  · rw [if_pos hn, if_pos (Or.comm.1 hn)]
  · rw [if_neg hn, if_neg (fun h => hn (Or.comm.1 h))]
    by_cases h1 : mag a = infR
    · by_cases h2 : mag b = infR
      · have := same_inf a b ha hb h1 h2
        simp only [h1, h2, if_true, true_and]
        by_cases e : a = b
        · subst e; rfl
        · have n1 : neg a ≠ neg b := fun h => e (this.1 h)
          simp [n1, Ne.symm n1]
      · simp [h1, h2]
    · by_cases h2 : mag b = infR
      · simp [h1, h2]
      · simp only [h1, h2, if_false]
        unfold sumFin
        rw [Int.add_comm]

/-- What the document makes of two canonical finite words, the first one's size not less, is their sum. -/
theorem made_sum (x y : Nat) (hx : x < maxW) (hy : y < maxW) (h1 : mag x < infR) (h2 : mag y < infR) (h : mag y ≤ mag x) :
    canon (if x / sgnW = y / sgnW then made (x / sgnW) (wholeE x) (wholeM x + RO (wholeM y) (wholeE x - wholeE y))
      else made (x / sgnW) (wholeE x) (wholeM x - RO (wholeM y) (wholeE x - wholeE y))) = sum x y := by
  have e2 : sgnW = 9223372036854775808 := rfl
  have e3 : maxW = 18446744073709551616 := rfl
  have sx : x / sgnW = if neg x then 1 else 0 := by
    unfold neg; rw [e2]; rw [e3] at hx
    by_cases g : x / 9223372036854775808 % 2 = 1
    · simp [g]; omega
    · simp [g]; omega
  have sy : y / sgnW = if neg y then 1 else 0 := by
    unfold neg; rw [e2]; rw [e3] at hy
    by_cases g : y / 9223372036854775808 % 2 = 1
    · simp [g]; omega
    · simp [g]; omega
  have hV : V (mag y) ≤ V (mag x) := by
    rcases Nat.lt_or_ge (mag y) (mag x) with g | g
    · exact Nat.le_of_lt (V_lt g)
    · rw [Nat.le_antisymm h g]; exact Nat.le_refl _
  have hc0 : canon 0 = 0 := by decide
  have close : ∀ s n, s ≤ 1 → canon (if n = 0 then 0 else s * sgnW + RN n) = if n = 0 then 0 else s * sgnW + RN n := by
    intro s n hs
    by_cases g : n = 0
    · rw [if_pos g, hc0]
    · rw [if_neg g, canon_word s _ hs (RN_pos n (by omega)) (RN_le n)]
  have hsum : sum x y = sumFin x y := by
    unfold sum; rw [if_neg (by omega), if_neg (by omega), if_neg (by omega)]
  rw [hsum, made_add _ _ _ h, made_sub _ _ _ h]
  have hs1 : x / sgnW ≤ 1 := by rw [sx]; split <;> omega
  unfold sumFin sv
  by_cases hs : x / sgnW = y / sgnW
  · rw [if_pos hs, close _ _ hs1]
    have hn : neg x = neg y := by
      rw [sx, sy] at hs
      cases h1 : neg x <;> cases h2 : neg y <;> rw [h1, h2] at hs <;> simp at hs <;> rfl
    rw [sx, ← hn]
    cases neg x
    · simp only [Bool.false_eq_true, if_false]
      rw [show ((V (mag x) : Nat) : Int) + (V (mag y) : Nat) = ((V (mag x) + V (mag y) : Nat) : Int) by omega]
      generalize V (mag x) + V (mag y) = t
      rw [Int.natAbs_natCast]
      by_cases g : t = 0
      · subst g; rfl
      · rw [if_neg g, if_neg (by omega), if_neg (by omega)]; omega
    · simp only [if_true]
      rw [show -((V (mag x) : Nat) : Int) + -((V (mag y) : Nat) : Int) = -((V (mag x) + V (mag y) : Nat) : Int) by omega]
      generalize V (mag x) + V (mag y) = t
      rw [Int.natAbs_neg, Int.natAbs_natCast]
      by_cases g : t = 0
      · subst g; rfl
      · rw [if_neg g, if_neg (by omega), if_pos (by omega)]; omega
  · rw [if_neg hs, close _ _ hs1]
    have hn : neg y = !neg x := by
      rw [sx, sy] at hs
      cases h1 : neg x <;> cases h2 : neg y <;> rw [h1, h2] at hs <;> simp at hs <;> rfl
    rw [sx, hn]
    cases neg x
    · simp only [Bool.false_eq_true, if_false, Bool.not_false, if_true]
      rw [show ((V (mag x) : Nat) : Int) + -((V (mag y) : Nat) : Int) = ((V (mag x) - V (mag y) : Nat) : Int) by omega]
      generalize V (mag x) - V (mag y) = t
      rw [Int.natAbs_natCast]
      by_cases g : t = 0
      · subst g; rfl
      · rw [if_neg g, if_neg (by omega), if_neg (by omega)]; omega
    · simp only [if_true, Bool.not_true, Bool.false_eq_true, if_false]
      rw [show -((V (mag x) : Nat) : Int) + ((V (mag y) : Nat) : Int) = -((V (mag x) - V (mag y) : Nat) : Int) by omega]
      generalize V (mag x) - V (mag y) = t
      rw [Int.natAbs_neg, Int.natAbs_natCast]
      by_cases g : t = 0
      · subst g; rfl
      · rw [if_neg g, if_neg (by omega), if_pos (by omega)]; omega
end Flt
end Go.Proofs.YtlcpcgdecodjfaaDoor
namespace Go.Proofs.YtlcpcgdecodjfaaDoor
open Go.RowKit
set_option linter.unusedVariables false
set_option linter.unusedSimpArgs false
namespace Flt
theorem self_eq (w : Nat) (hw : w < maxW) : w = (if neg w then sgnW else 0) + mag w := by
  unfold neg mag
  have e1 : sgnW = 9223372036854775808 := rfl
  have e2 : maxW = 18446744073709551616 := rfl
  rw [e2] at hw; rw [e1]
  by_cases g : w / 9223372036854775808 % 2 = 1
  · simp [g]; omega
  · simp [g]; omega
theorem mag_lt (w : Nat) : mag w < sgnW := Nat.mod_lt _ (by decide)
theorem word_eq (w : Nat) (hw : w < maxW) : (neg w = true ∧ w = sgnW + mag w) ∨ (neg w = false ∧ w = mag w) := by
  have := self_eq w hw
  cases h : neg w <;> rw [h] at this <;> simp at this
  · exact Or.inr ⟨rfl, this⟩
  · exact Or.inl ⟨rfl, this⟩
theorem sv_neg {w : Nat} (h : neg w = true) : sv w = -((V (mag w) : Nat) : Int) := by unfold sv; rw [h]; rfl
theorem sv_pos {w : Nat} (h : neg w = false) : sv w = ((V (mag w) : Nat) : Int) := by unfold sv; rw [h]; rfl
theorem rank_self (w : Nat) (h : canon w = w) : rank w = if w < sgnW then w + sgnW else maxW - 1 - w := by unfold rank; rw [h]
/-- Of a canonical word that is negative the size is not 0. -/
theorem canon_neg {w : Nat} (h : canon w = w) (hn : w = sgnW + mag w) : 0 < mag w := by
  have e1 : sgnW = 9223372036854775808 := rfl
  rcases Nat.eq_zero_or_pos (mag w) with g | g
  · exfalso
    unfold canon at h
    have : 0 < infR := by decide
    rw [if_neg (by omega), if_pos g] at h
    omega
  · exact g
theorem rank_sv (x y : Nat) (hx : x < maxW) (hy : y < maxW) (cx : canon x = x) (cy : canon y = y) : rank x < rank y ↔ sv x < sv y := by
  have e1 : sgnW = 9223372036854775808 := rfl
  have e2 : maxW = 18446744073709551616 := rfl
  have mx := mag_lt x
  have my := mag_lt y
  rw [rank_self x cx, rank_self y cy]
  rcases word_eq x hx with ⟨nx, ex⟩ | ⟨nx, ex⟩ <;> rcases word_eq y hy with ⟨ny, ey⟩ | ⟨ny, ey⟩
  · rw [sv_neg nx, sv_neg ny, if_neg (by omega), if_neg (by omega)]
    have := V_lt_iff (mag y) (mag x)
    omega
  · rw [sv_neg nx, sv_pos ny, if_neg (by omega), if_pos (by omega)]
    have p := canon_neg cx ex
    have := V_lt p
    omega
  · rw [sv_pos nx, sv_neg ny, if_pos (by omega), if_neg (by omega)]
    omega
  · rw [sv_pos nx, sv_pos ny, if_pos (by omega), if_pos (by omega)]
    have := V_lt_iff (mag x) (mag y)
    omega
theorem sv_inj (x y : Nat) (hx : x < maxW) (hy : y < maxW) (cx : canon x = x) (cy : canon y = y) (h : sv x = sv y) : x = y := by
  rcases word_eq x hx with ⟨nx, ex⟩ | ⟨nx, ex⟩ <;> rcases word_eq y hy with ⟨ny, ey⟩ | ⟨ny, ey⟩
  · rw [sv_neg nx, sv_neg ny] at h
    have := V_inj (r := mag x) (s := mag y) (by omega)
    omega
  · rw [sv_neg nx, sv_pos ny] at h
    have p := canon_neg cx ex
    have := V_lt p
    omega
  · rw [sv_pos nx, sv_neg ny] at h
    have p := canon_neg cy ey
    have := V_lt p
    omega
  · rw [sv_pos nx, sv_pos ny] at h
    have := V_inj (r := mag x) (s := mag y) (by omega)
    omega

theorem rank_inj (x y : Nat) (hx : x < maxW) (hy : y < maxW) : rank x = rank y ↔ canon x = canon y := by
  constructor
  · intro h; rw [← back_rank x hx, ← back_rank y hy, h]
  · intro h; rw [← rank_canon x, ← rank_canon y, h]

/-- A canonical word's size is at most that of what is infinite, but for the one that is no number. -/
theorem canon_cases (w : Nat) (hw : w < maxW) : canon w = nanW ∨ (canon w = 0) ∨ (canon w = w ∧ mag w ≤ infR) := by
  unfold canon
  by_cases h : infR < mag w
  · left; rw [if_pos h]
  · rw [if_neg h]
    by_cases g : mag w = 0
    · right; left; rw [if_pos g]
    · right; right; rw [if_neg g]; exact ⟨rfl, by omega⟩
theorem rank_ge (w : Nat) (hw : w < maxW) : 4503599627370495 ≤ rank w := by
  have e1 : sgnW = 9223372036854775808 := rfl
  have e2 : maxW = 18446744073709551616 := rfl
  have e3 : nanW = 9221120237041090561 := rfl
  have e4 : infR = 9218868437227405312 := rfl
  unfold rank
  rcases canon_cases w hw with h | h | ⟨h, g⟩
  · rw [h, e3, e1]; decide
  · rw [h, e1]; decide
  · rw [h]
    rcases word_eq w hw with ⟨nx, ex⟩ | ⟨nx, ex⟩
    · rw [if_neg (by omega)]; omega
    · rw [if_pos (by omega)]; omega
theorem rank_le (w : Nat) (hw : w < maxW) : rank w ≤ 18444492273895866369 ∧ (rank w = 18444492273895866369 ↔ infR < mag w) := by
  have e1 : sgnW = 9223372036854775808 := rfl
  have e2 : maxW = 18446744073709551616 := rfl
  have e3 : nanW = 9221120237041090561 := rfl
  have e4 : infR = 9218868437227405312 := rfl
  have hc : infR < mag w ↔ canon w = nanW := by
    constructor
    · intro h; unfold canon; rw [if_pos h]
    · intro h
      rw [← mag_canon_nan, h]; decide
  rw [hc]
  unfold rank
  rcases canon_cases w hw with h | h | ⟨h, g⟩
  · rw [h, e3, e1]; decide
  · rw [h, e3, e1]; decide
  · rw [h, e3]
    rcases word_eq w hw with ⟨nx, ex⟩ | ⟨nx, ex⟩
    · rw [if_neg (by omega)]; omega
    · rw [if_pos (by omega)]; omega

theorem top_rank (a b : Nat) : rank (top a b) = max (rank a) (rank b) := by
  unfold top
  split
  · rw [rank_canon]; omega
  · rw [rank_canon]; omega
theorem top_canon (a b : Nat) : canon (top a b) = top a b := by
  unfold top; split <;> rw [canon_canon]
theorem top_lt (a b : Nat) (ha : a < maxW) (hb : b < maxW) : top a b < maxW := by
  unfold top
  split
  · exact canon_lt b hb
  · exact canon_lt a ha
theorem canon_ext (x y : Nat) (hx : x < maxW) (hy : y < maxW) (cx : canon x = x) (cy : canon y = y) (h : rank x = rank y) : x = y := by
  have := (rank_inj x y hx hy).1 h
  rw [cx, cy] at this; exact this
theorem top_comm (a b : Nat) (ha : a < maxW) (hb : b < maxW) : top a b = top b a :=
  canon_ext _ _ (top_lt a b ha hb) (top_lt b a hb ha) (top_canon _ _) (top_canon _ _) (by rw [top_rank, top_rank]; omega)
theorem top_assoc (a b c : Nat) (ha : a < maxW) (hb : b < maxW) (hc : c < maxW) : top (top a b) c = top a (top b c) :=
  canon_ext _ _ (top_lt _ c (top_lt a b ha hb) hc) (top_lt a _ ha (top_lt b c hb hc)) (top_canon _ _) (top_canon _ _) (by rw [top_rank, top_rank, top_rank, top_rank]; omega)
theorem top_one (a b : Nat) : top a b = canon a ∨ top a b = canon b := by
  unfold top; split
  · exact Or.inr rfl
  · exact Or.inl rfl
theorem top_self (a : Nat) : top a a = canon a := by unfold top; rw [if_neg (by omega)]

theorem sum_lt (a b : Nat) (ha : a < maxW) (hb : b < maxW) : sum a b < maxW := by
  have e1 : sgnW = 9223372036854775808 := rfl
  have e2 : maxW = 18446744073709551616 := rfl
  have e4 : infR = 9218868437227405312 := rfl
  unfold sum
  split
  · decide
  · split
    · split
      · decide
      · exact ha
    · split
      · exact hb
      · unfold sumFin
        have := RN_le (sv a + sv b).natAbs
        split
        · decide
        · split <;> omega
/-- Every sum is canonical. -/
theorem sum_is_canon (a b : Nat) (ha : a < maxW) (hb : b < maxW) : canon (sum a b) = sum a b := by
  have hp : 0 < infR := by decide
  unfold sum
  split
  · decide
  · rename_i hn
    split
    · rename_i h1
      split
      · decide
      · exact canon_self a (by omega) (by omega)
    · split
      · exact canon_self b (by omega) (by omega)
      · unfold sumFin
        split
        · decide
        · rename_i h3
          have q1 := RN_pos (sv a + sv b).natAbs (by omega)
          have q2 := RN_le (sv a + sv b).natAbs
          split
          · have := canon_word 1 _ (by omega) q1 q2
            rw [Nat.one_mul] at this; exact this
          · have := canon_word 0 _ (by omega) q1 q2
            rw [Nat.zero_mul] at this; exact this

/-! ### A sum with the opposite -/
theorem mag_flip (y : Nat) (s : Nat) (h : y = s * sgnW + mag y) (t : Nat) : mag (t * sgnW + mag y) = mag y := by
  unfold mag
  rw [Nat.mul_add_mod_self_right, Nat.mod_mod]
def flip (y : Nat) : Nat := if y < sgnW then y + sgnW else y - sgnW
theorem flip_neg (y : Nat) (hy : y < maxW) : neg (flip y) = !neg y ∧ mag (flip y) = mag y ∧ flip y < maxW := by
  have e1 : sgnW = 9223372036854775808 := rfl
  have e2 : maxW = 18446744073709551616 := rfl
  unfold flip neg mag
  rw [e2] at hy; rw [e1, e2]
  by_cases h : y < 9223372036854775808
  · rw [if_pos h]
    have h1 : (y + 9223372036854775808) / 9223372036854775808 % 2 = 1 := by omega
    have h2 : y / 9223372036854775808 % 2 = 0 := by omega
    rw [h1, h2]
    refine ⟨rfl, by omega, by omega⟩
  · rw [if_neg h]
    have h1 : (y - 9223372036854775808) / 9223372036854775808 % 2 = 0 := by omega
    have h2 : y / 9223372036854775808 % 2 = 1 := by omega
    rw [h1, h2]
    refine ⟨rfl, by omega, by omega⟩
theorem sv_flip (y : Nat) (hy : y < maxW) : sv (flip y) = - sv y := by
  obtain ⟨h1, h2, _⟩ := flip_neg y hy
  cases g : neg y
  · rw [g] at h1
    rw [sv_neg h1, sv_pos g, h2]
  · rw [g] at h1
    rw [sv_pos h1, sv_neg g, h2]; omega

theorem sum_diff (x y : Nat) (hx : x < maxW) (hy : y < maxW) (cx : canon x = x) (cy : canon y = y) (nx : ¬ infR < mag x) (ny : ¬ infR < mag y) :
    (mag x = infR → x = y → sum x (canon (flip y)) = nanW) ∧
    (¬ (mag x = infR ∧ x = y) → (rank x < rank y ↔ rank (sum x (canon (flip y))) < rank 0) ∧ (x = y ↔ sum x (canon (flip y)) = 0)) := by
  have e1 : sgnW = 9223372036854775808 := rfl
  have e2 : maxW = 18446744073709551616 := rfl
  have e4 : infR = 9218868437227405312 := rfl
  obtain ⟨f1, f2, f3⟩ := flip_neg y hy
  have hsum : sum x (canon (flip y)) = sum x (flip y) := by
    have := sum_canon x (flip y)
    rw [cx] at this; exact this
  have hr0 : rank 0 = sgnW := by decide
  rw [hsum, hr0]
  have c2 := sum_is_canon x (flip y) hx f3
  have l2 := sum_lt x (flip y) hx f3
  -- a canonical word's rank is below that of 0 just if its highest bit is set
  have rk : ∀ d, d < maxW → canon d = d → (rank d < sgnW ↔ sgnW ≤ d) := by
    intro d hd hc
    rw [rank_self d hc]
    split <;> omega
  rw [rk _ l2 c2]
  constructor
  · intro h1 h2
    subst h2
    unfold sum
    rw [f2, if_neg (by omega), if_pos h1, if_pos ⟨h1, by rw [f1]; cases neg x <;> simp⟩]
  · intro hne
    unfold sum
    rw [f2, if_neg (by omega)]
    by_cases ix : mag x = infR
    · rw [if_pos ix]
      by_cases iy : mag y = infR
      · have hxy : x ≠ y := fun h => hne ⟨ix, h⟩
        have hn : neg x ≠ neg y := fun h => hxy ((same_inf x y hx hy ix iy).1 h)
        have hn2 : neg x = neg (flip y) := by rw [f1]; cases h1 : neg x <;> cases h2 : neg y <;> simp_all
        rw [if_neg (fun h => h.2 hn2)]
        rw [rank_self x cx, rank_self y cy]
        rcases word_eq x hx with ⟨a1, a2⟩ | ⟨a1, a2⟩ <;> rcases word_eq y hy with ⟨b1, b2⟩ | ⟨b1, b2⟩
        · exact absurd (a1.trans b1.symm) hn
        · rw [if_neg (by omega), if_pos (by omega)]; omega
        · rw [if_pos (by omega), if_neg (by omega)]; omega
        · exact absurd (a1.trans b1.symm) hn
      · rw [if_neg (fun h => iy h.1)]
        rw [rank_self x cx, rank_self y cy]
        have my := mag_lt y
        rcases word_eq x hx with ⟨a1, a2⟩ | ⟨a1, a2⟩ <;> rcases word_eq y hy with ⟨b1, b2⟩ | ⟨b1, b2⟩
        · rw [if_neg (by omega), if_neg (by omega)]; omega
        · rw [if_neg (by omega), if_pos (by omega)]; omega
        · rw [if_pos (by omega), if_neg (by omega)]; omega
        · rw [if_pos (by omega), if_pos (by omega)]; omega
    · rw [if_neg ix]
      by_cases iy : mag y = infR
      · rw [if_pos iy]
        rw [rank_self x cx, rank_self y cy]
        have mx := mag_lt x
        unfold flip
        rcases word_eq x hx with ⟨a1, a2⟩ | ⟨a1, a2⟩ <;> rcases word_eq y hy with ⟨b1, b2⟩ | ⟨b1, b2⟩
        · rw [if_neg (by omega), if_neg (by omega), if_neg (by omega)]; omega
        · rw [if_neg (by omega), if_pos (by omega), if_pos (by omega)]; omega
        · rw [if_pos (by omega), if_neg (by omega), if_neg (by omega)]; omega
        · rw [if_pos (by omega), if_pos (by omega), if_pos (by omega)]; omega
      · rw [if_neg iy, rank_sv x y hx hy cx cy]
        unfold sumFin
        rw [sv_flip y hy]
        have hxy : x = y ↔ sv x + -sv y = 0 := ⟨fun h => by rw [h]; omega, fun h => sv_inj x y hx hy cx cy (by omega)⟩
        rw [hxy]
        by_cases z : sv x + -sv y = 0
        · rw [if_pos z]; omega
        · rw [if_neg z]
          have q1 := RN_pos (sv x + -sv y).natAbs (by omega)
          have q2 := RN_le (sv x + -sv y).natAbs
          by_cases z2 : sv x + -sv y < 0
          · rw [if_pos z2]; omega
          · rw [if_neg z2]; omega

theorem sum_zero (x : Nat) (hx : x < maxW) (cx : canon x = x) (nx : ¬ infR < mag x) : sum x 0 = x := by
  have e4 : infR = 9218868437227405312 := rfl
  have m0 : mag 0 = 0 := by decide
  have s0 : sv 0 = 0 := by decide
  unfold sum
  rw [m0, if_neg (by omega)]
  by_cases ix : mag x = infR
  · rw [if_pos ix, if_neg (fun h => by omega)]
  · rw [if_neg ix, if_neg (by omega)]
    unfold sumFin
    rw [s0, Int.add_zero]
    rcases word_eq x hx with ⟨a1, a2⟩ | ⟨a1, a2⟩
    · have p := canon_neg cx a2
      have := V_lt p
      rw [sv_neg a1, if_neg (by omega), if_pos (by omega), Int.natAbs_neg, Int.natAbs_natCast, RN_V]
      omega
    · rw [sv_pos a1, Int.natAbs_natCast, RN_V]
      have := V_zero (mag x)
      by_cases z : ((V (mag x) : Nat) : Int) = 0
      · rw [if_pos z]; omega
      · rw [if_neg z, if_neg (by omega)]; omega

theorem sum_inf_right (x : Nat) (hx : x < maxW) (nx : mag x < infR) : sum x infR = infR ∧ sum 18442240474082181120 x = 18442240474082181120 := by
  have e4 : infR = 9218868437227405312 := rfl
  have m0 : mag infR = infR := by decide
  have m1 : mag 18442240474082181120 = infR := by decide
  unfold sum
  rw [m0, m1]
  constructor
  · rw [if_neg (by omega), if_neg (by omega), if_pos rfl]
  · rw [if_neg (by omega), if_pos rfl, if_neg (fun h => by omega)]

theorem sum_nan_right (x y : Nat) (h : infR < mag y) : sum x y = nanW := by unfold sum; rw [if_pos (Or.inr h)]

/-- Twice. -/
theorem sum_twice (a : Nat) (ha : a < maxW) : sum a a =
    if infR < mag a then nanW else if 9214364837600034816 ≤ mag a then (if neg a then sgnW else 0) + infR
    else if mag a = 0 then 0 else if mag a < B then (if neg a then sgnW else 0) + 2 * mag a else a + B := by
  have e1 : sgnW = 9223372036854775808 := rfl
  have e4 : infR = 9218868437227405312 := rfl
  have e5 : B = 4503599627370496 := rfl
  unfold sum
  by_cases hn : infR < mag a
  · rw [if_pos (Or.inl hn), if_pos hn]
  · rw [if_neg (by omega), if_neg hn]
    by_cases ix : mag a = infR
    · rw [if_pos ix, if_neg (fun h => h.2 rfl), if_pos (by omega), ← ix]
      exact self_eq a ha
    · rw [if_neg ix, if_neg ix]
      unfold sumFin
      have hV2 : ∀ n : Nat, n = V (mag a) + V (mag a) → (mag a ≠ 0 → n ≠ 0 ∧ RN n = if 9214364837600034816 ≤ mag a then infR else if mag a < B then 2 * mag a else mag a + B) := by
        intro n hn h0
        have hp : 0 < V (mag a) := by have := V_lt (r := 0) (s := mag a) (by omega); omega
        refine ⟨by omega, ?_⟩
        by_cases hb : mag a < B
        · rw [V_low _ (by omega)] at hn
          rw [if_neg (by omega), if_pos hb, RN_low n (by omega)]; omega
        · have := V_step (mag a) (by omega)
          have e : n = V (mag a + B) := by omega
          rw [e, RN_V]
          split <;> omega
      by_cases h0 : mag a = 0
      · have := (sv_zero a).2 h0
        rw [this, if_pos (by omega), if_neg (by omega), if_pos h0]
      · obtain ⟨g1, g2⟩ := hV2 _ rfl h0
        rcases word_eq a ha with ⟨a1, a2⟩ | ⟨a1, a2⟩
        · rw [sv_neg a1, show -((V (mag a) : Nat) : Int) + -((V (mag a) : Nat) : Int) = -((V (mag a) + V (mag a) : Nat) : Int) by omega, Int.natAbs_neg, Int.natAbs_natCast, if_neg (by omega), if_pos (by omega), g2, a1]
          simp only [if_true]
          split
          · rfl
          · split <;> omega
        · rw [sv_pos a1, show ((V (mag a) : Nat) : Int) + ((V (mag a) : Nat) : Int) = ((V (mag a) + V (mag a) : Nat) : Int) by omega, Int.natAbs_natCast, if_neg (by omega), if_neg (by omega), g2, a1]
          simp only [Bool.false_eq_true, if_false]
          split
          · rfl
          · split <;> omega
end Flt

/-! ### As the walks spell them -/
theorem kind3 {a : Int} : iKind a = 3 ↔ Flt.infR < Flt.mag a.toNat := by
  unfold iKind Flt.kind
  by_cases g1 : Flt.infR < Flt.mag a.toNat
  · simp [g1]
  · rw [if_neg g1]
    by_cases g2 : Flt.mag a.toNat = Flt.infR <;> by_cases g3 : Flt.mag a.toNat = 0 <;> simp [g1, g2, g3] <;> split <;> omega
theorem kind2 {a : Int} : iKind a = 2 ↔ Flt.mag a.toNat = Flt.infR := by
  unfold iKind Flt.kind
  by_cases g1 : Flt.infR < Flt.mag a.toNat
  · rw [if_pos g1]; omega
  · rw [if_neg g1]
    by_cases g2 : Flt.mag a.toNat = Flt.infR
    · rw [if_pos g2]; simp [g2]
    · rw [if_neg g2]; split <;> omega

theorem p_wordOk {a : Int} (ha : U64 a) : bWordOk (iRank a) = true := by
  unfold bWordOk iRank; rw [Int.toNat_natCast]; exact wordOk_rank _ (u64_nat ha)
theorem p_word {a : Int} (ha : U64 a) : iWord (iRank a) = iCanon a := by
  unfold iWord iRank iCanon; rw [Int.toNat_natCast, word_rank _ (u64_nat ha)]
theorem p_canon2 (a : Int) : iCanon (iCanon a) = iCanon a := by
  unfold iCanon; rw [Int.toNat_natCast, canon_canon]
theorem p_rank_canon (a : Int) : iRank (iCanon a) = iRank a := by
  unfold iRank iCanon; rw [Int.toNat_natCast, rank_canon]
theorem p_kind_canon (a : Int) : iKind (iCanon a) = iKind a := by
  unfold iKind iCanon; rw [Int.toNat_natCast]
  have hp : 0 < Flt.infR := by decide
  unfold Flt.kind
  by_cases h : Flt.infR < Flt.mag a.toNat
  · rw [if_pos h, if_pos ((Flt.mag_canon_nan _).2 h)]
  · rw [if_neg h, if_neg (fun g => h ((Flt.mag_canon_nan _).1 g)), (Flt.sv_canon _ h).2]
theorem p_rank_inj {a b : Int} (ha : U64 a) (hb : U64 b) : iRank a = iRank b ↔ iCanon a = iCanon b := by
  have := Flt.rank_inj a.toNat b.toNat (u64_nat ha) (u64_nat hb)
  unfold iRank iCanon; omega
theorem p_rank_eq {a b : Int} (ha : U64 a) (hb : U64 b) : (iRank a == iRank b) = (iCanon a == iCanon b) := by
  rw [Bool.eq_iff_iff, beq_iff_eq, beq_iff_eq, p_rank_inj ha hb]
theorem p_less {a b : Int} : bLess a b = true ↔ iRank a < iRank b := by unfold bLess; exact decide_eq_true_iff
theorem p_less_no {a b : Int} : bLess a b = false ↔ ¬ iRank a < iRank b := by unfold bLess; exact decide_eq_false_iff_not
theorem p_neginf : iRank 18442240474082181120 = 4503599627370495 := by decide +kernel
theorem p_nan : iRank 9221120237041090561 = 18444492273895866369 := by decide +kernel
theorem p_rank_ge {a : Int} (ha : U64 a) : 4503599627370495 ≤ iRank a := by
  have := Flt.rank_ge a.toNat (u64_nat ha)
  unfold iRank; omega
theorem p_rank_le {a : Int} (ha : U64 a) : iRank a ≤ 18444492273895866369 ∧ (iRank a = 18444492273895866369 ↔ iKind a = 3) := by
  have h := Flt.rank_le a.toNat (u64_nat ha)
  have k := @kind3 a
  rw [k, ← h.2]
  unfold iRank; omega
theorem u64_top {a b : Int} (ha : U64 a) (hb : U64 b) : U64 (iTop a b) := by
  have h1 := Flt.top_lt _ _ (u64_nat ha) (u64_nat hb)
  have e2 : Flt.maxW = 18446744073709551616 := rfl
  unfold U64 iTop; omega
theorem u64_sum {a b : Int} (ha : U64 a) (hb : U64 b) : U64 (iSum a b) := by
  have h1 := Flt.sum_lt _ _ (u64_nat ha) (u64_nat hb)
  have e2 : Flt.maxW = 18446744073709551616 := rfl
  unfold U64 iSum; omega
theorem p_sum_canon {a b : Int} (ha : U64 a) (hb : U64 b) : iCanon (iSum a b) = iSum a b := by
  unfold iCanon iSum; rw [Int.toNat_natCast, Flt.sum_is_canon _ _ (u64_nat ha) (u64_nat hb)]
theorem p_top_comm {a b : Int} (ha : U64 a) (hb : U64 b) : iTop a b = iTop b a := by
  unfold iTop; rw [Flt.top_comm _ _ (u64_nat ha) (u64_nat hb)]
theorem p_top_assoc {a b c : Int} (ha : U64 a) (hb : U64 b) (hc : U64 c) : iTop (iTop a b) c = iTop a (iTop b c) := by
  unfold iTop; rw [Int.toNat_natCast, Int.toNat_natCast, Flt.top_assoc _ _ _ (u64_nat ha) (u64_nat hb) (u64_nat hc)]
theorem p_top_one {a b : Int} : iTop a b = iCanon a ∨ iTop a b = iCanon b := by
  unfold iTop iCanon
  rcases Flt.top_one a.toNat b.toNat with h | h <;> rw [h]
  · exact Or.inl rfl
  · exact Or.inr rfl
theorem p_top_self {a : Int} : iTop a a = iCanon a := by unfold iTop iCanon; rw [Flt.top_self]
theorem p_top_rank {a b : Int} : iRank (iTop a b) = max (iRank a) (iRank b) := by
  unfold iRank iTop; rw [Int.toNat_natCast, Flt.top_rank]; omega
end Go.Proofs.YtlcpcgdecodjfaaDoor
namespace Go.Proofs.YtlcpcgdecodjfaaDoor
open Go.RowKit
set_option linter.unusedVariables false
set_option linter.unusedSimpArgs false


theorem rshifted_int (m b : Int) (h0 : 0 ≤ m) (hm : m < 18446744073709551616) (hb : 0 ≤ b) (hb2 : b ≤ 4096) (w : World) :
    Calls Tryd.prog 126 #[.int .u64 m, .int .i64 b] w fun e w' => e = .returned (.int .u64 (Flt.RO m.toNat b.toNat : Nat)) ∧ w = w' := by
  obtain ⟨n, rfl⟩ := Int.eq_ofNat_of_zero_le h0
  rw [Int.toNat_natCast]
  exact rshifted_any n b (by omega) hb hb2 w

/-- What is known of a finite word's parts. -/
theorem whole_bounds {x : Int} (hx : U64 x) (hf : Flt.mag x.toNat < Flt.infR) : ∃ e m : Int, ((Flt.wholeE x.toNat : Nat) : Int) = e ∧ ((Flt.wholeM x.toNat : Nat) : Int) = m ∧
    1 ≤ e ∧ e ≤ 2046 ∧ 0 ≤ m ∧ m < 72057594037927936 := by
  refine ⟨_, _, rfl, rfl, ?_⟩
  obtain ⟨h1, h2⟩ := whole_eq hx
  rw [h1, h2]
  have e1 : Flt.infR = 9218868437227405312 := rfl
  have e2 : Flt.sgnW = 9223372036854775808 := rfl
  unfold Flt.mag at hf
  rw [e1, e2] at hf
  unfold U64 at hx
  split <;> omega

theorem top_bits {x y : Int} (hx : 0 ≤ x) (hy : 0 ≤ y) : x / 9223372036854775808 = y / 9223372036854775808 ↔ x.toNat / 9223372036854775808 = y.toNat / 9223372036854775808 := by omega

theorem made_sum_int {x y e m f n r : Int} (hx : U64 x) (hy : U64 y) (h1 : Flt.mag x.toNat < Flt.infR) (h2 : Flt.mag y.toNat < Flt.infR) (h : y % 9223372036854775808 ≤ x % 9223372036854775808)
    (he : ((Flt.wholeE x.toNat : Nat) : Int) = e) (hm : ((Flt.wholeM x.toNat : Nat) : Int) = m) (hf : ((Flt.wholeE y.toNat : Nat) : Int) = f) (hn : ((Flt.wholeM y.toNat : Nat) : Int) = n)
    (hr : ((Flt.RO n.toNat (e - f).toNat : Nat) : Int) = r) :
    (x / 9223372036854775808 = y / 9223372036854775808 → iCanon ((Flt.made (x / 9223372036854775808).toNat e.toNat (m + r).toNat : Nat) : Int) = iSum x y) ∧
    (¬ x / 9223372036854775808 = y / 9223372036854775808 → iCanon ((Flt.made (x / 9223372036854775808).toNat e.toNat (m - r).toNat : Nat) : Int) = iSum x y) := by
  have hx' := u64_nat hx
  have hy' := u64_nat hy
  unfold U64 at hx hy
  have e2 : Flt.sgnW = 9223372036854775808 := rfl
  have key := Flt.made_sum x.toNat y.toNat hx' hy' h1 h2 (by unfold Flt.mag; rw [e2]; omega)
  have a1 : (x / 9223372036854775808).toNat = x.toNat / Flt.sgnW := by rw [e2]; omega
  have a2 : e.toNat = Flt.wholeE x.toNat := by omega
  have a3 : n.toNat = Flt.wholeM y.toNat := by omega
  have a4 : (e - f).toNat = Flt.wholeE x.toNat - Flt.wholeE y.toNat := by omega
  rw [a3, a4] at hr
  generalize Flt.RO (Flt.wholeM y.toNat) (Flt.wholeE x.toNat - Flt.wholeE y.toNat) = R at hr key
  have a5 : (m + r).toNat = Flt.wholeM x.toNat + R := by omega
  have a6 : (m - r).toNat = Flt.wholeM x.toNat - R := by omega
  have a7 : x / 9223372036854775808 = y / 9223372036854775808 ↔ x.toNat / Flt.sgnW = y.toNat / Flt.sgnW := top_bits hx.1 hy.1
  unfold iCanon iSum
  rw [Int.toNat_natCast, Int.toNat_natCast, a1, a2, a5, a6, a7]
  constructor
  · intro g; rw [if_pos g] at key; rw [key]
  · intro g; rw [if_neg g] at key; rw [key]

theorem shifted_bounds {n r : Int} {k : Nat} (h0 : 0 ≤ n) (hn : n < 72057594037927936) (hr : ((Flt.RO n.toNat k : Nat) : Int) = r) : 0 ≤ r ∧ r < 72057594037927936 := by
  have h1 := (Flt.RO_lt n.toNat k 36028797018963968).2 (Nat.lt_of_le_of_lt (Nat.div_le_self _ _) (by omega))
  omega
/-- Of two that fall in size the shifted one is no greater. -/
theorem shifted_le {x y e m f n r : Int} (hx : U64 x) (hy : U64 y) (h1 : Flt.mag x.toNat < Flt.infR) (h2 : Flt.mag y.toNat < Flt.infR) (h : y % 9223372036854775808 ≤ x % 9223372036854775808)
    (he : ((Flt.wholeE x.toNat : Nat) : Int) = e) (hm : ((Flt.wholeM x.toNat : Nat) : Int) = m) (hf : ((Flt.wholeE y.toNat : Nat) : Int) = f) (hn : ((Flt.wholeM y.toNat : Nat) : Int) = n)
    (hr : ((Flt.RO n.toNat (e - f).toNat : Nat) : Int) = r) : f ≤ e ∧ r ≤ m := by
  have e2 : Flt.sgnW = 9223372036854775808 := rfl
  unfold U64 at hx hy
  have hmag : Flt.mag y.toNat ≤ Flt.mag x.toNat := by unfold Flt.mag; rw [e2]; omega
  have g1 := Flt.wholeE_mono hmag
  refine ⟨by omega, ?_⟩
  have a3 : n.toNat = Flt.wholeM y.toNat := by omega
  have a4 : (e - f).toNat = Flt.wholeE x.toNat - Flt.wholeE y.toNat := by omega
  rw [a3, a4] at hr
  have hV : Flt.V (Flt.mag y.toNat) ≤ Flt.V (Flt.mag x.toNat) := by
    rcases Nat.lt_or_ge (Flt.mag y.toNat) (Flt.mag x.toNat) with g | g
    · exact Nat.le_of_lt (Flt.V_lt g)
    · rw [Nat.le_antisymm hmag g]; exact Nat.le_refl _
  have pb := Flt.wholeE_pos y.toNat
  obtain ⟨d, hd⟩ : ∃ d, Flt.wholeE x.toNat = d + Flt.wholeE y.toNat := ⟨Flt.wholeE x.toNat - Flt.wholeE y.toNat, by omega⟩
  rw [show Flt.wholeE x.toNat - Flt.wholeE y.toNat = d by omega] at hr
  have hle : 8 * Flt.mant y.toNat ≤ 8 * Flt.mant x.toNat * 2 ^ d := by
    rw [Flt.V_mant, Flt.V_mant, hd, show d + Flt.wholeE y.toNat - 1 = d + (Flt.wholeE y.toNat - 1) by omega, Nat.pow_add, ← Nat.mul_assoc] at hV
    have := Nat.le_of_mul_le_mul_right hV (Flt.pow_pos _)
    rw [Nat.mul_assoc]; omega
  have hq : Flt.wholeM y.toNat / 2 ^ d ≤ Flt.wholeM x.toNat := by
    rw [Flt.wholeM_eq, Flt.wholeM_eq]
    exact Nat.div_le_of_le_mul (by rw [Nat.mul_comm (2 ^ d)]; exact hle)
  have h8 := Flt.wholeM_eq x.toNat
  -- both even: 'RO' may add one only where something is left
  have : Flt.RO (Flt.wholeM y.toNat) d ≤ Flt.wholeM x.toNat := by
    rcases Nat.lt_or_ge (Flt.wholeM y.toNat / 2 ^ d) (Flt.wholeM x.toNat) with g | g
    · have := (Flt.RO_lt (Flt.wholeM y.toNat) d (4 * Flt.mant x.toNat)).2 (by omega)
      omega
    · have e : Flt.wholeM y.toNat / 2 ^ d = Flt.wholeM x.toNat := by omega
      have hdm := Nat.div_add_mod (Flt.wholeM y.toNat) (2 ^ d)
      have hz : Flt.wholeM y.toNat % 2 ^ d = 0 := by
        rw [e, Nat.mul_comm] at hdm
        rw [← Flt.wholeM_eq, ← Flt.wholeM_eq] at hle
        omega
      unfold Flt.RO; rw [if_pos hz, e]; exact Nat.le_refl _
  omega

theorem sum_nan {a b : Int} (h : iKind (iCanon a) = 3 ∨ iKind (iCanon b) = 3) : (9221120237041090561 : Int) = iSum a b := by
  rw [kind3, kind3] at h
  unfold iCanon at h; rw [Int.toNat_natCast, Int.toNat_natCast, Flt.mag_canon_nan, Flt.mag_canon_nan] at h
  unfold iSum Flt.sum; rw [if_pos h]; rfl
theorem sum_via {a b : Int} : iSum (iCanon a) (iCanon b) = iSum a b := by
  unfold iSum iCanon; rw [Int.toNat_natCast, Int.toNat_natCast, Flt.sum_canon]
theorem sum_swap {a b : Int} (ha : U64 a) (hb : U64 b) : iSum a b = iSum b a := by
  unfold iSum; rw [Flt.sum_comm _ _ (u64_nat ha) (u64_nat hb)]
theorem sum_inf {x y : Int} (hx : U64 x) (hy : U64 y) (h1 : ¬ iKind x = 3) (h2 : ¬ iKind y = 3) :
    (iKind x = 2 → iKind y = 2 → ¬ x = y → (9221120237041090561 : Int) = iSum x y) ∧ (iKind x = 2 → (iKind y = 2 → x = y) → x = iSum x y) ∧ (¬ iKind x = 2 → iKind y = 2 → y = iSum x y) := by
  have hx' := u64_nat hx
  have hy' := u64_nat hy
  rw [kind3] at h1 h2
  rw [kind2, kind2]
  unfold U64 at hx hy
  have e : iSum x y = (Flt.sum x.toNat y.toNat : Nat) := rfl
  rw [e]
  unfold Flt.sum
  rw [if_neg (by omega)]
  refine ⟨?_, ?_, ?_⟩
  · intro g1 g2 g3
    have := (Flt.same_inf _ _ hx' hy' g1 g2)
    rw [if_pos g1, if_pos ⟨g2, fun g => g3 (by have := this.1 g; omega)⟩]; rfl
  · intro g1 g2
    rw [if_pos g1, if_neg (fun g => g.2 (by rw [g2 g.1]))]; omega
  · intro g1 g2
    rw [if_neg g1, if_pos g2]; omega

theorem made_u64 {s e m : Int} (h0 : 0 ≤ s) (h1 : s ≤ 1) (h2 : 1 ≤ e) : U64 ((Flt.made s.toNat e.toNat m.toNat : Nat) : Int) := by
  have e1 : Flt.infR = 9218868437227405312 := rfl
  have e2 : Flt.sgnW = 9223372036854775808 := rfl
  unfold U64 Flt.made
  refine ⟨by omega, ?_⟩
  split
  · decide
  · unfold Flt.fin
    rw [e1, e2]
    generalize (_ : Nat) + Flt.cut _ _ = t
    omega

set_option maxRecDepth 10000 in
set_option maxHeartbeats 1000000 in
theorem rsum_canon (a b x y : Int) (hx : U64 x) (hy : U64 y) (ha : U64 a) (hb : U64 b) (cx : Hid (iCanon a = x)) (cy : Hid (iCanon b = y)) (w : World) :
    Calls Tryd.prog 107 #[.int .u64 a, .int .u64 b] w fun e w' => e = .returned (.int .u64 (iSum x y)) ∧ w = w' := by
  go_enter Tryd.func107, Tryd.ntmps107
  go_wp2_with fail
  refine (rcanon_any a ha _).mono ?_
  rintro e w' ⟨rfl, rfl⟩
  rw [cx.out]
  go_wp2_with fail
  refine (rcanon_any b hb _).mono ?_
  rintro e w' ⟨rfl, rfl⟩
  rw [cy.out]
  by_cases k3x : iKind x = 3
  · have R : Hid (9221120237041090561 = iSum x y) := by
      show _ = _
      have := @sum_nan a b (Or.inl (by rw [cx.out]; exact k3x))
      rw [this, ← @sum_via a b, cx.out, cy.out]
    go_wp2_with (go_at_call 62; refine (rkind_any _ (by assumption) _).mono ?_; rintro e w' ⟨rfl, rfl⟩)
    all_goals (go_ret; exact ⟨ret_int R.out, rfl⟩)
  by_cases k3y : iKind y = 3
  · have R : Hid (9221120237041090561 = iSum x y) := by
      show _ = _
      have := @sum_nan a b (Or.inr (by rw [cy.out]; exact k3y))
      rw [this, ← @sum_via a b, cx.out, cy.out]
    go_wp2_with (go_at_call 62; refine (rkind_any _ (by assumption) _).mono ?_; rintro e w' ⟨rfl, rfl⟩)
    all_goals (go_ret; exact ⟨ret_int R.out, rfl⟩)
  have S := sum_inf hx hy k3x k3y
  have HS : Hid _ := S
  clear S
  have b3x : (iKind x == 3) = false := beq_eq_false_iff_ne.2 k3x
  have b3y : (iKind y == 3) = false := beq_eq_false_iff_ne.2 k3y
  by_cases k2x : iKind x = 2
  · by_cases k2y : iKind y = 2
    · by_cases exy : x = y
      · subst exy
        have R : Hid (x = iSum x x) := HS.out.2.1 k2x (fun _ => rfl)
        go_wp2_with (go_at_call 62; refine (rkind_any _ (by assumption) _).mono ?_; rintro e w' ⟨rfl, rfl⟩)
        all_goals (go_ret; exact ⟨ret_int R.out, rfl⟩)
      · have R : Hid _ := HS.out.1 k2x k2y exy
        have n2 : (x != y) = true := bne_iff_ne.2 exy
        go_wp2_with (go_at_call 62; refine (rkind_any _ (by assumption) _).mono ?_; rintro e w' ⟨rfl, rfl⟩)
        all_goals (go_ret; exact ⟨ret_int R.out, rfl⟩)
    · have R : Hid (x = iSum x y) := HS.out.2.1 k2x (fun h => absurd h k2y)
      have b2y : (iKind y == 2) = false := beq_eq_false_iff_ne.2 k2y
      go_wp2_with (go_at_call 62; refine (rkind_any _ (by assumption) _).mono ?_; rintro e w' ⟨rfl, rfl⟩)
      all_goals (go_ret; exact ⟨ret_int R.out, rfl⟩)
  have b2x : (iKind x == 2) = false := beq_eq_false_iff_ne.2 k2x
  by_cases k2y : iKind y = 2
  · have R : Hid (y = iSum x y) := HS.out.2.2 k2x k2y
    go_wp2_with (go_at_call 62; refine (rkind_any _ (by assumption) _).mono ?_; rintro e w' ⟨rfl, rfl⟩)
    all_goals (go_ret; exact ⟨ret_int R.out, rfl⟩)
  have b2y : (iKind y == 2) = false := beq_eq_false_iff_ne.2 k2y
  have fx : Flt.mag x.toNat < Flt.infR := by rw [kind3] at k3x; rw [kind2] at k2x; omega
  have fy : Flt.mag y.toNat < Flt.infR := by rw [kind3] at k3y; rw [kind2] at k2y; omega
  clear HS
  by_cases hlt : x % 9223372036854775808 < y % 9223372036854775808
  · have HLT : Hid (x % 9223372036854775808 < y % 9223372036854775808) := hlt
    have hd : decide (x % 9223372036854775808 < y % 9223372036854775808) = true := decide_eq_true hlt
    clear hlt
    go_wp2_with (first | (go_at_call 62; refine (rkind_any _ (by assumption) _).mono ?_; rintro e w' ⟨rfl, rfl⟩) | (go_at_call 124; refine (rlesser_any x y hx hy _).mono ?_; rintro e w' ⟨rfl, rfl⟩))
    clear k3x k3y k2x k2y b3x b3y b2x b2y hd
    · -- the greater one: y
      obtain ⟨e, m, he, hm, e1, e2, m1, m2⟩ := whole_bounds hy fy
      obtain ⟨f, n, hf, hn, f1, f2, n1, n2⟩ := whole_bounds hx fx
      have hle : x % 9223372036854775808 ≤ y % 9223372036854775808 := by have := HLT.out; omega
      have LE : Hid (x % 9223372036854775808 ≤ y % 9223372036854775808) := hle
      clear hle
      have HE : Hid _ := he
      have HM : Hid _ := hm
      have HF : Hid _ := hf
      have HN : Hid _ := hn
      have fe := (shifted_le hy hx fy fx LE.out he hm hf hn rfl).1
      clear he hm hf hn
      refine (rwhole_any y hy _).mono ?_
      rintro e' w' ⟨rfl, rfl⟩
      rw [HE.out, HM.out]
      go_wp2_with fail
      refine (rwhole_any x hx _).mono ?_
      rintro e' w' ⟨rfl, rfl⟩
      rw [HF.out, HN.out]
      go_wp2_with fail
      refine (rshifted_int n _ n1 (by omega) (by omega) (by omega) _).mono ?_
      rintro e' w' ⟨rfl, rfl⟩
      obtain ⟨r, hr⟩ : ∃ r : Int, ((Flt.RO n.toNat (e - f).toNat : Nat) : Int) = r := ⟨_, rfl⟩
      have hb := shifted_bounds n1 n2 hr
      have hl := (shifted_le hy hx fy fx LE.out HE.out HM.out HF.out HN.out hr).2
      have HS : Hid _ := made_sum_int hy hx fy fx LE.out HE.out HM.out HF.out HN.out hr
      rw [hr]
      clear hr
      obtain ⟨r0, r1⟩ := hb
      obtain ⟨x0, x1⟩ := id hy
      obtain ⟨y0, y1⟩ := id hx
      by_cases hs : y / 9223372036854775808 = x / 9223372036854775808
      · have R := HS.out.1 hs
        have HR : Hid _ := R
        have hs' : (y / 9223372036854775808 == x / 9223372036854775808) = true := by rw [hs]; exact beq_self_eq_true _
        clear R hs HS
        go_wp2_with fail
        refine (rmade_any _ _ _ (by omega) (by omega) e1 e2 (by omega) (by omega) _).mono ?_
        rintro e' w' ⟨rfl, rfl⟩
        go_wp2_with fail
        refine (rcanon_any _ (made_u64 (by omega) (by omega) (by omega)) _).mono ?_
        rintro e' w' ⟨rfl, rfl⟩
        go_wp2_with fail
        go_ret; exact ⟨ret_int (by rw [HR.out, sum_swap hy hx]), rfl⟩
      · have R := HS.out.2 hs
        have HR : Hid _ := R
        have hs' : (y / 9223372036854775808 == x / 9223372036854775808) = false := by rw [beq_eq_false_iff_ne]; exact hs
        clear R hs HS
        go_wp2_with fail
        refine (rmade_any _ _ _ (by omega) (by omega) e1 e2 (by omega) (by omega) _).mono ?_
        rintro e' w' ⟨rfl, rfl⟩
        go_wp2_with fail
        refine (rcanon_any _ (made_u64 (by omega) (by omega) (by omega)) _).mono ?_
        rintro e' w' ⟨rfl, rfl⟩
        go_wp2_with fail
        go_ret; exact ⟨ret_int (by rw [HR.out, sum_swap hy hx]), rfl⟩
  · have HLT : Hid (¬ x % 9223372036854775808 < y % 9223372036854775808) := hlt
    have hd : decide (x % 9223372036854775808 < y % 9223372036854775808) = false := decide_eq_false hlt
    clear hlt
    go_wp2_with (first | (go_at_call 62; refine (rkind_any _ (by assumption) _).mono ?_; rintro e w' ⟨rfl, rfl⟩) | (go_at_call 124; refine (rlesser_any x y hx hy _).mono ?_; rintro e w' ⟨rfl, rfl⟩))
    clear k3x k3y k2x k2y b3x b3y b2x b2y hd
    · -- the greater one: x
      obtain ⟨e, m, he, hm, e1, e2, m1, m2⟩ := whole_bounds hx fx
      obtain ⟨f, n, hf, hn, f1, f2, n1, n2⟩ := whole_bounds hy fy
      have hle : y % 9223372036854775808 ≤ x % 9223372036854775808 := by have := HLT.out; omega
      have LE : Hid (y % 9223372036854775808 ≤ x % 9223372036854775808) := hle
      clear hle
      have HE : Hid _ := he
      have HM : Hid _ := hm
      have HF : Hid _ := hf
      have HN : Hid _ := hn
      have fe := (shifted_le hx hy fx fy LE.out he hm hf hn rfl).1
      clear he hm hf hn
      refine (rwhole_any x hx _).mono ?_
      rintro e' w' ⟨rfl, rfl⟩
      rw [HE.out, HM.out]
      go_wp2_with fail
      refine (rwhole_any y hy _).mono ?_
      rintro e' w' ⟨rfl, rfl⟩
      rw [HF.out, HN.out]
      go_wp2_with fail
      refine (rshifted_int n _ n1 (by omega) (by omega) (by omega) _).mono ?_
      rintro e' w' ⟨rfl, rfl⟩
      obtain ⟨r, hr⟩ : ∃ r : Int, ((Flt.RO n.toNat (e - f).toNat : Nat) : Int) = r := ⟨_, rfl⟩
      have hb := shifted_bounds n1 n2 hr
      have hl := (shifted_le hx hy fx fy LE.out HE.out HM.out HF.out HN.out hr).2
      have HS : Hid _ := made_sum_int hx hy fx fy LE.out HE.out HM.out HF.out HN.out hr
      rw [hr]
      clear hr
      obtain ⟨r0, r1⟩ := hb
      obtain ⟨x0, x1⟩ := id hx
      obtain ⟨y0, y1⟩ := id hy
      by_cases hs : x / 9223372036854775808 = y / 9223372036854775808
      · have R := HS.out.1 hs
        have HR : Hid _ := R
        have hs' : (x / 9223372036854775808 == y / 9223372036854775808) = true := by rw [hs]; exact beq_self_eq_true _
        clear R hs HS
        go_wp2_with fail
        refine (rmade_any _ _ _ (by omega) (by omega) e1 e2 (by omega) (by omega) _).mono ?_
        rintro e' w' ⟨rfl, rfl⟩
        go_wp2_with fail
        refine (rcanon_any _ (made_u64 (by omega) (by omega) (by omega)) _).mono ?_
        rintro e' w' ⟨rfl, rfl⟩
        go_wp2_with fail
        go_ret; exact ⟨ret_int (by rw [HR.out]), rfl⟩
      · have R := HS.out.2 hs
        have HR : Hid _ := R
        have hs' : (x / 9223372036854775808 == y / 9223372036854775808) = false := by rw [beq_eq_false_iff_ne]; exact hs
        clear R hs HS
        go_wp2_with fail
        refine (rmade_any _ _ _ (by omega) (by omega) e1 e2 (by omega) (by omega) _).mono ?_
        rintro e' w' ⟨rfl, rfl⟩
        go_wp2_with fail
        refine (rcanon_any _ (made_u64 (by omega) (by omega) (by omega)) _).mono ?_
        rintro e' w' ⟨rfl, rfl⟩
        go_wp2_with fail
        go_ret; exact ⟨ret_int (by rw [HR.out]), rfl⟩

theorem rsum_any (a b : Int) (ha : U64 a) (hb : U64 b) (w : World) : Calls Tryd.prog 107 #[.int .u64 a, .int .u64 b] w fun e w' => e = .returned (.int .u64 (iSum a b)) ∧ w = w' := by
  have h := rsum_canon a b _ _ (u64_canon ha) (u64_canon hb) ha hb rfl rfl w
  rw [sum_via] at h
  exact h

end Go.Proofs.YtlcpcgdecodjfaaDoor
namespace Go.Proofs.YtlcpcgdecodjfaaDoor
open Go.RowKit Go.Proofs.YtlcpcgdecodjfaaDoor.Am
set_option linter.unusedVariables false
set_option linter.unusedSimpArgs false

def ipick (c n : Int) : Int := (if c < 0 then -(c + 1) else c) % n
theorem ipick_bounds (c : Int) {n : Int} (hn : 0 < n) : 0 ≤ ipick c n ∧ ipick c n < n := ⟨Int.emod_nonneg _ (by omega), Int.emod_lt_of_pos _ hn⟩
theorem ipick_val (c n : Int) (hc : I64 c) : (if c < 0 then IntKind.i64.wrap (0 - IntKind.i64.wrap (c + 1)) else c).tmod n = ipick c n := by
  obtain ⟨c1, c2⟩ := hc
  have e : (if c < 0 then IntKind.i64.wrap (0 - IntKind.i64.wrap (c + 1)) else c) = if c < 0 then -(c + 1) else c := by
    split
    · rw [wrap64 (a := c + 1) (by omega) (by omega), wrap64 (by omega) (by omega)]; omega
    · rfl
  rw [e]; unfold ipick
  exact Int.tmod_eq_emod_of_nonneg (by split <;> omega)
set_option maxRecDepth 100000 in
theorem pick09_pure (c n : Int) (hc : I64 c) (hn : 0 < n) (hn2 : n ≤ 4096) : Pure Tryd.prog glR 57 [.v (.int .i64 c), .v (.int .i64 n)] (.v (.int .i64 (ipick c n))) := by
  have hv := ipick_val c n hc
  refine pure_of (C := ctx0 Tryd.prog) ctx0_good Tryd.func57 (c := bodyOf Tryd.f57) (by rfl) (Nat.le_of_ble_eq_true (by rfl)) 4 0 [0, 1, 2, 4, 6] ?_
  conv => whnf
  repeat' (first | (refine ifB_t (by assumption) ?_; conv => whnf) | (refine ifB_f (by assumption) ?_; conv => whnf) | (refine ifB_dec (fun h => ?_) (fun h => ?_) <;> (first | (exfalso; omega) | (conv => whnf))) | (refine ifB_eq (fun h => ?_) (fun h => ?_) <;> (first | (exfalso; omega) | (conv => whnf))) | (refine ifB_ne (fun h => ?_) (fun h => ?_) <;> (first | (exfalso; omega) | (conv => whnf))) | (refine ifB_not ?_; conv => whnf) | (refine ifB_and ?_; conv => whnf) | (refine ifB_or ?_; conv => whnf) | (refine And.intro ?_ ?_; (first | omega | assumption | (exact allU_getD (by assumption) _) | (simp only [cutL]; omega) | (refine And.intro ?_ ?_ <;> first | assumption | exact allU_getD (by assumption) _) | (simp only [cutL, IntKind.wrap_u64, IntKind.wrap_i64] at *; omega) | decide); conv => whnf))
  · rw [if_pos h] at hv; exact congrArg (fun b => T.v (Value.int .i64 b)) hv
  · rw [if_neg h] at hv; exact congrArg (fun b => T.v (Value.int .i64 b)) hv
def ePick09 : Entry := ⟨57, 3, fun l => match l with | [.v (.int .i64 c), .v (.int .i64 n)] => some (some (I64 c ∧ 0 < n ∧ n ≤ 4096), .v (.int .i64 (ipick c n)), []) | _ => none⟩
theorem ePick09_ok : ePick09.ok Tryd.prog glR := ⟨enters_of Tryd.func57 (by kernel_rfl) (by kernel_rfl), by
  intro args c t bs h hc
  simp only [ePick09] at h
  split at h <;> cases h
  replace hc := hc _ rfl
  exact pick09_pure _ _ hc.1 hc.2.1 hc.2.2⟩
set_option maxRecDepth 100000 in
theorem pick13_pure (c n : Int) (hc : I64 c) (hn : 0 < n) (hn2 : n ≤ 4096) : Pure Tryd.prog glR 31 [.v (.int .i64 c), .v (.int .i64 n)] (.v (.int .i64 (ipick c n))) := by
  have hv := ipick_val c n hc
  refine pure_of (C := ctx0 Tryd.prog) ctx0_good Tryd.func31 (c := bodyOf Tryd.f31) (by rfl) (Nat.le_of_ble_eq_true (by rfl)) 4 0 [0, 1, 2, 4, 6] ?_
  conv => whnf
  repeat' (first | (refine ifB_t (by assumption) ?_; conv => whnf) | (refine ifB_f (by assumption) ?_; conv => whnf) | (refine ifB_dec (fun h => ?_) (fun h => ?_) <;> (first | (exfalso; omega) | (conv => whnf))) | (refine ifB_eq (fun h => ?_) (fun h => ?_) <;> (first | (exfalso; omega) | (conv => whnf))) | (refine ifB_ne (fun h => ?_) (fun h => ?_) <;> (first | (exfalso; omega) | (conv => whnf))) | (refine ifB_not ?_; conv => whnf) | (refine ifB_and ?_; conv => whnf) | (refine ifB_or ?_; conv => whnf) | (refine And.intro ?_ ?_; (first | omega | assumption | (exact allU_getD (by assumption) _) | (simp only [cutL]; omega) | (refine And.intro ?_ ?_ <;> first | assumption | exact allU_getD (by assumption) _) | (simp only [cutL, IntKind.wrap_u64, IntKind.wrap_i64] at *; omega) | decide); conv => whnf))
  · rw [if_pos h] at hv; exact congrArg (fun b => T.v (Value.int .i64 b)) hv
  · rw [if_neg h] at hv; exact congrArg (fun b => T.v (Value.int .i64 b)) hv
def ePick13 : Entry := ⟨31, 3, fun l => match l with | [.v (.int .i64 c), .v (.int .i64 n)] => some (some (I64 c ∧ 0 < n ∧ n ≤ 4096), .v (.int .i64 (ipick c n)), []) | _ => none⟩
theorem ePick13_ok : ePick13.ok Tryd.prog glR := ⟨enters_of Tryd.func31 (by kernel_rfl) (by kernel_rfl), by
  intro args c t bs h hc
  simp only [ePick13] at h
  split at h <;> cases h
  replace hc := hc _ rfl
  exact pick13_pure _ _ hc.1 hc.2.1 hc.2.2⟩
set_option maxRecDepth 100000 in
theorem pick14_pure (c n : Int) (hc : I64 c) (hn : 0 < n) (hn2 : n ≤ 4096) : Pure Tryd.prog glR 11 [.v (.int .i64 c), .v (.int .i64 n)] (.v (.int .i64 (ipick c n))) := by
  have hv := ipick_val c n hc
  refine pure_of (C := ctx0 Tryd.prog) ctx0_good Tryd.func11 (c := bodyOf Tryd.f11) (by rfl) (Nat.le_of_ble_eq_true (by rfl)) 4 0 [0, 1, 2, 4, 6] ?_
  conv => whnf
  repeat' (first | (refine ifB_t (by assumption) ?_; conv => whnf) | (refine ifB_f (by assumption) ?_; conv => whnf) | (refine ifB_dec (fun h => ?_) (fun h => ?_) <;> (first | (exfalso; omega) | (conv => whnf))) | (refine ifB_eq (fun h => ?_) (fun h => ?_) <;> (first | (exfalso; omega) | (conv => whnf))) | (refine ifB_ne (fun h => ?_) (fun h => ?_) <;> (first | (exfalso; omega) | (conv => whnf))) | (refine ifB_not ?_; conv => whnf) | (refine ifB_and ?_; conv => whnf) | (refine ifB_or ?_; conv => whnf) | (refine And.intro ?_ ?_; (first | omega | assumption | (exact allU_getD (by assumption) _) | (simp only [cutL]; omega) | (refine And.intro ?_ ?_ <;> first | assumption | exact allU_getD (by assumption) _) | (simp only [cutL, IntKind.wrap_u64, IntKind.wrap_i64] at *; omega) | decide); conv => whnf))
  · rw [if_pos h] at hv; exact congrArg (fun b => T.v (Value.int .i64 b)) hv
  · rw [if_neg h] at hv; exact congrArg (fun b => T.v (Value.int .i64 b)) hv
def ePick14 : Entry := ⟨11, 3, fun l => match l with | [.v (.int .i64 c), .v (.int .i64 n)] => some (some (I64 c ∧ 0 < n ∧ n ≤ 4096), .v (.int .i64 (ipick c n)), []) | _ => none⟩
theorem ePick14_ok : ePick14.ok Tryd.prog glR := ⟨enters_of Tryd.func11 (by kernel_rfl) (by kernel_rfl), by
  intro args c t bs h hc
  simp only [ePick14] at h
  split at h <;> cases h
  replace hc := hc _ rfl
  exact pick14_pure _ _ hc.1 hc.2.1 hc.2.2⟩

/-! ### floats -/
theorem canon_pure (a : Int) (ha : U64 a) : Pure Tryd.prog glR 38 [.v (.int .u64 a)] (.v (.int .u64 (iCanon a))) := pure_v1 rfl rfl fun w _ => (canon_any a ha w).mono (by rintro e w' ⟨rfl, rfl⟩; exact ⟨rfl, Below.refl _ _⟩)
def eCanon : Entry := ⟨38, 3, fun l => match l with | [.v (.int .u64 a)] => some (some (U64 a), .v (.int .u64 (iCanon a)), []) | _ => none⟩
theorem eCanon_ok : eCanon.ok Tryd.prog glR := ⟨enters_of Tryd.func38 (by kernel_rfl) (by kernel_rfl), by
  intro args c t bs h hc
  simp only [eCanon] at h
  split at h <;> cases h
  replace hc := hc _ rfl
  exact canon_pure _ hc⟩
theorem rank_pure (a : Int) (ha : U64 a) : Pure Tryd.prog glR 36 [.v (.int .u64 a)] (.v (.int .u64 (iRank a))) := pure_v1 rfl rfl fun w _ => (rank_any a ha w).mono (by rintro e w' ⟨rfl, rfl⟩; exact ⟨rfl, Below.refl _ _⟩)
def eRank : Entry := ⟨36, 3, fun l => match l with | [.v (.int .u64 a)] => some (some (U64 a), .v (.int .u64 (iRank a)), []) | _ => none⟩
theorem eRank_ok : eRank.ok Tryd.prog glR := ⟨enters_of Tryd.func36 (by kernel_rfl) (by kernel_rfl), by
  intro args c t bs h hc
  simp only [eRank] at h
  split at h <;> cases h
  replace hc := hc _ rfl
  exact rank_pure _ hc⟩
theorem less_pure (a b : Int) (ha : U64 a) (hb : U64 b) : Pure Tryd.prog glR 39 [.v (.int .u64 a), .v (.int .u64 b)] (.v (.bool (bLess a b))) := pure_v1 rfl rfl fun w _ => (less_any a b ha hb w).mono (by rintro e w' ⟨rfl, rfl⟩; exact ⟨rfl, Below.refl _ _⟩)
def eLess : Entry := ⟨39, 3, fun l => match l with | [.v (.int .u64 a), .v (.int .u64 b)] => some (some (U64 a ∧ U64 b), .v (.bool (bLess a b)), []) | _ => none⟩
theorem eLess_ok : eLess.ok Tryd.prog glR := ⟨enters_of Tryd.func39 (by kernel_rfl) (by kernel_rfl), by
  intro args c t bs h hc
  simp only [eLess] at h
  split at h <;> cases h
  replace hc := hc _ rfl
  exact less_pure _ _ hc.1 hc.2⟩
theorem word_pure (a : Int) (ha : U64 a) : Pure Tryd.prog glR 100 [.v (.int .u64 a)] (.tup [.v (.int .u64 (iWord a)), .v (.bool (bWordOk a))]) := pure_v2 rfl rfl rfl fun w _ => (word_any a ha w).mono (by rintro e w' ⟨rfl, rfl⟩; exact ⟨rfl, Below.refl _ _⟩)
def eWord : Entry := ⟨100, 3, fun l => match l with | [.v (.int .u64 a)] => some (some (U64 a), .tup [.v (.int .u64 (iWord a)), .v (.bool (bWordOk a))], []) | _ => none⟩
theorem eWord_ok : eWord.ok Tryd.prog glR := ⟨enters_of Tryd.func100 (by kernel_rfl) (by kernel_rfl), by
  intro args c t bs h hc
  simp only [eWord] at h
  split at h <;> cases h
  replace hc := hc _ rfl
  exact word_pure _ hc⟩
theorem max_pure (a b : Int) (ha : U64 a) (hb : U64 b) : Pure Tryd.prog glR 79 [.v (.int .u64 a), .v (.int .u64 b)] (.v (.int .u64 (iTop a b))) := pure_v1 rfl rfl fun w _ => (max_any a b ha hb w).mono (by rintro e w' ⟨rfl, rfl⟩; exact ⟨rfl, Below.refl _ _⟩)
def eMax : Entry := ⟨79, 3, fun l => match l with | [.v (.int .u64 a), .v (.int .u64 b)] => some (some (U64 a ∧ U64 b), .v (.int .u64 (iTop a b)), []) | _ => none⟩
theorem eMax_ok : eMax.ok Tryd.prog glR := ⟨enters_of Tryd.func79 (by kernel_rfl) (by kernel_rfl), by
  intro args c t bs h hc
  simp only [eMax] at h
  split at h <;> cases h
  replace hc := hc _ rfl
  exact max_pure _ _ hc.1 hc.2⟩
theorem sum_pure (a b : Int) (ha : U64 a) (hb : U64 b) : Pure Tryd.prog glR 80 [.v (.int .u64 a), .v (.int .u64 b)] (.v (.int .u64 (iSum a b))) := pure_v1 rfl rfl fun w _ => (sum_any a b ha hb w).mono (by rintro e w' ⟨rfl, n, rfl⟩; exact ⟨rfl, below_drewN (Below.refl _ _) n⟩)
def eSum : Entry := ⟨80, 3, fun l => match l with | [.v (.int .u64 a), .v (.int .u64 b)] => some (some (U64 a ∧ U64 b), .v (.int .u64 (iSum a b)), []) | _ => none⟩
theorem eSum_ok : eSum.ok Tryd.prog glR := ⟨enters_of Tryd.func80 (by kernel_rfl) (by kernel_rfl), by
  intro args c t bs h hc
  simp only [eSum] at h
  split at h <;> cases h
  replace hc := hc _ rfl
  exact sum_pure _ _ hc.1 hc.2⟩
theorem rcanon_pure (a : Int) (ha : U64 a) : Pure Tryd.prog glR 28 [.v (.int .u64 a)] (.v (.int .u64 (iCanon a))) := pure_v1 rfl rfl fun w _ => (rcanon_any a ha w).mono (by rintro e w' ⟨rfl, rfl⟩; exact ⟨rfl, Below.refl _ _⟩)
def eRCanon : Entry := ⟨28, 3, fun l => match l with | [.v (.int .u64 a)] => some (some (U64 a), .v (.int .u64 (iCanon a)), []) | _ => none⟩
theorem eRCanon_ok : eRCanon.ok Tryd.prog glR := ⟨enters_of Tryd.func28 (by kernel_rfl) (by kernel_rfl), by
  intro args c t bs h hc
  simp only [eRCanon] at h
  split at h <;> cases h
  replace hc := hc _ rfl
  exact rcanon_pure _ hc⟩
theorem rrank_pure (a : Int) (ha : U64 a) : Pure Tryd.prog glR 91 [.v (.int .u64 a)] (.v (.int .u64 (iRank a))) := pure_v1 rfl rfl fun w _ => (rrank_any a ha w).mono (by rintro e w' ⟨rfl, rfl⟩; exact ⟨rfl, Below.refl _ _⟩)
def eRRank : Entry := ⟨91, 3, fun l => match l with | [.v (.int .u64 a)] => some (some (U64 a), .v (.int .u64 (iRank a)), []) | _ => none⟩
theorem eRRank_ok : eRRank.ok Tryd.prog glR := ⟨enters_of Tryd.func91 (by kernel_rfl) (by kernel_rfl), by
  intro args c t bs h hc
  simp only [eRRank] at h
  split at h <;> cases h
  replace hc := hc _ rfl
  exact rrank_pure _ hc⟩
theorem rless_pure (a b : Int) (ha : U64 a) (hb : U64 b) : Pure Tryd.prog glR 123 [.v (.int .u64 a), .v (.int .u64 b)] (.v (.bool (bLess a b))) := pure_v1 rfl rfl fun w _ => (rless_any a b ha hb w).mono (by rintro e w' ⟨rfl, rfl⟩; exact ⟨rfl, Below.refl _ _⟩)
def eRLess : Entry := ⟨123, 3, fun l => match l with | [.v (.int .u64 a), .v (.int .u64 b)] => some (some (U64 a ∧ U64 b), .v (.bool (bLess a b)), []) | _ => none⟩
theorem eRLess_ok : eRLess.ok Tryd.prog glR := ⟨enters_of Tryd.func123 (by kernel_rfl) (by kernel_rfl), by
  intro args c t bs h hc
  simp only [eRLess] at h
  split at h <;> cases h
  replace hc := hc _ rfl
  exact rless_pure _ _ hc.1 hc.2⟩
theorem rword_pure (a : Int) (ha : U64 a) : Pure Tryd.prog glR 118 [.v (.int .u64 a)] (.tup [.v (.int .u64 (iWord a)), .v (.bool (bWordOk a))]) := pure_v2 rfl rfl rfl fun w _ => (rword_any a ha w).mono (by rintro e w' ⟨rfl, rfl⟩; exact ⟨rfl, Below.refl _ _⟩)
def eRWord : Entry := ⟨118, 3, fun l => match l with | [.v (.int .u64 a)] => some (some (U64 a), .tup [.v (.int .u64 (iWord a)), .v (.bool (bWordOk a))], []) | _ => none⟩
theorem eRWord_ok : eRWord.ok Tryd.prog glR := ⟨enters_of Tryd.func118 (by kernel_rfl) (by kernel_rfl), by
  intro args c t bs h hc
  simp only [eRWord] at h
  split at h <;> cases h
  replace hc := hc _ rfl
  exact rword_pure _ hc⟩
theorem rmax_pure (a b : Int) (ha : U64 a) (hb : U64 b) : Pure Tryd.prog glR 106 [.v (.int .u64 a), .v (.int .u64 b)] (.v (.int .u64 (iTop a b))) := pure_v1 rfl rfl fun w _ => (rmax_any a b ha hb w).mono (by rintro e w' ⟨rfl, rfl⟩; exact ⟨rfl, Below.refl _ _⟩)
def eRMax : Entry := ⟨106, 3, fun l => match l with | [.v (.int .u64 a), .v (.int .u64 b)] => some (some (U64 a ∧ U64 b), .v (.int .u64 (iTop a b)), []) | _ => none⟩
theorem eRMax_ok : eRMax.ok Tryd.prog glR := ⟨enters_of Tryd.func106 (by kernel_rfl) (by kernel_rfl), by
  intro args c t bs h hc
  simp only [eRMax] at h
  split at h <;> cases h
  replace hc := hc _ rfl
  exact rmax_pure _ _ hc.1 hc.2⟩
theorem rsum_pure (a b : Int) (ha : U64 a) (hb : U64 b) : Pure Tryd.prog glR 107 [.v (.int .u64 a), .v (.int .u64 b)] (.v (.int .u64 (iSum a b))) := pure_v1 rfl rfl fun w _ => (rsum_any a b ha hb w).mono (by rintro e w' ⟨rfl, rfl⟩; exact ⟨rfl, Below.refl _ _⟩)
def eRSum : Entry := ⟨107, 3, fun l => match l with | [.v (.int .u64 a), .v (.int .u64 b)] => some (some (U64 a ∧ U64 b), .v (.int .u64 (iSum a b)), []) | _ => none⟩
theorem eRSum_ok : eRSum.ok Tryd.prog glR := ⟨enters_of Tryd.func107 (by kernel_rfl) (by kernel_rfl), by
  intro args c t bs h hc
  simp only [eRSum] at h
  split at h <;> cases h
  replace hc := hc _ rfl
  exact rsum_pure _ _ hc.1 hc.2⟩

/-! ### slices -/
set_option maxRecDepth 100000 in
theorem clone_pure (n : Nat) (xs : List Int) (hn : n ≤ 1000000) : Pure Tryd.prog glR 58 [.fl [.u64] n xs] (.ow 0 1 n) [(0, .fl [.u64] xs)] := by
  refine pure_wf fun hw => ?_
  obtain ⟨⟨w1, w2⟩, -⟩ := hw
  refine pure_of (C := ctx0 Tryd.prog) ctx0_good Tryd.func58 (c := bodyOf Tryd.f58) (by rfl) (Nat.le_of_ble_eq_true (by rfl)) 4 0 [0, 2, 4] ?_
  conv => whnf
  intro b hb
  cases b
  · conv => whnf
    repeat' (first | (refine ifB_t (by assumption) ?_; conv => whnf) | (refine ifB_f (by assumption) ?_; conv => whnf) | (refine ifB_dec (fun h => ?_) (fun h => ?_) <;> (first | (exfalso; omega) | (conv => whnf))) | (refine ifB_eq (fun h => ?_) (fun h => ?_) <;> (first | (exfalso; omega) | (conv => whnf))) | (refine ifB_ne (fun h => ?_) (fun h => ?_) <;> (first | (exfalso; omega) | (conv => whnf))) | (refine ifB_not ?_; conv => whnf) | (refine ifB_and ?_; conv => whnf) | (refine ifB_or ?_; conv => whnf) | (refine And.intro ?_ ?_; (first | omega | assumption | (exact allU_getD (by assumption) _) | (simp only [cutL]; omega) | (refine And.intro ?_ ?_ <;> first | assumption | exact allU_getD (by assumption) _) | (simp only [cutL, IntKind.wrap_u64, IntKind.wrap_i64] at *; omega) | decide); conv => whnf))
    repeat' (first | exact trivial | exact rfl | (refine And.intro ?_ ?_) | ((conv => whnf); done) | ((conv => whnf); (first | rfl | (refine congrArg (fun b => T.v (Value.bool b)) ?_; first | rfl | exact (decide_eq_true (by omega)).symm | exact (decide_eq_false (by omega)).symm | exact decide_eq_decide.2 (by omega)) | (refine congrArg (fun b => T.v (Value.int _ b)) ?_; first | rfl | omega) | omega)) | (first | rfl | (refine congrArg (fun b => T.v (Value.bool b)) ?_; first | rfl | exact (decide_eq_true (by omega)).symm | exact (decide_eq_false (by omega)).symm | exact decide_eq_decide.2 (by omega)) | (refine congrArg (fun b => T.v (Value.int _ b)) ?_; first | rfl | omega) | omega))
  · have := hb rfl
    subst this
    obtain rfl : xs = [] := List.eq_nil_of_length_eq_zero (by simpa using w1)
    conv => whnf
    repeat' (first | exact trivial | exact rfl | (refine And.intro ?_ ?_) | ((conv => whnf); done) | ((conv => whnf); (first | rfl | (refine congrArg (fun b => T.v (Value.bool b)) ?_; first | rfl | exact (decide_eq_true (by omega)).symm | exact (decide_eq_false (by omega)).symm | exact decide_eq_decide.2 (by omega)) | (refine congrArg (fun b => T.v (Value.int _ b)) ?_; first | rfl | omega) | omega)) | (first | rfl | (refine congrArg (fun b => T.v (Value.bool b)) ?_; first | rfl | exact (decide_eq_true (by omega)).symm | exact (decide_eq_false (by omega)).symm | exact decide_eq_decide.2 (by omega)) | (refine congrArg (fun b => T.v (Value.int _ b)) ?_; first | rfl | omega) | omega))
set_option maxRecDepth 100000 in
theorem equal_pure (n m : Nat) (xs ys : List Int) : Pure Tryd.prog glR 93 [.fl [.u64] n xs, .fl [.u64] m ys] (.v (.bool (decide (xs = ys)))) := by
  refine pure_wf fun hw => ?_
  obtain ⟨⟨w1, w2⟩, ⟨w3, w4⟩, -⟩ := hw
  simp only [List.length_cons, List.length_nil, Nat.zero_add, Nat.mul_one] at w1 w3
  refine pure_of (C := ctx0 Tryd.prog) ctx0_good Tryd.func93 (c := bodyOf Tryd.f93) (by rfl) (Nat.le_of_ble_eq_true (by rfl)) 4 0 [0, 1, 4, 5, 10, 12, 13, 14, 24] ?_
  conv => whnf
  repeat' (first | (refine ifB_t (by assumption) ?_; conv => whnf) | (refine ifB_f (by assumption) ?_; conv => whnf) | (refine ifB_dec (fun h => ?_) (fun h => ?_) <;> (first | (exfalso; omega) | (conv => whnf))) | (refine ifB_eq (fun h => ?_) (fun h => ?_) <;> (first | (exfalso; omega) | (conv => whnf))) | (refine ifB_ne (fun h => ?_) (fun h => ?_) <;> (first | (exfalso; omega) | (conv => whnf))) | (refine ifB_not ?_; conv => whnf) | (refine ifB_and ?_; conv => whnf) | (refine ifB_or ?_; conv => whnf) | (refine And.intro ?_ ?_; (first | omega | assumption | (exact allU_getD (by assumption) _) | (simp only [cutL]; omega) | (refine And.intro ?_ ?_ <;> first | assumption | exact allU_getD (by assumption) _) | (simp only [cutL, IntKind.wrap_u64, IntKind.wrap_i64] at *; omega) | decide); conv => whnf))
  · exact congrArg (fun b => T.v (Value.bool b)) (decide_eq_false (fun e => by subst e; omega)).symm
  · refine TW.loopD ctx0_good 0 (base := 0) (lv := [0, 1, 4, 5, 10, 12, 13, 14, 24]) [13] [] [] (fun j : Nat => [.v (.int .i64 j)]) (fun _ => []) (fun j => j ≤ n ∧ xs.take j = ys.take j) (fun j => n - j) ?_
    conv => whnf
    refine ⟨⟨0, ⟨rfl, rfl, rfl⟩, by omega, rfl⟩, fun j ⟨hj, ht⟩ => ?_⟩
    conv => whnf
    repeat' (first | (refine ifB_t (by assumption) ?_; conv => whnf) | (refine ifB_f (by assumption) ?_; conv => whnf) | (refine ifB_dec (fun h => ?_) (fun h => ?_) <;> (first | (exfalso; omega) | (conv => whnf))) | (refine ifB_eq (fun h => ?_) (fun h => ?_) <;> (first | (exfalso; omega) | (conv => whnf))) | (refine ifB_ne (fun h => ?_) (fun h => ?_) <;> (first | (exfalso; omega) | (conv => whnf))) | (refine ifB_not ?_; conv => whnf) | (refine ifB_and ?_; conv => whnf) | (refine ifB_or ?_; conv => whnf) | (refine And.intro ?_ ?_; (first | omega | assumption | (exact allU_getD (by assumption) _) | (simp only [cutL]; omega) | (refine And.intro ?_ ?_ <;> first | assumption | exact allU_getD (by assumption) _) | (simp only [cutL, IntKind.wrap_u64, IntKind.wrap_i64] at *; omega) | decide); conv => whnf))
    · simp only [Nat.zero_add, Nat.mul_one, Int.toNat_natCast] at h
      exact congrArg (fun b => T.v (Value.bool b)) (decide_eq_false (fun e => by subst e; exact h rfl)).symm
    · simp only [Nat.zero_add, Nat.mul_one, Int.toNat_natCast] at h
      rw [wsucc (n := n) (by omega) w2]
      exact ⟨j + 1, [], ⟨rfl, rfl, rfl⟩, ⟨by omega, take_same (by omega) (by omega) ht h⟩, by (try dsimp only); omega⟩
    · have e : j = n := by omega
      rw [e, List.take_of_length_le (by omega), List.take_of_length_le (by omega)] at ht
      exact congrArg (fun b => T.v (Value.bool b)) (decide_eq_true ht).symm
def eClone : Entry := ⟨58, 3, fun l => match l with | [.fl [.u64] n xs] => some (some (n ≤ 1000000), .ow 0 1 n, [(0, .fl [.u64] xs)]) | _ => none⟩
theorem eClone_ok : eClone.ok Tryd.prog glR := ⟨enters_of Tryd.func58 (by kernel_rfl) (by kernel_rfl), by
  intro args c t bs h hc
  simp only [eClone] at h
  split at h <;> cases h
  replace hc := hc _ rfl
  exact clone_pure _ _ hc⟩
def eEqual : Entry := ⟨93, 3, fun l => match l with | [.fl [.u64] n xs, .fl [.u64] m ys] => some (none, .v (.bool (decide (xs = ys))), []) | _ => none⟩
theorem eEqual_ok : eEqual.ok Tryd.prog glR := ⟨enters_of Tryd.func93 (by kernel_rfl) (by kernel_rfl), by
  intro args c t bs h hc
  simp only [eEqual] at h
  split at h <;> cases h
  exact equal_pure _ _ _ _⟩
set_option maxRecDepth 100000 in
theorem words_pure (n m : Nat) (xs ys : List Int) : Pure Tryd.prog glR 20 [.fl [.u64] n xs, .fl [.u64] m ys] (.v (.bool (decide (xs = ys)))) := by
  refine pure_wf fun hw => ?_
  obtain ⟨⟨w1, w2⟩, ⟨w3, w4⟩, -⟩ := hw
  simp only [List.length_cons, List.length_nil, Nat.zero_add, Nat.mul_one] at w1 w3
  refine pure_of (C := ctx0 Tryd.prog) ctx0_good Tryd.func20 (c := bodyOf Tryd.f20) (by rfl) (Nat.le_of_ble_eq_true (by rfl)) 4 0 [0, 1, 4, 5, 10, 14, 25] ?_
  conv => whnf
  repeat' (first | (refine ifB_t (by assumption) ?_; conv => whnf) | (refine ifB_f (by assumption) ?_; conv => whnf) | (refine ifB_dec (fun h => ?_) (fun h => ?_) <;> (first | (exfalso; omega) | (conv => whnf))) | (refine ifB_eq (fun h => ?_) (fun h => ?_) <;> (first | (exfalso; omega) | (conv => whnf))) | (refine ifB_ne (fun h => ?_) (fun h => ?_) <;> (first | (exfalso; omega) | (conv => whnf))) | (refine ifB_not ?_; conv => whnf) | (refine ifB_and ?_; conv => whnf) | (refine ifB_or ?_; conv => whnf) | (refine And.intro ?_ ?_; (first | omega | assumption | (exact allU_getD (by assumption) _) | (simp only [cutL]; omega) | (refine And.intro ?_ ?_ <;> first | assumption | exact allU_getD (by assumption) _) | (simp only [cutL, IntKind.wrap_u64, IntKind.wrap_i64] at *; omega) | decide); conv => whnf))
  · exact congrArg (fun b => T.v (Value.bool b)) (decide_eq_false (fun e => by subst e; omega)).symm
  · refine TW.loopD ctx0_good 0 (base := 0) (lv := [0, 1, 4, 5, 10, 14, 25]) [5] [] [] (fun j : Nat => [.v (.int .i64 j)]) (fun _ => []) (fun j => j ≤ n ∧ xs.take j = ys.take j) (fun j => n - j) ?_
    conv => whnf
    refine ⟨⟨0, ⟨rfl, rfl, rfl⟩, by omega, rfl⟩, fun j ⟨hj, ht⟩ => ?_⟩
    conv => whnf
    repeat' (first | (refine ifB_t (by assumption) ?_; conv => whnf) | (refine ifB_f (by assumption) ?_; conv => whnf) | (refine ifB_dec (fun h => ?_) (fun h => ?_) <;> (first | (exfalso; omega) | (conv => whnf))) | (refine ifB_eq (fun h => ?_) (fun h => ?_) <;> (first | (exfalso; omega) | (conv => whnf))) | (refine ifB_ne (fun h => ?_) (fun h => ?_) <;> (first | (exfalso; omega) | (conv => whnf))) | (refine ifB_not ?_; conv => whnf) | (refine ifB_and ?_; conv => whnf) | (refine ifB_or ?_; conv => whnf) | (refine And.intro ?_ ?_; (first | omega | assumption | (exact allU_getD (by assumption) _) | (simp only [cutL]; omega) | (refine And.intro ?_ ?_ <;> first | assumption | exact allU_getD (by assumption) _) | (simp only [cutL, IntKind.wrap_u64, IntKind.wrap_i64] at *; omega) | decide); conv => whnf))
    · simp only [Nat.zero_add, Nat.mul_one, Int.toNat_natCast] at h
      exact congrArg (fun b => T.v (Value.bool b)) (decide_eq_false (fun e => by subst e; exact h rfl)).symm
    · simp only [Nat.zero_add, Nat.mul_one, Int.toNat_natCast] at h
      rw [wsucc (n := n) (by omega) w2]
      exact ⟨j + 1, [], ⟨rfl, rfl, rfl⟩, ⟨by omega, take_same (by omega) (by omega) ht h⟩, by (try dsimp only); omega⟩
    · have e : j = n := by omega
      rw [e, List.take_of_length_le (by omega), List.take_of_length_le (by omega)] at ht
      exact congrArg (fun b => T.v (Value.bool b)) (decide_eq_true ht).symm
def eWords : Entry := ⟨20, 3, fun l => match l with | [.fl [.u64] n xs, .fl [.u64] m ys] => some (none, .v (.bool (decide (xs = ys))), []) | _ => none⟩
theorem eWords_ok : eWords.ok Tryd.prog glR := ⟨enters_of Tryd.func20 (by kernel_rfl) (by kernel_rfl), by
  intro args c t bs h hc
  simp only [eWords] at h
  split at h <;> cases h
  exact words_pure _ _ _ _⟩
set_option maxRecDepth 100000 in
theorem ints_pure (n m : Nat) (xs ys : List Int) : Pure Tryd.prog glR 61 [.fl [.i64] n xs, .fl [.i64] m ys] (.v (.bool (decide (xs = ys)))) := by
  refine pure_wf fun hw => ?_
  obtain ⟨⟨w1, w2⟩, ⟨w3, w4⟩, -⟩ := hw
  simp only [List.length_cons, List.length_nil, Nat.zero_add, Nat.mul_one] at w1 w3
  refine pure_of (C := ctx0 Tryd.prog) ctx0_good Tryd.func61 (c := bodyOf Tryd.f61) (by rfl) (Nat.le_of_ble_eq_true (by rfl)) 4 0 [0, 1, 4, 5, 10, 14, 25] ?_
  conv => whnf
  repeat' (first | (refine ifB_t (by assumption) ?_; conv => whnf) | (refine ifB_f (by assumption) ?_; conv => whnf) | (refine ifB_dec (fun h => ?_) (fun h => ?_) <;> (first | (exfalso; omega) | (conv => whnf))) | (refine ifB_eq (fun h => ?_) (fun h => ?_) <;> (first | (exfalso; omega) | (conv => whnf))) | (refine ifB_ne (fun h => ?_) (fun h => ?_) <;> (first | (exfalso; omega) | (conv => whnf))) | (refine ifB_not ?_; conv => whnf) | (refine ifB_and ?_; conv => whnf) | (refine ifB_or ?_; conv => whnf) | (refine And.intro ?_ ?_; (first | omega | assumption | (exact allU_getD (by assumption) _) | (simp only [cutL]; omega) | (refine And.intro ?_ ?_ <;> first | assumption | exact allU_getD (by assumption) _) | (simp only [cutL, IntKind.wrap_u64, IntKind.wrap_i64] at *; omega) | decide); conv => whnf))
  · exact congrArg (fun b => T.v (Value.bool b)) (decide_eq_false (fun e => by subst e; omega)).symm
  · refine TW.loopD ctx0_good 0 (base := 0) (lv := [0, 1, 4, 5, 10, 14, 25]) [5] [] [] (fun j : Nat => [.v (.int .i64 j)]) (fun _ => []) (fun j => j ≤ n ∧ xs.take j = ys.take j) (fun j => n - j) ?_
    conv => whnf
    refine ⟨⟨0, ⟨rfl, rfl, rfl⟩, by omega, rfl⟩, fun j ⟨hj, ht⟩ => ?_⟩
    conv => whnf
    repeat' (first | (refine ifB_t (by assumption) ?_; conv => whnf) | (refine ifB_f (by assumption) ?_; conv => whnf) | (refine ifB_dec (fun h => ?_) (fun h => ?_) <;> (first | (exfalso; omega) | (conv => whnf))) | (refine ifB_eq (fun h => ?_) (fun h => ?_) <;> (first | (exfalso; omega) | (conv => whnf))) | (refine ifB_ne (fun h => ?_) (fun h => ?_) <;> (first | (exfalso; omega) | (conv => whnf))) | (refine ifB_not ?_; conv => whnf) | (refine ifB_and ?_; conv => whnf) | (refine ifB_or ?_; conv => whnf) | (refine And.intro ?_ ?_; (first | omega | assumption | (exact allU_getD (by assumption) _) | (simp only [cutL]; omega) | (refine And.intro ?_ ?_ <;> first | assumption | exact allU_getD (by assumption) _) | (simp only [cutL, IntKind.wrap_u64, IntKind.wrap_i64] at *; omega) | decide); conv => whnf))
    · simp only [Nat.zero_add, Nat.mul_one, Int.toNat_natCast] at h
      exact congrArg (fun b => T.v (Value.bool b)) (decide_eq_false (fun e => by subst e; exact h rfl)).symm
    · simp only [Nat.zero_add, Nat.mul_one, Int.toNat_natCast] at h
      rw [wsucc (n := n) (by omega) w2]
      exact ⟨j + 1, [], ⟨rfl, rfl, rfl⟩, ⟨by omega, take_same (by omega) (by omega) ht h⟩, by (try dsimp only); omega⟩
    · have e : j = n := by omega
      rw [e, List.take_of_length_le (by omega), List.take_of_length_le (by omega)] at ht
      exact congrArg (fun b => T.v (Value.bool b)) (decide_eq_true ht).symm
def eInts : Entry := ⟨61, 3, fun l => match l with | [.fl [.i64] n xs, .fl [.i64] m ys] => some (none, .v (.bool (decide (xs = ys))), []) | _ => none⟩
theorem eInts_ok : eInts.ok Tryd.prog glR := ⟨enters_of Tryd.func61 (by kernel_rfl) (by kernel_rfl), by
  intro args c t bs h hc
  simp only [eInts] at h
  split at h <;> cases h
  exact ints_pure _ _ _ _⟩

/-! ### what fits -/
def fitsB (k p n : Int) : Bool := decide (1 ≤ k ∧ k ≤ 5 ∧ 1 ≤ p ∧ p ≤ 16 ∧ 1 ≤ n ∧ n ≤ 256)
def homeI (k n : Int) : Int := if k = 1 then 1 else if k = 2 then 1 + 2 * n else if k = 3 then 1 + 4 * n else if k = 4 then 2 + 4 * n else 9 + n
set_option maxRecDepth 100000 in
theorem fits_pure (k p n : Int) : Pure Tryd.prog glR 48 [.agg [.v (.int .i64 k), .v (.int .i64 p), .v (.int .i64 n)]] (.v (.bool (fitsB k p n))) := by
  refine pure_of (C := ctx0 Tryd.prog) ctx0_good Tryd.func48 (c := bodyOf Tryd.f48) (by rfl) (Nat.le_of_ble_eq_true (by rfl)) 4 0 [0, 1, 2] ?_
  conv => whnf
  repeat' (first | (refine ifB_t (by assumption) ?_; conv => whnf) | (refine ifB_f (by assumption) ?_; conv => whnf) | (refine ifB_dec (fun h => ?_) (fun h => ?_) <;> (first | (exfalso; omega) | (conv => whnf))) | (refine ifB_eq (fun h => ?_) (fun h => ?_) <;> (first | (exfalso; omega) | (conv => whnf))) | (refine ifB_ne (fun h => ?_) (fun h => ?_) <;> (first | (exfalso; omega) | (conv => whnf))) | (refine ifB_not ?_; conv => whnf) | (refine ifB_and ?_; conv => whnf) | (refine ifB_or ?_; conv => whnf) | (refine And.intro ?_ ?_; (first | omega | assumption | (exact allU_getD (by assumption) _) | (simp only [cutL]; omega) | (refine And.intro ?_ ?_ <;> first | assumption | exact allU_getD (by assumption) _) | (simp only [cutL, IntKind.wrap_u64, IntKind.wrap_i64] at *; omega) | decide); conv => whnf))
  all_goals (first | rfl | (refine congrArg (fun b => T.v (Value.bool b)) ?_; first | rfl | exact (decide_eq_true (by omega)).symm | exact (decide_eq_false (by omega)).symm | exact decide_eq_decide.2 (by omega)) | (refine congrArg (fun b => T.v (Value.int _ b)) ?_; first | rfl | omega) | omega)
def eFits : Entry := ⟨48, 3, fun l => match l with | [.agg [.v (.int .i64 k), .v (.int .i64 p), .v (.int .i64 n)]] => some (none, .v (.bool (fitsB k p n)), []) | _ => none⟩
theorem eFits_ok : eFits.ok Tryd.prog glR := ⟨enters_of Tryd.func48 (by kernel_rfl) (by kernel_rfl), by
  intro args c t bs h hc
  simp only [eFits] at h
  split at h <;> cases h
  exact fits_pure _ _ _⟩
set_option maxRecDepth 100000 in
theorem rin_pure (n a b : Int) : Pure Tryd.prog glR 86 [.v (.int .i64 n), .v (.int .i64 a), .v (.int .i64 b)] (.v (.bool (decide (a ≤ n ∧ n ≤ b)))) := by
  refine pure_of (C := ctx0 Tryd.prog) ctx0_good Tryd.func86 (c := bodyOf Tryd.f86) (by rfl) (Nat.le_of_ble_eq_true (by rfl)) 4 0 [0, 1, 2, 6] ?_
  conv => whnf
  repeat' (first | (refine ifB_t (by assumption) ?_; conv => whnf) | (refine ifB_f (by assumption) ?_; conv => whnf) | (refine ifB_dec (fun h => ?_) (fun h => ?_) <;> (first | (exfalso; omega) | (conv => whnf))) | (refine ifB_eq (fun h => ?_) (fun h => ?_) <;> (first | (exfalso; omega) | (conv => whnf))) | (refine ifB_ne (fun h => ?_) (fun h => ?_) <;> (first | (exfalso; omega) | (conv => whnf))) | (refine ifB_not ?_; conv => whnf) | (refine ifB_and ?_; conv => whnf) | (refine ifB_or ?_; conv => whnf) | (refine And.intro ?_ ?_; (first | omega | assumption | (exact allU_getD (by assumption) _) | (simp only [cutL]; omega) | (refine And.intro ?_ ?_ <;> first | assumption | exact allU_getD (by assumption) _) | (simp only [cutL, IntKind.wrap_u64, IntKind.wrap_i64] at *; omega) | decide); conv => whnf))
  all_goals (first | rfl | (refine congrArg (fun b => T.v (Value.bool b)) ?_; first | rfl | exact (decide_eq_true (by omega)).symm | exact (decide_eq_false (by omega)).symm | exact decide_eq_decide.2 (by omega)) | (refine congrArg (fun b => T.v (Value.int _ b)) ?_; first | rfl | omega) | omega)
def eRIn : Entry := ⟨86, 3, fun l => match l with | [.v (.int .i64 n), .v (.int .i64 a), .v (.int .i64 b)] => some (none, .v (.bool (decide (a ≤ n ∧ n ≤ b))), []) | _ => none⟩
theorem eRIn_ok : eRIn.ok Tryd.prog glR := ⟨enters_of Tryd.func86 (by kernel_rfl) (by kernel_rfl), by
  intro args c t bs h hc
  simp only [eRIn] at h
  split at h <;> cases h
  exact rin_pure _ _ _⟩
def ctxFits (P : Program) : Ctx := ctx P glR [eFits, eRIn] [] (noEq P) [] (fun _ h => by cases h)
theorem ctxFits_good : (ctxFits Tryd.prog).good := ctx_good (by kernel_rfl) (AllOk.mem ⟨eFits_ok, eRIn_ok, trivial⟩) glR_two
set_option maxRecDepth 100000 in
theorem rfits_pure (k p n : Int) : Pure Tryd.prog glR 42 [.agg [.v (.int .i64 k), .v (.int .i64 p), .v (.int .i64 n)]] (.v (.bool (fitsB k p n))) := by
  refine pure_of (C := ctxFits Tryd.prog) ctxFits_good Tryd.func42 (c := bodyOf Tryd.f42) (by rfl) (Nat.le_of_ble_eq_true (by rfl)) 4 0 [0, 1, 2] ?_
  conv => whnf
  repeat' (first | (refine ifB_t (by assumption) ?_; conv => whnf) | (refine ifB_f (by assumption) ?_; conv => whnf) | (refine ifB_dec (fun h => ?_) (fun h => ?_) <;> (first | (exfalso; omega) | (conv => whnf))) | (refine ifB_eq (fun h => ?_) (fun h => ?_) <;> (first | (exfalso; omega) | (conv => whnf))) | (refine ifB_ne (fun h => ?_) (fun h => ?_) <;> (first | (exfalso; omega) | (conv => whnf))) | (refine ifB_not ?_; conv => whnf) | (refine ifB_and ?_; conv => whnf) | (refine ifB_or ?_; conv => whnf) | (refine And.intro ?_ ?_; (first | omega | assumption | (exact allU_getD (by assumption) _) | (simp only [cutL]; omega) | (refine And.intro ?_ ?_ <;> first | assumption | exact allU_getD (by assumption) _) | (simp only [cutL, IntKind.wrap_u64, IntKind.wrap_i64] at *; omega) | decide); conv => whnf))
  all_goals (first | rfl | (refine congrArg (fun b => T.v (Value.bool b)) ?_; first | rfl | exact (decide_eq_true (by omega)).symm | exact (decide_eq_false (by omega)).symm | exact decide_eq_decide.2 (by omega)) | (refine congrArg (fun b => T.v (Value.int _ b)) ?_; first | rfl | omega) | omega)
def eRFits : Entry := ⟨42, 3, fun l => match l with | [.agg [.v (.int .i64 k), .v (.int .i64 p), .v (.int .i64 n)]] => some (none, .v (.bool (fitsB k p n)), []) | _ => none⟩
theorem eRFits_ok : eRFits.ok Tryd.prog glR := ⟨enters_of Tryd.func42 (by kernel_rfl) (by kernel_rfl), by
  intro args c t bs h hc
  simp only [eRFits] at h
  split at h <;> cases h
  exact rfits_pure _ _ _⟩
def ctxHome (P : Program) : Ctx := ctx P glR [eFits, eRFits] [] (noEq P) [] (fun _ h => by cases h)
theorem ctxHome_good : (ctxHome Tryd.prog).good := ctx_good (by kernel_rfl) (AllOk.mem ⟨eFits_ok, eRFits_ok, trivial⟩) glR_two
set_option maxRecDepth 100000 in
theorem home_pure (k p n : Int) (hf : fitsB k p n = true) : Pure Tryd.prog glR 49 [.agg [.v (.int .i64 k), .v (.int .i64 p), .v (.int .i64 n)]] (.v (.int .i64 (homeI k n))) := by
  have hf' := of_decide_eq_true hf
  refine pure_of (C := ctxHome Tryd.prog) ctxHome_good Tryd.func49 (c := bodyOf Tryd.f49) (by rfl) (Nat.le_of_ble_eq_true (by rfl)) 4 0 [0, 1, 2, 3, 6] ?_
  conv => whnf
  refine ifB_not (ifB_mk (fun _ => ?_) (fun h => by rw [hf] at h; cases h))
  conv => whnf
  obtain ⟨h1, h2, h3, h4, h5, h6⟩ := hf'
  have : k = 1 ∨ k = 2 ∨ k = 3 ∨ k = 4 ∨ k = 5 := by omega
  rcases this with rfl | rfl | rfl | rfl | rfl <;> repeat' (first | (refine ifB_t (by assumption) ?_; conv => whnf) | (refine ifB_f (by assumption) ?_; conv => whnf) | (refine ifB_dec (fun h => ?_) (fun h => ?_) <;> (first | (exfalso; omega) | (conv => whnf))) | (refine ifB_eq (fun h => ?_) (fun h => ?_) <;> (first | (exfalso; omega) | (conv => whnf))) | (refine ifB_ne (fun h => ?_) (fun h => ?_) <;> (first | (exfalso; omega) | (conv => whnf))) | (refine ifB_not ?_; conv => whnf) | (refine ifB_and ?_; conv => whnf) | (refine ifB_or ?_; conv => whnf) | (refine And.intro ?_ ?_; (first | omega | assumption | (exact allU_getD (by assumption) _) | (simp only [cutL]; omega) | (refine And.intro ?_ ?_ <;> first | assumption | exact allU_getD (by assumption) _) | (simp only [cutL, IntKind.wrap_u64, IntKind.wrap_i64] at *; omega) | decide); conv => whnf))
  all_goals (refine congrArg (fun b => T.v (Value.int _ b)) ?_; simp [objX, homeI, IntKind.wrap_i64] <;> omega)
def eHome : Entry := ⟨49, 3, fun l => match l with | [.agg [.v (.int .i64 k), .v (.int .i64 p), .v (.int .i64 n)]] => some (some (fitsB k p n = true), .v (.int .i64 (homeI k n)), []) | _ => none⟩
theorem eHome_ok : eHome.ok Tryd.prog glR := ⟨enters_of Tryd.func49 (by kernel_rfl) (by kernel_rfl), by
  intro args c t bs h hc
  simp only [eHome] at h
  split at h <;> cases h
  replace hc := hc _ rfl
  exact home_pure _ _ _ hc⟩
set_option maxHeartbeats 2000000 in
set_option maxRecDepth 100000 in
theorem rhome_pure (k p n : Int) (hf : fitsB k p n = true) : Pure Tryd.prog glR 94 [.agg [.v (.int .i64 k), .v (.int .i64 p), .v (.int .i64 n)]] (.v (.int .i64 (homeI k n))) := by
  have hf' := of_decide_eq_true hf
  refine pure_of (C := ctxHome Tryd.prog) ctxHome_good Tryd.func94 (c := bodyOf Tryd.f94) (by rfl) (Nat.le_of_ble_eq_true (by rfl)) 4 0 [0, 1, 2, 5, 7, 8, 10, 16, 22] ?_
  conv => whnf
  refine ifB_not (ifB_mk (fun _ => ?_) (fun h => by rw [hf] at h; cases h))
  conv => whnf
  obtain ⟨h1, h2, h3, h4, h5, h6⟩ := hf'
  have : k = 1 ∨ k = 2 ∨ k = 3 ∨ k = 4 ∨ k = 5 := by omega
  rcases this with rfl | rfl | rfl | rfl | rfl <;> repeat' (first | (refine ifB_t (by assumption) ?_; conv => whnf) | (refine ifB_f (by assumption) ?_; conv => whnf) | (refine ifB_dec (fun h => ?_) (fun h => ?_) <;> (first | (exfalso; omega) | (conv => whnf))) | (refine ifB_eq (fun h => ?_) (fun h => ?_) <;> (first | (exfalso; omega) | (conv => whnf))) | (refine ifB_ne (fun h => ?_) (fun h => ?_) <;> (first | (exfalso; omega) | (conv => whnf))) | (refine ifB_not ?_; conv => whnf) | (refine ifB_and ?_; conv => whnf) | (refine ifB_or ?_; conv => whnf) | (refine And.intro ?_ ?_; (first | omega | assumption | (exact allU_getD (by assumption) _) | (simp only [cutL]; omega) | (refine And.intro ?_ ?_ <;> first | assumption | exact allU_getD (by assumption) _) | (simp only [cutL, IntKind.wrap_u64, IntKind.wrap_i64] at *; omega) | decide); conv => whnf))
  all_goals (refine congrArg (fun b => T.v (Value.int _ b)) ?_; simp [homeI, IntKind.wrap_i64] <;> omega)
def eRHome : Entry := ⟨94, 3, fun l => match l with | [.agg [.v (.int .i64 k), .v (.int .i64 p), .v (.int .i64 n)]] => some (some (fitsB k p n = true), .v (.int .i64 (homeI k n)), []) | _ => none⟩
theorem eRHome_ok : eRHome.ok Tryd.prog glR := ⟨enters_of Tryd.func94 (by kernel_rfl) (by kernel_rfl), by
  intro args c t bs h hc
  simp only [eRHome] at h
  split at h <;> cases h
  replace hc := hc _ rfl
  exact rhome_pure _ _ _ hc⟩
end Go.Proofs.YtlcpcgdecodjfaaDoor
namespace Go.Proofs.YtlcpcgdecodjfaaDoor
open Go.RowKit Go.Proofs.YtlcpcgdecodjfaaDoor.Am
set_option linter.unusedVariables false
set_option linter.unusedSimpArgs false

def cnt (ys : List Int) (k : Int) : Int := (ys.count k : Nat)
def allLe (ys : List Int) : Bool := ys.all fun v => decide (v ≤ 8)
def tally9 (ys : List Int) : List Int := [cnt ys 0, cnt ys 1, cnt ys 2, cnt ys 3, cnt ys 4, cnt ys 5, cnt ys 6, cnt ys 7, cnt ys 8]
def tl (ys : List Int) (k : Int) : Int := if allLe ys then cnt ys k else 0
def tallyT (ys : List Int) : T := .agg [.v (.int .u64 0), .v (.int .u64 (tl ys 1)), .v (.int .u64 (tl ys 2)), .v (.int .u64 (tl ys 3)), .v (.int .u64 (tl ys 4)), .v (.int .u64 (tl ys 5)), .v (.int .u64 (tl ys 6)), .v (.int .u64 (tl ys 7)), .v (.int .u64 (tl ys 8))]
theorem cnt_snoc (ys : List Int) (v k : Int) : cnt (ys ++ [v]) k = cnt ys k + if v = k then 1 else 0 := by
  unfold cnt; rw [List.count_append, List.count_singleton]
  by_cases h : v = k <;> simp [h]
theorem cnt_le (ys : List Int) (k : Int) : 0 ≤ cnt ys k ∧ cnt ys k ≤ ys.length := by
  unfold cnt; have := List.count_le_length (a := k) (l := ys); omega
theorem tally_step (ys : List Int) (v : Int) (h0 : 0 ≤ v) (h8 : v ≤ 8) (hl : ys.length ≤ 9223372036854775807) : (tally9 ys).set v.toNat (IntKind.u64.wrap ((tally9 ys).getD v.toNat 0 + 1)) = tally9 (ys ++ [v]) := by
  have hw : ∀ k, IntKind.u64.wrap (cnt ys k + 1) = cnt ys k + 1 := fun k => by have := cnt_le ys k; exact wrapU (by omega) (by omega)
  have : v = 0 ∨ v = 1 ∨ v = 2 ∨ v = 3 ∨ v = 4 ∨ v = 5 ∨ v = 6 ∨ v = 7 ∨ v = 8 := by omega
  rcases this with rfl | rfl | rfl | rfl | rfl | rfl | rfl | rfl | rfl <;> simp [tally9, cnt_snoc, hw]
theorem allLe_snoc (ys : List Int) (v : Int) : allLe (ys ++ [v]) = (allLe ys && decide (v ≤ 8)) := by simp [allLe]
theorem allLe_at {ys : List Int} {j : Nat} (hj : j < ys.length) (h : ¬ ys.getD j 0 ≤ 8) : allLe ys = false := by
  rw [List.getD_eq_getElem?_getD, List.getElem?_eq_getElem hj] at h
  unfold allLe
  rw [List.all_eq_false]
  exact ⟨_, List.getElem_mem hj, by simpa using h⟩
set_option maxRecDepth 100000 in
theorem counted_pure (n : Nat) (xs : List Int) (hx : AllU xs) : Pure Tryd.prog glR 52 [.fl [.u64] n xs] (.tup [tallyT xs, .v (.bool (allLe xs))]) := by
  refine pure_wf fun hw => ?_
  obtain ⟨⟨w1, w2⟩, -⟩ := hw
  simp only [List.length_cons, List.length_nil, Nat.zero_add, Nat.mul_one] at w1
  refine pure_of (C := ctx0 Tryd.prog) ctx0_good Tryd.func52 (c := bodyOf Tryd.f52) (by rfl) (Nat.le_of_ble_eq_true (by rfl)) 4 0 [0, 2, 3, 5, 6, 7, 8, 9, 13] ?_
  conv => whnf
  refine TW.loopD ctx0_good 0 (base := 0) (lv := [0, 2, 3, 5, 6, 7, 8, 9, 13]) [8] [8] [(8, 8)] (fun j : Nat => [.v (.int .i64 j)]) (fun j => [.fl [.u64] (tally9 (xs.take j))]) (fun j => j ≤ n ∧ allLe (xs.take j) = true) (fun j => n - j) ?_
  conv => whnf
  refine ⟨⟨0, ⟨rfl, rfl, rfl⟩, by omega, rfl⟩, fun j ⟨hj, ht⟩ => ?_⟩
  conv => whnf
  refine ifB_dec (fun h => ?_) (fun h => ?_)
  · have hv := hx.at (i := j) (by omega)
    obtain ⟨v0, v1⟩ := id hv
    have e : xs.getD (0 + (j : Int).toNat * (0 + 1)) 0 = xs.getD j 0 := by simp
    conv => whnf
    refine And.intro (by omega) ?_
    conv => whnf
    rw [e]
    repeat' (first | (refine ifB_t (by assumption) ?_; conv => whnf) | (refine ifB_f (by assumption) ?_; conv => whnf) | (refine ifB_dec (fun h => ?_) (fun h => ?_) <;> (first | (exfalso; omega) | (conv => whnf))) | (refine ifB_eq (fun h => ?_) (fun h => ?_) <;> (first | (exfalso; omega) | (conv => whnf))) | (refine ifB_ne (fun h => ?_) (fun h => ?_) <;> (first | (exfalso; omega) | (conv => whnf))) | (refine ifB_not ?_; conv => whnf) | (refine ifB_and ?_; conv => whnf) | (refine ifB_or ?_; conv => whnf) | (refine And.intro ?_ ?_; (first | omega | assumption | (exact allU_getD (by assumption) _) | (simp only [cutL]; omega) | (refine And.intro ?_ ?_ <;> first | assumption | exact allU_getD (by assumption) _) | (simp only [cutL, IntKind.wrap_u64, IntKind.wrap_i64] at *; omega) | decide); conv => whnf))
    · have hf : allLe xs = false := allLe_at (j := j) (by omega) (by omega)
      all_goals (simp [tally9, tl, hf, eqD, eqDs, tallyT])
    · rw [wsucc (n := n) (by omega) w2]
      simp only [Nat.zero_add, Nat.mul_one, Nat.add_zero]
      rw [tally_step _ _ v0 (by omega) (by simp; omega), ← take_snoc (by omega)]
      refine ⟨j + 1, [(8, 8)], ⟨rfl, rfl, rfl⟩, ⟨by omega, ?_⟩, by (try dsimp only); omega⟩
      rw [take_snoc (by omega), allLe_snoc, ht, Bool.true_and]
      exact decide_eq_true (by rw [← e]; omega)
  · conv => whnf
    repeat' (first | (refine ifB_t (by assumption) ?_; conv => whnf) | (refine ifB_f (by assumption) ?_; conv => whnf) | (refine ifB_dec (fun h => ?_) (fun h => ?_) <;> (first | (exfalso; omega) | (conv => whnf))) | (refine ifB_eq (fun h => ?_) (fun h => ?_) <;> (first | (exfalso; omega) | (conv => whnf))) | (refine ifB_ne (fun h => ?_) (fun h => ?_) <;> (first | (exfalso; omega) | (conv => whnf))) | (refine ifB_not ?_; conv => whnf) | (refine ifB_and ?_; conv => whnf) | (refine ifB_or ?_; conv => whnf) | (refine And.intro ?_ ?_; (first | omega | assumption | (exact allU_getD (by assumption) _) | (simp only [cutL]; omega) | (refine And.intro ?_ ?_ <;> first | assumption | exact allU_getD (by assumption) _) | (simp only [cutL, IntKind.wrap_u64, IntKind.wrap_i64] at *; omega) | decide); conv => whnf))
    have e : j = n := by omega
    rw [e, List.take_of_length_le (by omega)] at ht
    rw [e, List.take_of_length_le (by omega)]
    simp [tally9, tl, ht, eqD, eqDs, tallyT]
def eCounted : Entry := ⟨52, 3, fun l => match l with | [.fl [.u64] n xs] => some (some (AllU xs), .tup [tallyT xs, .v (.bool (allLe xs))], []) | _ => none⟩
theorem eCounted_ok : eCounted.ok Tryd.prog glR := ⟨enters_of Tryd.func52 (by kernel_rfl) (by kernel_rfl), by
  intro args c t bs h hc
  simp only [eCounted] at h
  split at h <;> cases h
  replace hc := hc _ rfl
  exact counted_pure _ _ hc⟩
end Go.Proofs.YtlcpcgdecodjfaaDoor
namespace Go.Proofs.YtlcpcgdecodjfaaDoor
open Go.RowKit Go.Proofs.YtlcpcgdecodjfaaDoor.Am
set_option linter.unusedVariables false
set_option linter.unusedSimpArgs false

noncomputable def iParts : Inl := ⟨50, Tryd.f50, bodyOf Tryd.f50, [0, 1, 2, 4, 5]⟩
theorem iParts_ok : iParts.ok Tryd.prog := Inl.mk_ok Tryd.func50 (by rfl) (by kernel_rfl) (by kernel_rfl)
def votesW (n : Nat) (w : List Int) : List Int := (w.drop 1).take n
def toldW (n : Nat) (w : List Int) : List Int := w.drop (1 + n)
def rightB (n : Nat) (w : List Int) : Bool := allLe (votesW n w) && (decide (w.getD 0 0 ≤ 1) && decide ((tally9 (votesW n w)).drop 1 = toldW n w))
noncomputable def ctxPlR (P : Program) (h : InlOk P [iParts]) : Ctx := ctx P glR [eCounted, eEqual] [] (noEq P) [iParts] h.mem
theorem inlPlR : InlOk Tryd.prog [iParts] := ⟨iParts_ok, trivial⟩
theorem ctxPlR_good : (ctxPlR Tryd.prog inlPlR).good := ctx_good (by kernel_rfl) (AllOk.mem ⟨eCounted_ok, eEqual_ok, trivial⟩) glR_two
set_option maxRecDepth 100000 in
theorem right_pure (k p : Int) (n : Nat) (xs : List Int) (hx : AllU xs) (m : Nat) (hm : m = n + 9) (hn : n ≤ 1000) : Pure Tryd.prog glR 51 [.agg [.v (.int .i64 k), .v (.int .i64 p), .v (.int .i64 n)], .fl [.u64] m xs] (.v (.bool (rightB n xs))) := by
  refine pure_wf fun hw => ?_
  obtain ⟨-, ⟨w1, w2⟩, -⟩ := hw
  simp only [List.length_cons, List.length_nil, Nat.zero_add, Nat.mul_one] at w1
  refine pure_of (C := ctxPlR Tryd.prog inlPlR) ctxPlR_good Tryd.func51 (c := bodyOf Tryd.f51) (by rfl) (Nat.le_of_ble_eq_true (by rfl)) 4 2 [0, 1, 2, 4, 5, 6, 7, 8] ?_
  conv => whnf
  repeat' (first | (refine ifB_t (by assumption) ?_; conv => whnf) | (refine ifB_f (by assumption) ?_; conv => whnf) | (refine ifB_dec (fun h => ?_) (fun h => ?_) <;> (first | (exfalso; omega) | (conv => whnf))) | (refine ifB_eq (fun h => ?_) (fun h => ?_) <;> (first | (exfalso; omega) | (conv => whnf))) | (refine ifB_ne (fun h => ?_) (fun h => ?_) <;> (first | (exfalso; omega) | (conv => whnf))) | (refine ifB_not ?_; conv => whnf) | (refine ifB_and ?_; conv => whnf) | (refine ifB_or ?_; conv => whnf) | (refine And.intro ?_ ?_; (first | omega | assumption | (exact allU_getD (by assumption) _) | (simp only [cutL]; omega) | (refine And.intro ?_ ?_ <;> first | assumption | exact allU_getD (by assumption) _) | (simp only [cutL, IntKind.wrap_u64, IntKind.wrap_i64] at *; omega) | decide); conv => whnf))
  have e1 : cutN (0 + 1) none (some (n : Int)) (cutN (0 + 1) (some 1) none xs) = votesW n xs := rfl
  have e2 : cutN (0 + 1) (some (n : Int)) none (cutN (0 + 1) (some 1) none xs) = (xs.drop 1).drop n := rfl
  have hv : AllU (votesW n xs) := fun x hx' => hx x (List.mem_of_mem_drop (List.mem_of_mem_take hx'))
  rw [e1]
  refine And.intro hv ?_
  conv => whnf
  repeat' (first | (refine ifB_t (by assumption) ?_; conv => whnf) | (refine ifB_f (by assumption) ?_; conv => whnf) | (refine ifB_dec (fun h => ?_) (fun h => ?_) <;> (first | (exfalso; omega) | (conv => whnf))) | (refine ifB_eq (fun h => ?_) (fun h => ?_) <;> (first | (exfalso; omega) | (conv => whnf))) | (refine ifB_ne (fun h => ?_) (fun h => ?_) <;> (first | (exfalso; omega) | (conv => whnf))) | (refine ifB_not ?_; conv => whnf) | (refine ifB_and ?_; conv => whnf) | (refine ifB_or ?_; conv => whnf) | (refine And.intro ?_ ?_; (first | omega | assumption | (exact allU_getD (by assumption) _) | (simp only [cutL]; omega) | (refine And.intro ?_ ?_ <;> first | assumption | exact allU_getD (by assumption) _) | (simp only [cutL, IntKind.wrap_u64, IntKind.wrap_i64] at *; omega) | decide); conv => whnf) | (refine ifB_mk (fun h => ?_) (fun h => ?_) <;> (conv => whnf)))
  · rename_i h1
    refine congrArg (fun b => T.v (Value.bool b)) ?_
    show decide ([tl (votesW n xs) 1, tl (votesW n xs) 2, tl (votesW n xs) 3, tl (votesW n xs) 4, tl (votesW n xs) 5, tl (votesW n xs) 6, tl (votesW n xs) 7, tl (votesW n xs) 8] = (xs.drop 1).drop n) = _
    have h' : xs.getD 0 0 ≤ 1 := h
    unfold rightB toldW
    rw [h1, decide_eq_true h', Bool.true_and, Bool.true_and, List.drop_drop]
    simp [tl, h1, tally9]
  · rename_i h1
    have h' : ¬ xs.getD 0 0 ≤ 1 := h
    refine congrArg (fun b => T.v (Value.bool b)) ?_
    unfold rightB
    rw [decide_eq_false h', Bool.false_and, Bool.and_false]
  · refine congrArg (fun b => T.v (Value.bool b)) ?_
    unfold rightB
    rw [h, Bool.false_and]
def eRight : Entry := ⟨51, 3, fun l => match l with | [.agg [.v (.int .i64 k), .v (.int .i64 p), .v (.int .i64 c)], .fl [.u64] m xs] => some (some (∃ n : Nat, c = (n : Int) ∧ AllU xs ∧ m = n + 9 ∧ n ≤ 1000), .v (.bool (rightB c.toNat xs)), []) | _ => none⟩
theorem eRight_ok : eRight.ok Tryd.prog glR := ⟨enters_of Tryd.func51 (by kernel_rfl) (by kernel_rfl), by
  intro args c t bs h hc
  simp only [eRight] at h
  split at h <;> cases h
  replace hc := hc _ rfl
  exact (by obtain ⟨n, rfl, h1, h2, h3⟩ := hc; exact right_pure _ _ n _ h1 _ h2 h3)⟩
end Go.Proofs.YtlcpcgdecodjfaaDoor
namespace Go.Proofs.YtlcpcgdecodjfaaDoor
open Go.RowKit Go.Proofs.YtlcpcgdecodjfaaDoor.Am
set_option linter.unusedVariables false
set_option linter.unusedSimpArgs false

noncomputable def iTaken : Inl := ⟨40, Tryd.f40, bodyOf Tryd.f40, [0, 2, 3, 4, 7, 10]⟩
theorem iTaken_ok : iTaken.ok Tryd.prog := Inl.mk_ok Tryd.func40 (by rfl) (by kernel_rfl) (by kernel_rfl)
noncomputable def iTaken1 : Inl := ⟨78, Tryd.f78, bodyOf Tryd.f78, [1, 4]⟩
theorem iTaken1_ok : iTaken1.ok Tryd.prog := Inl.mk_ok Tryd.func78 (by rfl) (by kernel_rfl) (by kernel_rfl)
noncomputable def iRegister : Inl := ⟨59, Tryd.f59, bodyOf Tryd.f59, [0, 1, 3, 4, 5, 6, 13, 19, 33]⟩
theorem iRegister_ok : iRegister.ok Tryd.prog := Inl.mk_ok Tryd.func59 (by rfl) (by kernel_rfl) (by kernel_rfl)
noncomputable def iBallot : Inl := ⟨60, Tryd.f60, bodyOf Tryd.f60, [0, 1, 2, 3, 5, 6, 7, 8, 9, 10, 25, 26, 36, 40, 47, 63, 72, 78, 86, 89, 96]⟩
theorem iBallot_ok : iBallot.ok Tryd.prog := Inl.mk_ok Tryd.func60 (by rfl) (by kernel_rfl) (by kernel_rfl)
noncomputable def iBallot1 : Inl := ⟨96, Tryd.f96, bodyOf Tryd.f96, [0, 2]⟩
theorem iBallot1_ok : iBallot1.ok Tryd.prog := Inl.mk_ok Tryd.func96 (by rfl) (by kernel_rfl) (by kernel_rfl)
noncomputable def inlPl : List Inl := [iParts, iTaken, iTaken1, iRegister, iBallot, iBallot1]
theorem inlPl_ok : InlOk Tryd.prog inlPl := ⟨iParts_ok, iTaken_ok, iTaken1_ok, iRegister_ok, iBallot_ok, iBallot1_ok, trivial⟩
noncomputable def ctxPlC (P : Program) (h : InlOk P inlPl) : Ctx := ctx P glR [eFits, eHome, eClone, eCanon, eMax, eSum, eRight] [] (noEq P) inlPl h.mem
theorem ctxPlC_good : (ctxPlC Tryd.prog inlPl_ok).good := ctx_good (by kernel_rfl) (AllOk.mem ⟨eFits_ok, eHome_ok, eClone_ok, eCanon_ok, eMax_ok, eSum_ok, eRight_ok, trivial⟩) glR_two
/-- What a call makes of a register: the word, an error, what it tells. -/
def regDo (x code v : Int) : List Int × Int × Int := if code = 1 then ([x], 0, x) else if code = 2 then ([iCanon v], 0, x) else if code = 3 then ([iTop x v], 0, iTop x v) else if code = 4 then ([iSum x v], 0, iSum x v) else ([x], 10, 0)
/-- What a call makes of a ballot of n. -/
def balDo (n : Nat) (w : List Int) (code key v : Int) : List Int × Int × Int :=
  if code = 12 then
    if key < n ∧ 1 ≤ v ∧ v ≤ 8 then
      if w.getD 0 0 = 1 then (w, 14, 0)
      else if w.getD (1 + key.toNat) 0 = 0 then ((w.set (1 + key.toNat) v).set (n + v.toNat) (IntKind.u64.wrap (w.getD (n + v.toNat) 0 + 1)), 0, 0)
      else (w, 13, 0)
    else (w, 10, 0)
  else if code = 13 then (w.set 0 1, 0, IntKind.u64.wrap (1 - w.getD 0 0))
  else if code = 14 then
    if 1 ≤ key ∧ key ≤ 8 then (w, 0, w.getD (n + key.toNat) 0) else (w, 10, 0)
  else if code = 15 then
    if key < n then (w, 0, w.getD (1 + key.toNat) 0) else (w, 10, 0)
  else if code = 16 then (w, 0, w.getD 0 0)
  else (w, 10, 0)
def applyS (k p n : Int) (w : List Int) (code key v : Int) : List Int × Int × Int × Int :=
  if fitsB k p n = true ∧ (k = 1 ∨ k = 5) then
    if (w.length : Int) = homeI k n then
      if k = 1 then
        if iCanon (w.getD 0 0) = w.getD 0 0 then ((regDo (w.getD 0 0) code v).1, (regDo (w.getD 0 0) code v).2.1, (regDo (w.getD 0 0) code v).2.2, 0) else ([], 0, 0, 2)
      else if rightB n.toNat w = true then ((balDo n.toNat w code key v).1, (balDo n.toNat w code key v).2.1, (balDo n.toNat w code key v).2.2, 0) else ([], 0, 0, 2)
    else ([], 0, 0, 2)
  else ([], 0, 0, 5)
theorem fitsB_room {k p n : Int} (h : fitsB k p n = true) : 1 ≤ k ∧ k ≤ 5 ∧ 1 ≤ p ∧ p ≤ 16 ∧ 1 ≤ n ∧ n ≤ 256 := of_decide_eq_true h
theorem getD_set_ne {xs : List Int} {i j : Nat} (v : Int) (h : i ≠ j) : (xs.set i v).getD j 0 = xs.getD j 0 := by simp [List.getD, List.getElem?_set, h]
abbrev applyArgs (k p n : Int) (m : Nat) (w : List Int) (code key v : Int) : List T := [.agg [.v (.int .i64 k), .v (.int .i64 p), .v (.int .i64 n)], .fl [.u64] m w, .agg [.v (.int .i64 code), .v (.int .u64 key), .v (.int .u64 v)]]
abbrev applyT (r : List Int × Int × Int × Int) : T := .tup [.ow 0 1 r.1.length, .agg [.v (.int .i64 r.2.1), .v (.int .u64 r.2.2.1)], .v (.int .i64 r.2.2.2)]
abbrev applyB (r : List Int × Int × Int × Int) : Hp := [(0, .fl [.u64] r.1)]
attribute [local irreducible] fitsB rightB
set_option maxRecDepth 100000 in
theorem applyN_pure (k p n : Int) (m : Nat) (w : List Int) (code key v : Int) (hf : fitsB k p n = true) (h1 : k ≠ 1) (h2 : k ≠ 5) : Pure Tryd.prog glR 24 (applyArgs k p n m w code key v) (applyT ([], 0, 0, 5)) (applyB ([], 0, 0, 5)) := by
  refine pure_of (C := ctxPlC Tryd.prog inlPl_ok) ctxPlC_good Tryd.func24 (c := bodyOf Tryd.f24) (by rfl) (Nat.le_of_ble_eq_true (by rfl)) 4 4 [0, 1, 2, 3, 5, 6, 7, 8, 9, 10, 11, 24, 30, 36, 44, 54] ?_
  conv => whnf
  repeat' (first | (refine ifB_t (by assumption) ?_; conv => whnf) | (refine ifB_f (by assumption) ?_; conv => whnf) | (refine ifB_dec (fun h => ?_) (fun h => ?_) <;> (first | (exfalso; omega) | (conv => whnf))) | (refine ifB_eq (fun h => ?_) (fun h => ?_) <;> (first | (exfalso; omega) | (conv => whnf))) | (refine ifB_ne (fun h => ?_) (fun h => ?_) <;> (first | (exfalso; omega) | (conv => whnf))) | (refine ifB_not ?_; conv => whnf) | (refine ifB_and ?_; conv => whnf) | (refine ifB_or ?_; conv => whnf) | (refine And.intro ?_ ?_; (first | omega | assumption | (exact allU_getD (by assumption) _) | (simp only [cutL]; omega) | (refine And.intro ?_ ?_ <;> first | assumption | exact allU_getD (by assumption) _) | (simp only [cutL, IntKind.wrap_u64, IntKind.wrap_i64] at *; omega) | decide); conv => whnf) | (refine ifB_mk (fun h => ?_) (fun h => ?_) <;> (conv => whnf)))
  all_goals repeat' (first | exact trivial | exact rfl | (refine And.intro ?_ ?_) | ((conv => whnf); done) | ((conv => whnf); (first | rfl | (refine congrArg (fun b => T.v (Value.bool b)) ?_; first | rfl | exact (decide_eq_true (by omega)).symm | exact (decide_eq_false (by omega)).symm | exact decide_eq_decide.2 (by omega)) | (refine congrArg (fun b => T.v (Value.int _ b)) ?_; first | rfl | omega) | omega)) | (first | rfl | (refine congrArg (fun b => T.v (Value.bool b)) ?_; first | rfl | exact (decide_eq_true (by omega)).symm | exact (decide_eq_false (by omega)).symm | exact decide_eq_decide.2 (by omega)) | (refine congrArg (fun b => T.v (Value.int _ b)) ?_; first | rfl | omega) | omega))
set_option maxRecDepth 100000 in
theorem applyF_pure (k p n : Int) (m : Nat) (w : List Int) (code key v : Int) (hf : fitsB k p n = false) : Pure Tryd.prog glR 24 (applyArgs k p n m w code key v) (applyT ([], 0, 0, 5)) (applyB ([], 0, 0, 5)) := by
  refine pure_of (C := ctxPlC Tryd.prog inlPl_ok) ctxPlC_good Tryd.func24 (c := bodyOf Tryd.f24) (by rfl) (Nat.le_of_ble_eq_true (by rfl)) 4 4 [0, 1, 2, 3, 5, 6, 7, 8, 9, 10, 11, 24, 30, 36, 44, 54] ?_
  conv => whnf
  repeat' (first | (refine ifB_t (by assumption) ?_; conv => whnf) | (refine ifB_f (by assumption) ?_; conv => whnf) | (refine ifB_dec (fun h => ?_) (fun h => ?_) <;> (first | (exfalso; omega) | (conv => whnf))) | (refine ifB_eq (fun h => ?_) (fun h => ?_) <;> (first | (exfalso; omega) | (conv => whnf))) | (refine ifB_ne (fun h => ?_) (fun h => ?_) <;> (first | (exfalso; omega) | (conv => whnf))) | (refine ifB_not ?_; conv => whnf) | (refine ifB_and ?_; conv => whnf) | (refine ifB_or ?_; conv => whnf) | (refine And.intro ?_ ?_; (first | omega | assumption | (exact allU_getD (by assumption) _) | (simp only [cutL]; omega) | (refine And.intro ?_ ?_ <;> first | assumption | exact allU_getD (by assumption) _) | (simp only [cutL, IntKind.wrap_u64, IntKind.wrap_i64] at *; omega) | decide); conv => whnf) | (refine ifB_mk (fun h => ?_) (fun h => ?_) <;> (conv => whnf)))
  repeat' (first | exact trivial | exact rfl | (refine And.intro ?_ ?_) | ((conv => whnf); done) | ((conv => whnf); (first | rfl | (refine congrArg (fun b => T.v (Value.bool b)) ?_; first | rfl | exact (decide_eq_true (by omega)).symm | exact (decide_eq_false (by omega)).symm | exact decide_eq_decide.2 (by omega)) | (refine congrArg (fun b => T.v (Value.int _ b)) ?_; first | rfl | omega) | omega)) | (first | rfl | (refine congrArg (fun b => T.v (Value.bool b)) ?_; first | rfl | exact (decide_eq_true (by omega)).symm | exact (decide_eq_false (by omega)).symm | exact decide_eq_decide.2 (by omega)) | (refine congrArg (fun b => T.v (Value.int _ b)) ?_; first | rfl | omega) | omega))
set_option maxRecDepth 100000 in
theorem applyL_pure (k p n : Int) (m : Nat) (w : List Int) (code key v : Int) (hf : fitsB k p n = true) (hk : k = 1 ∨ k = 5) (hm : (m : Int) ≠ homeI k n) : Pure Tryd.prog glR 24 (applyArgs k p n m w code key v) (applyT ([], 0, 0, 2)) (applyB ([], 0, 0, 2)) := by
  refine pure_of (C := ctxPlC Tryd.prog inlPl_ok) ctxPlC_good Tryd.func24 (c := bodyOf Tryd.f24) (by rfl) (Nat.le_of_ble_eq_true (by rfl)) 4 4 [0, 1, 2, 3, 5, 6, 7, 8, 9, 10, 11, 24, 30, 36, 44, 54] ?_
  conv => whnf
  repeat' (first | (refine ifB_t (by assumption) ?_; conv => whnf) | (refine ifB_f (by assumption) ?_; conv => whnf) | (refine ifB_dec (fun h => ?_) (fun h => ?_) <;> (first | (exfalso; omega) | (conv => whnf))) | (refine ifB_eq (fun h => ?_) (fun h => ?_) <;> (first | (exfalso; omega) | (conv => whnf))) | (refine ifB_ne (fun h => ?_) (fun h => ?_) <;> (first | (exfalso; omega) | (conv => whnf))) | (refine ifB_not ?_; conv => whnf) | (refine ifB_and ?_; conv => whnf) | (refine ifB_or ?_; conv => whnf) | (refine And.intro ?_ ?_; (first | omega | assumption | (exact allU_getD (by assumption) _) | (simp only [cutL]; omega) | (refine And.intro ?_ ?_ <;> first | assumption | exact allU_getD (by assumption) _) | (simp only [cutL, IntKind.wrap_u64, IntKind.wrap_i64] at *; omega) | decide); conv => whnf) | (refine ifB_mk (fun h => ?_) (fun h => ?_) <;> (conv => whnf)))
  all_goals first | (exact absurd (by assumption) hm) | repeat' (first | exact trivial | exact rfl | (refine And.intro ?_ ?_) | ((conv => whnf); done) | ((conv => whnf); (first | rfl | (refine congrArg (fun b => T.v (Value.bool b)) ?_; first | rfl | exact (decide_eq_true (by omega)).symm | exact (decide_eq_false (by omega)).symm | exact decide_eq_decide.2 (by omega)) | (refine congrArg (fun b => T.v (Value.int _ b)) ?_; first | rfl | omega) | omega)) | (first | rfl | (refine congrArg (fun b => T.v (Value.bool b)) ?_; first | rfl | exact (decide_eq_true (by omega)).symm | exact (decide_eq_false (by omega)).symm | exact decide_eq_decide.2 (by omega)) | (refine congrArg (fun b => T.v (Value.int _ b)) ?_; first | rfl | omega) | omega))
set_option maxRecDepth 100000 in
theorem applyR_pure (p n : Int) (x code key v : Int) (hf : fitsB 1 p n = true) (hx : U64 x) (hk : U64 key) (hv : U64 v) : Pure Tryd.prog glR 24 (applyArgs 1 p n 1 [x] code key v) (applyT (applyS 1 p n [x] code key v)) (applyB (applyS 1 p n [x] code key v)) := by
  have e : applyS 1 p n [x] code key v = if iCanon x = x then ((regDo x code v).1, (regDo x code v).2.1, (regDo x code v).2.2, 0) else ([], 0, 0, 2) := by simp [applyS, hf, homeI]
  rw [e]; clear e
  refine pure_of (C := ctxPlC Tryd.prog inlPl_ok) ctxPlC_good Tryd.func24 (c := bodyOf Tryd.f24) (by rfl) (Nat.le_of_ble_eq_true (by rfl)) 4 4 [0, 1, 2, 3, 5, 6, 7, 8, 9, 10, 11, 24, 30, 36, 44, 54] ?_
  conv => whnf
  have gx : [x].getD (0 + Int.toNat 0 * (0 + 1)) 0 = x := rfl
  have gy : [x].getD (0 + addN 0 (Int.toNat 0) * (0 + 1)) 0 = x := rfl
  repeat' (first | (refine ifB_t (by assumption) ?_; conv => whnf) | (refine ifB_f (by assumption) ?_; conv => whnf) | (refine ifB_dec (fun h => ?_) (fun h => ?_) <;> (first | (exfalso; omega) | (conv => whnf))) | (refine ifB_eq (fun h => ?_) (fun h => ?_) <;> (first | (exfalso; omega) | (conv => whnf))) | (refine ifB_ne (fun h => ?_) (fun h => ?_) <;> (first | (exfalso; omega) | (conv => whnf))) | (refine ifB_not ?_; conv => whnf) | (refine ifB_and ?_; conv => whnf) | (refine ifB_or ?_; conv => whnf) | (refine And.intro ?_ ?_; (first | omega | assumption | (exact allU_getD (by assumption) _) | (simp only [cutL]; omega) | (refine And.intro ?_ ?_ <;> first | assumption | exact allU_getD (by assumption) _) | (simp only [cutL, IntKind.wrap_u64, IntKind.wrap_i64] at *; omega) | decide); conv => whnf) | (refine ifB_mk (fun h => ?_) (fun h => ?_) <;> (conv => whnf)))
  all_goals (first | rw [if_neg (by assumption)] | rw [if_pos (by assumption)])
  all_goals first | (subst code; repeat' (first | exact trivial | exact rfl | (refine And.intro ?_ ?_) | ((conv => whnf); done) | ((conv => whnf); (first | rfl | (refine congrArg (fun b => T.v (Value.bool b)) ?_; first | rfl | exact (decide_eq_true (by omega)).symm | exact (decide_eq_false (by omega)).symm | exact decide_eq_decide.2 (by omega)) | (refine congrArg (fun b => T.v (Value.int _ b)) ?_; first | rfl | omega) | omega)) | (first | rfl | (refine congrArg (fun b => T.v (Value.bool b)) ?_; first | rfl | exact (decide_eq_true (by omega)).symm | exact (decide_eq_false (by omega)).symm | exact decide_eq_decide.2 (by omega)) | (refine congrArg (fun b => T.v (Value.int _ b)) ?_; first | rfl | omega) | omega))) | (rw [show regDo x code v = ([x], 10, 0) from by unfold regDo; rw [if_neg (by assumption), if_neg (by assumption), if_neg (by assumption), if_neg (by assumption)]]; repeat' (first | exact trivial | exact rfl | (refine And.intro ?_ ?_) | ((conv => whnf); done) | ((conv => whnf); (first | rfl | (refine congrArg (fun b => T.v (Value.bool b)) ?_; first | rfl | exact (decide_eq_true (by omega)).symm | exact (decide_eq_false (by omega)).symm | exact decide_eq_decide.2 (by omega)) | (refine congrArg (fun b => T.v (Value.int _ b)) ?_; first | rfl | omega) | omega)) | (first | rfl | (refine congrArg (fun b => T.v (Value.bool b)) ?_; first | rfl | exact (decide_eq_true (by omega)).symm | exact (decide_eq_false (by omega)).symm | exact decide_eq_decide.2 (by omega)) | (refine congrArg (fun b => T.v (Value.int _ b)) ?_; first | rfl | omega) | omega))) | repeat' (first | exact trivial | exact rfl | (refine And.intro ?_ ?_) | ((conv => whnf); done) | ((conv => whnf); (first | rfl | (refine congrArg (fun b => T.v (Value.bool b)) ?_; first | rfl | exact (decide_eq_true (by omega)).symm | exact (decide_eq_false (by omega)).symm | exact decide_eq_decide.2 (by omega)) | (refine congrArg (fun b => T.v (Value.int _ b)) ?_; first | rfl | omega) | omega)) | (first | rfl | (refine congrArg (fun b => T.v (Value.bool b)) ?_; first | rfl | exact (decide_eq_true (by omega)).symm | exact (decide_eq_false (by omega)).symm | exact decide_eq_decide.2 (by omega)) | (refine congrArg (fun b => T.v (Value.int _ b)) ?_; first | rfl | omega) | omega))
set_option maxRecDepth 100000 in
set_option maxHeartbeats 2000000 in
theorem applyV_pure (p : Int) (n m : Nat) (w : List Int) (code key v : Int) (hf : fitsB 5 p n = true) (hx : AllU w) (hk : U64 key) (hv : U64 v) (hm : m = n + 9) : Pure Tryd.prog glR 24 (applyArgs 5 p n m w code key v) (applyT (applyS 5 p n w code key v)) (applyB (applyS 5 p n w code key v)) := by
  refine pure_wf fun hw => ?_
  obtain ⟨-, ⟨w1, w2⟩, -⟩ := hw
  simp only [List.length_cons, List.length_nil, Nat.zero_add, Nat.mul_one] at w1
  have e : applyS 5 p n w code key v = if rightB n w = true then ((balDo n w code key v).1, (balDo n w code key v).2.1, (balDo n w code key v).2.2, 0) else ([], 0, 0, 2) := by simp [applyS, hf, homeI, w1, hm]; intro h; omega
  rw [e]; clear e
  have hn := (fitsB_room hf).2.2.2.2
  have hR : ∃ n0 : Nat, (n : Int) = (n0 : Int) ∧ AllU w ∧ m = n0 + 9 ∧ n0 ≤ 1000 := ⟨n, rfl, hx, hm, by omega⟩
  obtain ⟨hk1, hk2⟩ : 0 ≤ key ∧ key < 18446744073709551616 := ⟨hk.1, by have := hk.2; omega⟩
  have hh : (m : Int) = homeI 5 n := by show (m : Int) = 9 + n; omega
  have ec : cutL (cutL m (some 1) none) none (some (n : Int)) = n := by simp only [cutL]; omega
  have ed : cutL (cutL m (some 1) none) (some (n : Int)) none = 8 := by simp only [cutL]; omega
  have ew : IntKind.u64.wrap ((cutL (cutL m (some 1) none) none (some (n : Int)) : Nat) : Int) = n := by rw [ec, IntKind.wrap_u64]; omega
  refine pure_of (C := ctxPlC Tryd.prog inlPl_ok) ctxPlC_good Tryd.func24 (c := bodyOf Tryd.f24) (by rfl) (Nat.le_of_ble_eq_true (by rfl)) 4 4 [0, 1, 2, 3, 5, 6, 7, 8, 9, 10, 11, 24, 30, 36, 44, 54] ?_
  conv => whnf
  repeat' (first | (refine ifB_t (by assumption) ?_; conv => whnf) | (refine ifB_f (by assumption) ?_; conv => whnf) | (refine ifB_dec (fun h => ?_) (fun h => ?_) <;> (first | (exfalso; omega) | (conv => whnf))) | (refine ifB_eq (fun h => ?_) (fun h => ?_) <;> (first | (exfalso; omega) | (conv => whnf))) | (refine ifB_ne (fun h => ?_) (fun h => ?_) <;> (first | (exfalso; omega) | (conv => whnf))) | (refine ifB_not ?_; conv => whnf) | (refine ifB_and ?_; conv => whnf) | (refine ifB_or ?_; conv => whnf) | (refine And.intro ?_ ?_; (first | omega | assumption | (exact allU_getD (by assumption) _) | (simp only [cutL]; omega) | (refine And.intro ?_ ?_ <;> first | assumption | exact allU_getD (by assumption) _) | (simp only [cutL, IntKind.wrap_u64, IntKind.wrap_i64] at *; omega) | decide); conv => whnf) | (refine ifB_mk (fun h => ?_) (fun h => ?_) <;> (conv => whnf)))
  all_goals first | (exact absurd hh (by assumption)) | skip
  all_goals first | (rw [if_neg (fun e => Bool.false_ne_true ((by assumption : rightB _ _ = false).symm.trans e))]; (repeat' (first | exact trivial | exact rfl | (refine And.intro ?_ ?_) | ((conv => whnf); done) | ((conv => whnf); (first | rfl | (refine congrArg (fun b => T.v (Value.bool b)) ?_; first | rfl | exact (decide_eq_true (by omega)).symm | exact (decide_eq_false (by omega)).symm | exact decide_eq_decide.2 (by omega)) | (refine congrArg (fun b => T.v (Value.int _ b)) ?_; first | rfl | omega) | omega)) | (first | rfl | (refine congrArg (fun b => T.v (Value.bool b)) ?_; first | rfl | exact (decide_eq_true (by omega)).symm | exact (decide_eq_false (by omega)).symm | exact decide_eq_decide.2 (by omega)) | (refine congrArg (fun b => T.v (Value.int _ b)) ?_; first | rfl | omega) | omega))); done) | skip
  all_goals (rw [if_pos (by assumption)]; obtain ⟨r, hr⟩ : ∃ r, balDo n w code key v = r := ⟨_, rfl⟩; rw [hr]; unfold balDo at hr)
  all_goals (repeat (first | rw [if_pos (by first | assumption | omega | (simp only [addN_eq, loN, Nat.zero_add, Nat.mul_one, Nat.zero_mul, Nat.add_zero, Int.toNat_zero] at *; first | assumption | omega))] at hr | rw [if_neg (by first | assumption | omega | (simp only [addN_eq, loN, Nat.zero_add, Nat.mul_one, Nat.zero_mul, Nat.add_zero, Int.toNat_zero] at *; first | assumption | omega))] at hr))
  all_goals (subst hr)
  all_goals repeat' (first | exact trivial | exact rfl | (refine And.intro ?_ ?_) | ((conv => whnf); done) | ((conv => whnf); (first | rfl | (refine congrArg (fun b => T.v (Value.bool b)) ?_; first | rfl | exact (decide_eq_true (by omega)).symm | exact (decide_eq_false (by omega)).symm | exact decide_eq_decide.2 (by omega)) | (refine congrArg (fun b => T.v (Value.int _ b)) ?_; first | rfl | omega) | omega)) | (first | rfl | (refine congrArg (fun b => T.v (Value.bool b)) ?_; first | rfl | exact (decide_eq_true (by omega)).symm | exact (decide_eq_false (by omega)).symm | exact decide_eq_decide.2 (by omega)) | (refine congrArg (fun b => T.v (Value.int _ b)) ?_; first | rfl | omega) | omega))
  all_goals (conv => whnf)
  all_goals first | (simp [w1]; done) | (have wk : IntKind.u64.wrap (key - 1) = key - 1 := (by rw [IntKind.wrap_u64]; omega); refine congrArg (fun b => T.v (Value.int _ b)) ?_; rw [wk]; (try dsimp only); simp only [addN_eq, loN, Nat.zero_add, Nat.mul_one]; refine congrArg (fun i => List.getD w i 0) ?_; (try dsimp only); omega) | (refine congrArg (fun b => T.v (Value.int _ b)) ?_; (try dsimp only); simp only [addN_eq, loN, Nat.zero_add, Nat.mul_one]; refine congrArg (fun i => List.getD w i 0) ?_; (try dsimp only); omega) | skip
  have wv : IntKind.u64.wrap (v - 1) = v - 1 := by rw [IntKind.wrap_u64]; omega
  have ea : 0 + addN (addN (addN 0 (loN (some 1))) (loN none)) key.toNat * (0 + 1) = 1 + key.toNat := by simp [addN_eq, loN]
  have eb : 0 + addN (addN (addN 0 (loN (some 1))) (loN (some (n : Int)))) (v - 1).toNat * (0 + 1) = n + v.toNat := by simp only [addN_eq, loN]; (try dsimp only); omega
  rw [wv, ea, eb, Nat.add_zero, Nat.add_zero]
  try dsimp only
  rw [getD_set_ne _ (by omega)]
theorem apply_pure (k p n : Int) (m : Nat) (w : List Int) (code key v : Int) (hx : AllU w) (hk : U64 key) (hv : U64 v) : Pure Tryd.prog glR 24 (applyArgs k p n m w code key v) (applyT (applyS k p n w code key v)) (applyB (applyS k p n w code key v)) := by
  refine pure_wf fun hw => ?_
  obtain ⟨-, ⟨w1, w2⟩, -⟩ := hw
  simp only [List.length_cons, List.length_nil, Nat.zero_add, Nat.mul_one] at w1
  cases hf : fitsB k p n
  · have e : applyS k p n w code key v = ([], 0, 0, 5) := by simp [applyS, hf]
    rw [e]; exact applyF_pure _ _ _ _ _ _ _ _ hf
  by_cases h15 : k = 1 ∨ k = 5
  · by_cases hm : (m : Int) = homeI k n
    · rcases h15 with rfl | rfl
      · have hl : w.length = 1 := by rw [w1]; have : (m : Int) = 1 := hm; omega
        obtain ⟨x, rfl⟩ := List.length_eq_one_iff.1 hl
        have : m = 1 := by rw [← w1]; rfl
        subst this
        exact applyR_pure _ _ _ _ _ _ hf (hx x (List.mem_cons_self ..)) hk hv
      · have hn := (fitsB_room hf).2.2.2.2
        have hm : (m : Int) = 9 + n := hm
        obtain ⟨n0, rfl⟩ := Int.eq_ofNat_of_zero_le (a := n) (by omega)
        exact applyV_pure _ _ _ _ _ _ _ hf hx hk hv (by omega)
    · have e : applyS k p n w code key v = ([], 0, 0, 2) := by unfold applyS; rw [if_pos ⟨hf, h15⟩, if_neg (by rw [w1]; exact hm)]
      rw [e]; exact applyL_pure _ _ _ _ _ _ _ _ hf h15 hm
  · have e : applyS k p n w code key v = ([], 0, 0, 5) := by unfold applyS; rw [if_neg (fun h => h15 h.2)]
    rw [e]; exact applyN_pure _ _ _ _ _ _ _ _ hf (fun h => h15 (.inl h)) (fun h => h15 (.inr h))
def eApply : Entry := ⟨24, 3, fun l => match l with | [.agg [.v (.int .i64 k), .v (.int .i64 p), .v (.int .i64 n)], .fl [.u64] m w, .agg [.v (.int .i64 code), .v (.int .u64 key), .v (.int .u64 v)]] => some (some (AllU w ∧ U64 key ∧ U64 v), applyT (applyS k p n w code key v), applyB (applyS k p n w code key v)) | _ => none⟩
theorem eApply_ok : eApply.ok Tryd.prog glR := ⟨enters_of Tryd.func24 (by kernel_rfl) (by kernel_rfl), by
  intro args c t bs h hc
  simp only [eApply] at h
  split at h <;> cases h
  replace hc := hc _ rfl
  exact apply_pure _ _ _ _ _ _ _ _ hc.1 hc.2.1 hc.2.2⟩
end Go.Proofs.YtlcpcgdecodjfaaDoor
