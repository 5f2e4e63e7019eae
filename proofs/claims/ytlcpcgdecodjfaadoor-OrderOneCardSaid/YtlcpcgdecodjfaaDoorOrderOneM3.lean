/- Texts put together: Word, Gl, MixW. -/
import Derived.Test.YtlcpcgdecodjfaaDoorOrderOneM2
import Derived.Test.YtlcpcgdecodjfaaDoorProg
import Derived.WalkKit
import Derived.WalkLawsBesides
import Derived.Deep.Draws
import Derived.Laws.EntriesVeiled
import Derived.KernelRfl
namespace Go.Proofs.YtlcpcgdecodjfaaDoor
set_option linter.unusedVariables false
set_option linter.unusedSimpArgs false
open Go.RowKit

/-- A word of 64 bits. -/
def U64 (a : Int) : Prop := 0 ≤ a ∧ a < 18446744073709551616
/-- A number of Go's int. -/
def I64 (a : Int) : Prop := -9223372036854775808 ≤ a ∧ a ≤ 9223372036854775807

theorem u64_of_wf {a : Int} (h : (Lit.int .u64 a).wf = true) : U64 a := by
  have h : (decide (IntKind.u64.min ≤ a) && decide (a ≤ IntKind.u64.max)) = true := h
  rw [Bool.and_eq_true, decide_eq_true_iff, decide_eq_true_iff] at h
  have e1 : IntKind.u64.min = 0 := rfl
  have e2 : IntKind.u64.max = 18446744073709551615 := rfl
  rw [e1, e2] at h
  unfold U64; omega
theorem i64_of_wf {a : Int} (h : (Lit.int .i64 a).wf = true) : I64 a := by
  have h : (decide (IntKind.i64.min ≤ a) && decide (a ≤ IntKind.i64.max)) = true := h
  rw [Bool.and_eq_true, decide_eq_true_iff, decide_eq_true_iff] at h
  have e1 : IntKind.i64.min = -9223372036854775808 := rfl
  have e2 : IntKind.i64.max = 9223372036854775807 := rfl
  rw [e1, e2] at h
  unfold I64; omega
theorem u64_of {a : Int} (h : decide (0 ≤ a ∧ a < 18446744073709551616) = true) : U64 a := by unfold U64; exact of_decide_eq_true h

theorem ret_int {k : IntKind} {a b : Int} (h : a = b) : Ending.returned (.int k a) = .returned (.int k b) := by rw [h]
theorem ret_bool {a b : Bool} (h : a = b) : Ending.returned (.bool a) = .returned (.bool b) := by rw [h]
theorem ret_int_bool {k : IntKind} {a b : Int} {c d : Bool} (h : a = b) (h2 : c = d) : Ending.returned (.tuple #[.int k a, .bool c]) = .returned (.tuple #[.int k b, .bool d]) := by rw [h, h2]
theorem ret_int2 {k k2 : IntKind} {a b c d : Int} (h : a = b) (h2 : c = d) : Ending.returned (.tuple #[.int k a, .int k2 c]) = .returned (.tuple #[.int k b, .int k2 d]) := by rw [h, h2]

theorem bnot {a b : Int} (h : ¬ a = b) : (a == b) = false := beq_eq_false_iff_ne.2 h
theorem byes {a b : Int} (h : a = b) : (a == b) = true := beq_iff_eq.2 h
theorem nnot {a b : Int} (h : ¬ a = b) : (a != b) = true := bne_iff_ne.2 h
theorem nyes {a b : Int} (h : a = b) : (a != b) = false := by rw [h]; simp
theorem bne_false {a b : Int} (h : (a != b) = false) : a = b := by simpa using h
theorem bne_beq {a b : Int} (h : (a != b) = true) : (a == b) = false := by simpa using h
theorem bne_beq' {a b : Int} (h : (a != b) = false) : (a == b) = true := by simpa using h

theorem quiet_below {w w' : World} (h : ∃ n, w' = w.drewN n) : Below w.heap.size w w' := by
  obtain ⟨n, rfl⟩ := h
  exact ⟨rfl, rfl, rfl, Nat.le_refl _, fun _ _ => rfl⟩
theorem u64_bits (op : BinOp) (x y : Int) : U64 (bits op .u64 x y) := by
  unfold U64 bits
  rw [IntKind.wrap_u64]
  omega
/-- Block B holds these words. -/
def WordRow (w : World) (B : Nat) (xs : List Int) : Prop := B < w.heap.size ∧ ∀ k, k < xs.length → w.cell? ⟨B, k, none⟩ = some (.int .u64 (xs.getD k 0))
theorem WordRow.below {w w' : World} {B C : Nat} {xs : List Int} (h : WordRow w B xs) (hb : Below C w w') (hC : B < C) : WordRow w' B xs :=
  ⟨Nat.lt_of_lt_of_le h.1 hb.size, fun k hk => (hb.cell (p := ⟨B, k, none⟩) hC).trans (h.2 k hk)⟩
theorem WordRow.made (w : World) (vs : Array Value) (t : TypeId) (xs : List Int) (h : vs.toList = xs.map (Value.int .u64)) : WordRow (w.alloc (.cells vs t)) w.heap.size xs := by
  refine ⟨by simp, fun k hk => ?_⟩
  have hl : vs.size = xs.length := by rw [← Array.length_toList, h, List.length_map]
  have hv : vs[k]? = some (.int .u64 (xs.getD k 0)) := by
    rw [← Array.getElem?_toList, h, List.getElem?_map, List.getD_eq_getElem?_getD, List.getElem?_eq_getElem hk]; rfl
  simp only [World.cell?, World.alloc, Array.getElem?_push_size, Option.isSome_none, Bool.false_eq_true, if_false]
  exact hv
/-- What is below stays: two rules for a walk. -/
theorem bcell {W w1 : World} (hb : Below W.heap.size W w1) : (∀ b o, b < W.heap.size → w1.cell? ⟨b, o, none⟩ = W.cell? ⟨b, o, none⟩) ∧ (∀ b o, b < W.heap.size → w1.frozen? ⟨b, o, none⟩ = W.frozen? ⟨b, o, none⟩) :=
  ⟨fun b o h => hb.cell (p := ⟨b, o, none⟩) h, fun b o h => hb.frozen (p := ⟨b, o, none⟩) h⟩
theorem cell_new (w : World) (vs : Array Value) (t : TypeId) (k : Nat) (v : Value) (h : vs[k]? = some v) : (w.alloc (.cells vs t)).cell? ⟨w.heap.size, k, none⟩ = some v := by
  simp only [World.cell?, World.alloc, Array.getElem?_push_size, Option.isSome_none, Bool.false_eq_true, if_false]
  exact h
theorem cell_new2 (w : World) (vs : Array Value) (t : TypeId) (o : Obj) (k : Nat) (v : Value) (h : vs[k]? = some v) : ((w.alloc (.cells vs t)).alloc o).cell? ⟨w.heap.size, k, none⟩ = some v :=
  (World.cell?_alloc_past _ _ _ (by simp)).trans (cell_new w vs t k v h)
theorem frozen_new (w : World) (vs : Array Value) (t : TypeId) (k : Nat) : (w.alloc (.cells vs t)).frozen? ⟨w.heap.size, k, none⟩ = false := by
  simp only [World.frozen?, World.alloc, Array.getElem?_push_size]
  simp
theorem cell_newS (w : World) (o : Obj) (vs : Array Value) (t : TypeId) (k : Nat) (v : Value) (h : vs[k]? = some v) : ((w.alloc o).alloc (.cells vs t)).cell? ⟨w.heap.size + 1, k, none⟩ = some v := by
  have := cell_new (w.alloc o) vs t k v h
  rw [show (w.alloc o).heap.size = w.heap.size + 1 by simp] at this
  exact this
theorem frozen_newS (w : World) (o : Obj) (vs : Array Value) (t : TypeId) (k : Nat) : ((w.alloc o).alloc (.cells vs t)).frozen? ⟨w.heap.size + 1, k, none⟩ = false := by
  have := frozen_new (w.alloc o) vs t k
  rw [show (w.alloc o).heap.size = w.heap.size + 1 by simp] at this
  exact this
theorem cell_set_same {w : World} {a : Addr} {u v : Value} (h : w.cell? a = some u) : (w.setCell a v).cell? a = some v := World.cell?_setCell_same _ _ _ h
theorem cell_set_other {w : World} {a b : Addr} {v : Value} (h : a ≠ b) : (w.setCell a v).cell? b = w.cell? b := World.cell?_setCell_other _ _ _ _ h
theorem Below.one (w : World) (o : Obj) : Below w.heap.size w (w.alloc o) := (Below.refl _ _).alloc (Nat.le_refl _) _
/-- A slice whose elements read as these integers of kind k. -/
def SlI (k : IntKind) (w : World) (a : Option Addr) (len : Nat) (xs : List Int) : Prop :=
  xs.length = len ∧ (len = 0 ∨ ∃ b off, a = some ⟨b, off, none⟩ ∧ b < w.heap.size ∧ ∀ i, i < len → w.cell? ⟨b, off + i, none⟩ = some (.int k (xs.getD i 0)))
theorem SlI.below {k : IntKind} {w w' : World} {a : Option Addr} {len B : Nat} {xs : List Int} (h : SlI k w a len xs) (hb : Below B w w') (hB : w.heap.size ≤ B) : SlI k w' a len xs := by
  refine ⟨h.1, h.2.imp id ?_⟩
  rintro ⟨b, off, e, hlt, hc⟩
  exact ⟨b, off, e, Nat.lt_of_lt_of_le hlt hb.size, fun i hi => (hb.cell (p := ⟨b, off + i, none⟩) (Nat.lt_of_lt_of_le hlt hB)).trans (hc i hi)⟩
def AllU (xs : List Int) : Prop := ∀ x ∈ xs, U64 x
def AllI (xs : List Int) : Prop := ∀ x ∈ xs, I64 x
theorem AllU.at {xs : List Int} (h : AllU xs) {i : Nat} (hi : i < xs.length) : U64 (xs.getD i 0) := by
  rw [List.getD_eq_getElem?_getD, List.getElem?_eq_getElem hi]; exact h _ (List.getElem_mem hi)
theorem AllI.at {xs : List Int} (h : AllI xs) {i : Nat} (hi : i < xs.length) : I64 (xs.getD i 0) := by
  rw [List.getD_eq_getElem?_getD, List.getElem?_eq_getElem hi]; exact h _ (List.getElem_mem hi)
theorem take_succ_getD {xs : List Int} {i : Nat} (hi : i < xs.length) : xs.take (i + 1) = xs.take i ++ [xs.getD i 0] := by
  rw [List.take_succ_eq_append_getElem hi, List.getD_eq_getElem?_getD, List.getElem?_eq_getElem hi]; rfl
end Go.Proofs.YtlcpcgdecodjfaaDoor
namespace Go.Proofs.YtlcpcgdecodjfaaDoor
open Go.RowKit Go.Proofs.YtlcpcgdecodjfaaDoor.Am
set_option linter.unusedVariables false
set_option linter.unusedSimpArgs false

def bodyOf (f : Func) : Code := match f.body with | some c => c | none => .skip
def objX : List Int := [0, 0, 1, 0, 1, 2, 1, 4, 2, 4, 9, 1]
def mixX : List Int := [30, 13787848793156543929, 27, 10723151780598845931, 31, 1]
/-- What the rows of the plain laws lay; and with it what is laid for mixing. -/
def glR (g : Nat) : T := match g with
  | 0 => .fp [.i64] objX 0 0 0 12
  | _ => .dead
def glM (g : Nat) : T := match g with
  | 0 => .fp [.i64] objX 0 0 0 12
  | 1 => .fp [.u64] mixX 0 0 0 6
  | _ => .dead
theorem glR_two : ∀ g, glR g = .dead ∨ ∃ ks xs b st i e, glR g = .fp ks xs b st i e := by
  intro g; unfold glR; split
  · exact .inr ⟨_, _, _, _, _, _, rfl⟩
  · exact .inl rfl
theorem glM_two : ∀ g, glM g = .dead ∨ ∃ ks xs b st i e, glM g = .fp ks xs b st i e := by
  intro g; unfold glM; split
  · exact .inr ⟨_, _, _, _, _, _, rfl⟩
  · exact .inr ⟨_, _, _, _, _, _, rfl⟩
  · exact .inl rfl
theorem glR_glM (g : Nat) : glR g = .dead ∨ glR g = glM g := by
  unfold glR; split
  · exact .inr rfl
  · exact .inl rfl
theorem pure_lift {P : Program} {f : FuncId} {args : List T} {t : T} {bs : Hp} (h : Pure P glR f args t bs) : Pure P glM f args t bs := fun w vs hg ha =>
  h w vs (fun g => by rcases glR_glM g with e | e <;> rw [e]; exact .dead; exact hg g) ha
theorem entry_lift {P : Program} {e : Entry} (h : e.ok P glR) : e.ok P glM := ⟨h.enters, fun args c t bs hs hc => pure_lift (h.calls args c t bs hs hc)⟩
theorem wrap64 {a : Int} (h1 : -9223372036854775808 ≤ a) (h2 : a ≤ 9223372036854775807) : IntKind.i64.wrap a = a := by
  rw [IntKind.wrap_i64]; omega
theorem wrapU {a : Int} (h1 : 0 ≤ a) (h2 : a < 18446744073709551616) : IntKind.u64.wrap a = a := by
  rw [IntKind.wrap_u64]; omega
theorem wsucc {j n : Nat} (h : j < n) (hn : n ≤ 9223372036854775807) : IntKind.i64.wrap ((j : Int) + 1) = ((j + 1 : Nat) : Int) := by rw [wrap64 (by omega) (by omega)]; rfl
theorem take_snoc {xs : List Int} {j : Nat} (h : j < xs.length) : xs.take (j + 1) = xs.take j ++ [xs.getD j 0] := by
  rw [List.take_add_one, List.getD_eq_getElem?_getD]
  rw [List.getElem?_eq_getElem h]; rfl
theorem take_same {xs ys : List Int} {j : Nat} (h1 : j < xs.length) (h2 : j < ys.length) (h : xs.take j = ys.take j) (e : xs.getD j 0 = ys.getD j 0) : xs.take (j + 1) = ys.take (j + 1) := by
  rw [take_snoc h1, take_snoc h2, h, e]
theorem noEq (P : Program) : ∀ t, hasN [] t = true → P.stoodInHeld t = false := fun t h => by cases h
/-- A closed setting: no table, no functions walked where they are called. -/
def ctx0 (P : Program) : Ctx := ctx P glR [] [] (noEq P) [] (fun _ h => by cases h)
theorem ctx0_good : (ctx0 Tryd.prog).good := ctx_good (by kernel_rfl) (fun _ h => by cases h) glR_two
/-- The same, with what is laid for mixing. -/
def ctx0M (P : Program) : Ctx := ctx P glM [] [] (noEq P) [] (fun _ h => by cases h)
theorem ctx0M_good : (ctx0M Tryd.prog).good := ctx_good (by kernel_rfl) (fun _ h => by cases h) glM_two
theorem allU_getD {xs : List Int} (h : AllU xs) (i : Nat) : U64 (xs.getD i 0) := by
  by_cases hi : i < xs.length
  · exact h.at hi
  · have : xs.getD i 0 = 0 := by simp [List.getD, List.getElem?_eq_none (Nat.le_of_not_lt hi)]
    rw [this]; exact ⟨by omega, by omega⟩
theorem allU_set {xs : List Int} (h : AllU xs) (i : Nat) {v : Int} (hv : U64 v) : AllU (xs.set i v) := by
  intro x hx
  rcases List.mem_or_eq_of_mem_set hx with h1 | rfl
  · exact h x h1
  · exact hv
end Go.Proofs.YtlcpcgdecodjfaaDoor

namespace Go.Proofs.YtlcpcgdecodjfaaDoor
open Go.RowKit Go.Proofs.YtlcpcgdecodjfaaDoor.Am
set_option linter.unusedVariables false
set_option linter.unusedSimpArgs false


def mixF (w f : Int) : Int := bits .xor .u64 w (w.fdiv (2 ^ (min f.toNat IntKind.u64.bits)))
def mixR (w f c : Int) : Int := IntKind.u64.wrap (mixF w f * c)
def iMix (w : Int) : Int := mixR (mixR (mixR w 30 13787848793156543929) 27 10723151780598845931) 31 1
def bBefore (a b : Int) : Bool := decide (iMix a > iMix b)
set_option maxRecDepth 100000 in
theorem mix_pure (a : Int) : Pure Tryd.prog glM 76 [.v (.int .u64 a)] (.v (.int .u64 (iMix a))) := by
  refine pure_of (C := ctx0M Tryd.prog) ctx0M_good Tryd.func76 (c := bodyOf Tryd.f76) (by rfl) (Nat.le_of_ble_eq_true (by rfl)) 4 0 [0, 2, 4, 5, 6, 7] ?_
  conv => whnf
  refine TW.roundsV ctx0M_good 0 (base := 0) (lv := [0, 2, 4, 5, 6, 7]) 4 ?_
  conv => whnf
  repeat' (first | (refine ifB_t (by assumption) ?_; conv => whnf) | (refine ifB_f (by assumption) ?_; conv => whnf) | (refine ifB_dec (fun h => ?_) (fun h => ?_) <;> (first | (exfalso; omega) | (conv => whnf))) | (refine ifB_eq (fun h => ?_) (fun h => ?_) <;> (first | (exfalso; omega) | (conv => whnf))) | (refine ifB_ne (fun h => ?_) (fun h => ?_) <;> (first | (exfalso; omega) | (conv => whnf))) | (refine ifB_not ?_; conv => whnf) | (refine ifB_and ?_; conv => whnf) | (refine ifB_or ?_; conv => whnf) | (refine And.intro ?_ ?_; (first | omega | assumption | (exact allU_getD (by assumption) _) | (simp only [cutL]; omega) | (refine And.intro ?_ ?_ <;> first | assumption | exact allU_getD (by assumption) _) | (simp only [cutL, IntKind.wrap_u64, IntKind.wrap_i64] at *; omega) | decide); conv => whnf))
  refine ⟨⟨[0, 2, 5, 6], [], []⟩, rfl, ?_⟩
  conv => whnf
  repeat' (first | (refine ifB_t (by assumption) ?_; conv => whnf) | (refine ifB_f (by assumption) ?_; conv => whnf) | (refine ifB_dec (fun h => ?_) (fun h => ?_) <;> (first | (exfalso; omega) | (conv => whnf))) | (refine ifB_eq (fun h => ?_) (fun h => ?_) <;> (first | (exfalso; omega) | (conv => whnf))) | (refine ifB_ne (fun h => ?_) (fun h => ?_) <;> (first | (exfalso; omega) | (conv => whnf))) | (refine ifB_not ?_; conv => whnf) | (refine ifB_and ?_; conv => whnf) | (refine ifB_or ?_; conv => whnf) | (refine And.intro ?_ ?_; (first | omega | assumption | (exact allU_getD (by assumption) _) | (simp only [cutL]; omega) | (refine And.intro ?_ ?_ <;> first | assumption | exact allU_getD (by assumption) _) | (simp only [cutL, IntKind.wrap_u64, IntKind.wrap_i64] at *; omega) | decide); conv => whnf))
  refine ⟨⟨[0, 2, 5, 6], [], []⟩, rfl, ?_⟩
  conv => whnf
  repeat' (first | (refine ifB_t (by assumption) ?_; conv => whnf) | (refine ifB_f (by assumption) ?_; conv => whnf) | (refine ifB_dec (fun h => ?_) (fun h => ?_) <;> (first | (exfalso; omega) | (conv => whnf))) | (refine ifB_eq (fun h => ?_) (fun h => ?_) <;> (first | (exfalso; omega) | (conv => whnf))) | (refine ifB_ne (fun h => ?_) (fun h => ?_) <;> (first | (exfalso; omega) | (conv => whnf))) | (refine ifB_not ?_; conv => whnf) | (refine ifB_and ?_; conv => whnf) | (refine ifB_or ?_; conv => whnf) | (refine And.intro ?_ ?_; (first | omega | assumption | (exact allU_getD (by assumption) _) | (simp only [cutL]; omega) | (refine And.intro ?_ ?_ <;> first | assumption | exact allU_getD (by assumption) _) | (simp only [cutL, IntKind.wrap_u64, IntKind.wrap_i64] at *; omega) | decide); conv => whnf))
  refine ⟨⟨[0, 2, 5, 6], [], []⟩, rfl, ?_⟩
  conv => whnf
  rfl
def eMix : Entry := ⟨76, 4, fun l => match l with | [.v (.int .u64 a)] => some (none, .v (.int .u64 (iMix a)), []) | _ => none⟩
theorem eMix_ok : eMix.ok Tryd.prog glM := ⟨Am.enters_of Tryd.func76 (by kernel_rfl) (by kernel_rfl), by
  intro args c t bs h hc
  simp only [eMix] at h
  split at h <;> cases h
  exact mix_pure _⟩
def ctxMix (P : Program) : Ctx := ctx P glM [eMix] [] (noEq P) [] (fun _ h => by cases h)
theorem ctxMix_good : (ctxMix Tryd.prog).good := ctx_good (by kernel_rfl) (AllOk.mem ⟨eMix_ok, trivial⟩) glM_two
set_option maxRecDepth 100000 in
theorem before_pure (a b : Int) : Pure Tryd.prog glM 37 [.v (.int .u64 a), .v (.int .u64 b)] (.v (.bool (bBefore a b))) := by
  refine pure_of (C := ctxMix Tryd.prog) ctxMix_good Tryd.func37 (c := bodyOf Tryd.f37) (by rfl) (Nat.le_of_ble_eq_true (by rfl)) 4 0 [] ?_
  conv => whnf
  rfl
def eBefore : Entry := ⟨37, 4, fun l => match l with | [.v (.int .u64 a), .v (.int .u64 b)] => some (none, .v (.bool (bBefore a b)), []) | _ => none⟩
theorem eBefore_ok : eBefore.ok Tryd.prog glM := ⟨Am.enters_of Tryd.func37 (by kernel_rfl) (by kernel_rfl), by
  intro args c t bs h hc
  simp only [eBefore] at h
  split at h <;> cases h
  exact before_pure _ _⟩
set_option maxRecDepth 100000 in
theorem rfolded_pure (a n : Int) (hn : 0 ≤ n) : Pure Tryd.prog glM 140 [.v (.int .u64 a), .v (.int .i64 n)] (.v (.int .u64 (mixF a n))) := by
  refine pure_of (C := ctx0M Tryd.prog) ctx0M_good Tryd.func140 (c := bodyOf Tryd.f140) (by rfl) (Nat.le_of_ble_eq_true (by rfl)) 4 0 [] ?_
  conv => whnf
  repeat' (first | (refine ifB_t (by assumption) ?_; conv => whnf) | (refine ifB_f (by assumption) ?_; conv => whnf) | (refine ifB_dec (fun h => ?_) (fun h => ?_) <;> (first | (exfalso; omega) | (conv => whnf))) | (refine ifB_eq (fun h => ?_) (fun h => ?_) <;> (first | (exfalso; omega) | (conv => whnf))) | (refine ifB_ne (fun h => ?_) (fun h => ?_) <;> (first | (exfalso; omega) | (conv => whnf))) | (refine ifB_not ?_; conv => whnf) | (refine ifB_and ?_; conv => whnf) | (refine ifB_or ?_; conv => whnf) | (refine And.intro ?_ ?_; (first | omega | assumption | (exact allU_getD (by assumption) _) | (simp only [cutL]; omega) | (refine And.intro ?_ ?_ <;> first | assumption | exact allU_getD (by assumption) _) | (simp only [cutL, IntKind.wrap_u64, IntKind.wrap_i64] at *; omega) | decide); conv => whnf))
  rfl
def eRFolded : Entry := ⟨140, 4, fun l => match l with | [.v (.int .u64 a), .v (.int .i64 n)] => some (some (0 ≤ n), .v (.int .u64 (mixF a n)), []) | _ => none⟩
theorem eRFolded_ok : eRFolded.ok Tryd.prog glM := ⟨Am.enters_of Tryd.func140 (by kernel_rfl) (by kernel_rfl), by
  intro args c t bs h hc
  simp only [eRFolded] at h
  split at h <;> cases h
  replace hc := hc _ rfl
  exact rfolded_pure _ _ hc⟩
def ctxRMix0 (P : Program) : Ctx := ctx P glM [eRFolded] [] (noEq P) [] (fun _ h => by cases h)
theorem ctxRMix0_good : (ctxRMix0 Tryd.prog).good := ctx_good (by kernel_rfl) (AllOk.mem ⟨eRFolded_ok, trivial⟩) glM_two
def rMix (w : Int) : Int := mixF (mixR (mixR w 30 13787848793156543929) 27 10723151780598845931) 31
set_option maxRecDepth 100000 in
theorem rmix_pure (a : Int) : Pure Tryd.prog glM 136 [.v (.int .u64 a)] (.v (.int .u64 (rMix a))) := by
  refine pure_of (C := ctxRMix0 Tryd.prog) ctxRMix0_good Tryd.func136 (c := bodyOf Tryd.f136) (by rfl) (Nat.le_of_ble_eq_true (by rfl)) 4 0 [] ?_
  conv => whnf
  repeat' (first | (refine ifB_t (by assumption) ?_; conv => whnf) | (refine ifB_f (by assumption) ?_; conv => whnf) | (refine ifB_dec (fun h => ?_) (fun h => ?_) <;> (first | (exfalso; omega) | (conv => whnf))) | (refine ifB_eq (fun h => ?_) (fun h => ?_) <;> (first | (exfalso; omega) | (conv => whnf))) | (refine ifB_ne (fun h => ?_) (fun h => ?_) <;> (first | (exfalso; omega) | (conv => whnf))) | (refine ifB_not ?_; conv => whnf) | (refine ifB_and ?_; conv => whnf) | (refine ifB_or ?_; conv => whnf) | (refine And.intro ?_ ?_; (first | omega | assumption | (exact allU_getD (by assumption) _) | (simp only [cutL]; omega) | (refine And.intro ?_ ?_ <;> first | assumption | exact allU_getD (by assumption) _) | (simp only [cutL, IntKind.wrap_u64, IntKind.wrap_i64] at *; omega) | decide); conv => whnf))

  rfl
end Go.Proofs.YtlcpcgdecodjfaaDoor
