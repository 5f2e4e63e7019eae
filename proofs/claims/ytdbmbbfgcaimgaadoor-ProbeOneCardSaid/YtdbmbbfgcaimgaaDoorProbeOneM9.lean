/- Texts put together: SliceR, RowU, PrAB. -/
import Derived.Test.YtdbmbbfgcaimgaaDoorProbeOneM8
import Derived.OpenShut
import Derived.WalkKit
import Derived.ProofKit
import Derived.SizedLaws
namespace Go.Proofs.YtdbmbbfgcaimgaaDoor
open Go.ChangeShapes Go.WideShapes Go.ChangeAt Go.RowKit
set_option linter.unusedVariables false
set_option linter.unusedSimpArgs false
theorem laidOut : laidOutB Tryd.prog = true := by kernel_rfl
def IsRow (k : IntKind) (w : World) (a : Option Addr) (len cap : Nat) (zs : List Int) : Prop :=
  (a = none ∧ len = 0 ∧ cap = 0 ∧ zs = []) ∨
  ∃ x, a = some x ∧ len ≤ cap ∧ cap ≤ maxLen ∧ zs.length = cap ∧ (∀ i, i < zs.length → w.cell? (x.add i) = some (.int k (zs.getD i 0))) ∧ ∀ n ∈ zs, (Lit.int k n).wf = true
/-- What the walks ask of a slice that came in. -/
def SlIn (k : IntKind) (w : World) (a : Option Addr) (len cap : Nat) (xs : List Int) : Prop :=
  SlI k w a len xs ∧ len ≤ cap ∧ (cap : Int) ≤ 9223372036854775807 ∧ (cap = 0 ∨ ∃ b off, a = some ⟨b, off, none⟩)
theorem IsRow.slIn {k : IntKind} {w : World} {a : Option Addr} {len cap : Nat} {zs : List Int} (h : IsRow k w a len cap zs) : SlIn k w a len cap (zs.take len) ∧ ∀ n ∈ zs.take len, (Lit.int k n).wf = true := by
  rcases h with ⟨rfl, rfl, rfl, rfl⟩ | ⟨x, rfl, h1, h2, h3, h4, h5⟩
  · exact ⟨⟨⟨rfl, .inl rfl⟩, Nat.le_refl _, by omega, .inl rfl⟩, by simp⟩
  · have hm : (cap : Int) ≤ 9223372036854775807 := by unfold maxLen at h2; omega
    have hl : (zs.take len).length = len := by rw [List.length_take]; omega
    refine ⟨?_, fun n hn => h5 n (List.mem_of_mem_take hn)⟩
    rcases Nat.eq_zero_or_pos cap with hz | hz
    · exact ⟨⟨hl, .inl (by omega)⟩, h1, hm, .inl hz⟩
    · have c0 := h4 0 (by omega)
      obtain ⟨b, off, sp⟩ := x
      have hsp : sp = none := by simpa [Addr.add] using World.cell?_spot c0
      subst hsp
      refine ⟨⟨hl, .inr ⟨b, off, rfl, ?_, fun i hi => ?_⟩⟩, h1, hm, .inr ⟨b, off, rfl⟩⟩
      · rcases Nat.lt_or_ge b w.heap.size with hb | hb
        · exact hb
        · have : (⟨b, off, none⟩ : Addr).add 0 = ⟨b, off, none⟩ := by simp [Addr.add]
          rw [this] at c0
          unfold World.cell? at c0
          rw [Array.getElem?_eq_none hb] at c0
          cases c0
      · have := h4 i (by omega)
        have e : (⟨b, off, none⟩ : Addr).add i = ⟨b, off + i, none⟩ := by
          unfold Addr.add
          by_cases hi0 : i = 0
          · subst hi0; simp
          · rw [if_neg hi0]
        rw [e] at this
        rw [this, List.getD_eq_getElem?_getD, List.getD_eq_getElem?_getD, List.getElem?_take_of_lt hi]
end Go.Proofs.YtdbmbbfgcaimgaaDoor
namespace Go.Proofs.YtdbmbbfgcaimgaaDoor
open Go.RowKit Go.Proofs.YtdbmbbfgcaimgaaDoor.Am
set_option linter.unusedVariables false
set_option linter.unusedSimpArgs false

theorem tv_slIn {k : IntKind} {w : World} {a : Option Addr} {len cap : Nat} {xs : List Int} (h : SlIn k w a len cap xs) : TV w (fun _ => True) noM noL (.fl [k] len xs) (.slice a len cap) := by
  obtain ⟨⟨h1, h2⟩, h3, h4, h5⟩ := h
  rcases Nat.eq_zero_or_pos len with hz | hz
  · subst hz
    obtain rfl := List.eq_nil_of_length_eq_zero h1
    exact .fl0
  · rcases h2 with h2 | ⟨b, off, rfl, hb, hc⟩
    · omega
    · refine .fl trivial hb (by simp) (by simpa using h1) ⟨h3, by omega⟩ hz (fun i x hx => ?_)
      obtain ⟨hi, rfl⟩ := List.getElem?_eq_some_iff.1 hx
      rw [hc i (by omega), List.getD_eq_getElem?_getD, List.getElem?_eq_getElem hi]
      unfold kc; rw [show i % [k].length = 0 from Nat.mod_one i]; rfl
/-- From a walk on the machine to what a row wants. -/
theorem row_ofM {f : FuncId} {args : List T} (h : Pure Tryd.prog glM f args (.v (.bool true))) (w : World) (hg : GlP glM w) {vs : List Value} (hv : TVs w (fun _ => True) noM noL args vs) :
    Calls Tryd.prog f vs.toArray w fun e w' => e = .returned (.bool true) ∧ Below w.heap.size w w' := by
  refine (h w vs hg hv).mono ?_
  rintro e w' ⟨v, m, rfl, hb, hv⟩
  obtain rfl := hv.val rfl
  exact ⟨rfl, hb.fr.below (fun _ h => h)⟩
end Go.Proofs.YtdbmbbfgcaimgaaDoor
namespace Go.Proofs.YtdbmbbfgcaimgaaDoor
open Go.RowKit Go.Proofs.YtdbmbbfgcaimgaaDoor.Am
set_option linter.unusedVariables false
set_option linter.unusedSimpArgs false

theorem probeBack_walk (w : World) (hg : GlP glM w) (slots : Int) (h1 : I64 slots) (width : Int) (h2 : I64 width) (a2 : Option Addr) (len2 cap2 : Nat) (raw : List Int) (s2 : SlIn .i64 w a2 len2 cap2 raw) (x2 : ∀ n ∈ raw, (Lit.int .i64 n).wf = true) (k : Int) (h3 : I64 k) (val : Int) (h4 : U64 val) :
    Calls Tryd.prog 6 #[.int .i64 slots, .int .i64 width, .slice a2 len2 cap2, .int .i64 k, .int .u64 val] w fun e w' => e = .returned (.bool true) ∧ Below w.heap.size w w' :=
  row_ofM (PrT.back07_pure slots width len2 raw k val h1 h2 (fun x hx => i64_of_wf (x2 x hx)) h3 h4) w hg (.cons (.v rfl) (.cons (.v rfl) (.cons (tv_slIn s2) (.cons (.v rfl) (.cons (.v rfl) .nil)))))
theorem probeOne_walk (w : World) (hg : GlP glM w) (slots : Int) (h1 : I64 slots) (width : Int) (h2 : I64 width) (a2 : Option Addr) (len2 cap2 : Nat) (raw : List Int) (s2 : SlIn .i64 w a2 len2 cap2 raw) (x2 : ∀ n ∈ raw, (Lit.int .i64 n).wf = true) (turn : Int) (h3 : I64 turn) (a4 : Option Addr) (len4 cap4 : Nat) (other : List Int) (s4 : SlIn .i64 w a4 len4 cap4 other) (x4 : ∀ n ∈ other, (Lit.int .i64 n).wf = true) :
    Calls Tryd.prog 5 #[.int .i64 slots, .int .i64 width, .slice a2 len2 cap2, .int .i64 turn, .slice a4 len4 cap4] w fun e w' => e = .returned (.bool true) ∧ Below w.heap.size w w' :=
  row_ofM (PrT.one07_pure slots width len2 raw turn len4 other h1 h2 (fun x hx => i64_of_wf (x2 x hx)) h3 (fun x hx => i64_of_wf (x4 x hx))) w hg (.cons (.v rfl) (.cons (.v rfl) (.cons (tv_slIn s2) (.cons (.v rfl) (.cons (tv_slIn s4) .nil)))))
end Go.Proofs.YtdbmbbfgcaimgaaDoor
