/- The plain laws' walks, as their rows want them. -/
import Derived.Test.YtlcpcgdecodjfaaDoorPlH
import Derived.Test.YtlcpcgdecodjfaaDoorLaidR
import Derived.Test.YtlcpcgdecodjfaaDoorSliceR
namespace Go.Proofs.YtlcpcgdecodjfaaDoor
open Go.RowKit Go.Proofs.YtlcpcgdecodjfaaDoor.Am
set_option linter.unusedVariables false
set_option linter.unusedSimpArgs false

theorem gl_objs {w : World} (h : Objs w) : GlP glR w := by
  intro g
  unfold glR
  split
  · refine .fp (b := 0) (off := 0) trivial h.1 (by simp) (by decide) (fun i x hx => ?_)
    have hi : i < 12 := (List.getElem?_eq_some_iff.1 hx).1
    obtain ⟨k, hk⟩ : ∃ k, i = k * 2 ∨ i = k * 2 + 1 := ⟨i / 2, by omega⟩
    have hk6 : k < 6 := by omega
    have c := h.2 k hk6
    have : k = 0 ∨ k = 1 ∨ k = 2 ∨ k = 3 ∨ k = 4 ∨ k = 5 := by omega
    rw [Nat.zero_add]
    rcases this with rfl | rfl | rfl | rfl | rfl | rfl <;> rcases hk with rfl | rfl <;> cases hx <;> first | exact c.1 | exact c.2
  · exact .dead
theorem tv_slIn {k : IntKind} {w : World} {a : Option Addr} {len cap : Nat} {xs : List Int} (h : SlIn k w a len cap xs) : TV w (fun _ => True) noM noL (.fl [k] len xs) (.slice a len cap) := by
  obtain ⟨⟨h1, h2⟩, h3, h4, h5⟩ := h
  rcases Nat.eq_zero_or_pos len with hz | hz
  · subst hz
    obtain rfl := List.eq_nil_of_length_eq_zero h1
    exact .fl0
  · rcases h2 with h2 | ⟨b, off, rfl, hb, hc⟩
    · omega
    · refine .fl trivial hb (by simp) (by simpa using h1) ⟨h3, by omega⟩ hz (fun i x hx => ?_)
      obtain ⟨hi, rfl⟩ := List.getElem?_eq_some_iff.1 hx
      rw [hc i (by omega), List.getD_eq_getElem?_getD, List.getElem?_eq_getElem hi]
      unfold kc; rw [show i % [k].length = 0 from Nat.mod_one i]; rfl
/-- From a walk on the machine to what a row wants. -/
theorem row_of {f : FuncId} {args : List T} (h : Pure Tryd.prog glR f args (.v (.bool true))) (w : World) (ho : Objs w) {vs : List Value} (hv : TVs w (fun _ => True) noM noL args vs) :
    Calls Tryd.prog f vs.toArray w fun e w' => e = .returned (.bool true) ∧ Below w.heap.size w w' := by
  refine (h w vs (gl_objs ho) hv).mono ?_
  rintro e w' ⟨v, m, rfl, hb, hv⟩
  obtain rfl := hv.val rfl
  exact ⟨rfl, hb.fr.below (fun _ h => h)⟩
theorem plainWinner_walk (w : World) (ho : Objs w) (room : Int) (hr : I64 room) (a : Option Addr) (len cap : Nat) (xs : List Int) (hs : SlIn .i64 w a len cap xs) (hx : ∀ n ∈ xs, (Lit.int .i64 n).wf = true) :
    Calls Tryd.prog 5 #[.int .i64 room, .slice a len cap] w fun e w' => e = .returned (.bool true) ∧ Below w.heap.size w w' :=
  row_of (winner_pure room hr len xs (fun x hxx => i64_of_wf (hx x hxx))) w ho (.cons (.v rfl) (.cons (tv_slIn hs) .nil))
end Go.Proofs.YtlcpcgdecodjfaaDoor
