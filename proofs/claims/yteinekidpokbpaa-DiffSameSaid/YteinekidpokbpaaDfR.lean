/- The walks of the laws of diff, as their rows want them. -/
import Derived.Test.YteinekidpokbpaaDfN
import Derived.Test.YteinekidpokbpaaRowN
import Derived.Test.YteinekidpokbpaaFlatR
namespace Go.Proofs.Yteinekidpokbpaa
open Go.RowKit Go.Proofs.Yteinekidpokbpaa.Am
set_option linter.unusedVariables false
set_option linter.unusedSimpArgs false

theorem diffBack_walk (w : World) (a0 : Option Addr) (len0 cap0 : Nat) (raw : List Int) (s0 : SlIn .i64 w a0 len0 cap0 raw) (x0 : ∀ n ∈ raw, (Lit.int .i64 n).wf = true) (a1 : Option Addr) (len1 cap1 : Nat) (other : List Int) (s1 : SlIn .i64 w a1 len1 cap1 other) (x1 : ∀ n ∈ other, (Lit.int .i64 n).wf = true) (many : Int) (h2 : I64 many) (base : Int) (h3 : I64 base) (at_ : Int) (h4 : I64 at_) :
    Calls Try.prog 4 #[.slice a0 len0 cap0, .slice a1 len1 cap1, .int .i64 many, .int .i64 base, .int .i64 at_] w fun e w' => e = .returned (.bool true) ∧ Below w.heap.size w w' :=
  row_ofN (DfT.back_pure len0 len1 raw other many base at_ (fun x hx => i64_of_wf (x0 x hx)) (fun x hx => i64_of_wf (x1 x hx)) h2 h3 h4) w (.cons (tv_slIn s0) (.cons (tv_slIn s1) (.cons (.v rfl) (.cons (.v rfl) (.cons (.v rfl) .nil)))))
theorem diffSame_walk (w : World) (a0 : Option Addr) (len0 cap0 : Nat) (raw : List Int) (s0 : SlIn .i64 w a0 len0 cap0 raw) (x0 : ∀ n ∈ raw, (Lit.int .i64 n).wf = true) (a1 : Option Addr) (len1 cap1 : Nat) (other : List Int) (s1 : SlIn .i64 w a1 len1 cap1 other) (x1 : ∀ n ∈ other, (Lit.int .i64 n).wf = true) (many : Int) (h2 : I64 many) (base : Int) (h3 : I64 base) (turn : Int) (h4 : I64 turn) :
    Calls Try.prog 6 #[.slice a0 len0 cap0, .slice a1 len1 cap1, .int .i64 many, .int .i64 base, .int .i64 turn] w fun e w' => e = .returned (.bool true) ∧ Below w.heap.size w w' :=
  row_ofN (DfT.same05_pure len0 len1 raw other many base turn (fun x hx => i64_of_wf (x0 x hx)) (fun x hx => i64_of_wf (x1 x hx)) h2 h3 h4) w (.cons (tv_slIn s0) (.cons (tv_slIn s1) (.cons (.v rfl) (.cons (.v rfl) (.cons (.v rfl) .nil)))))
theorem flI2 {w : World} {a : Option Addr} {len cap : Nat} {xs : List Int} (h : SlFl [.i64, .i64] w a len cap xs) : AllI xs := by
  intro y hy
  obtain ⟨i, hi, rfl⟩ := List.getElem_of_mem hy
  have := h.2.2 i _ (List.getElem?_eq_getElem hi)
  have hk : kc [.i64, .i64] i = .i64 := by
    unfold kc
    have : i % 2 = 0 ∨ i % 2 = 1 := by omega
    rcases this with h | h <;> simp [h]
  rw [hk] at this
  exact i64_of_wf this
theorem diffThen_walk (w : World) (a0 : Option Addr) (len0 cap0 : Nat) (raw : List Int) (s0 : SlIn .i64 w a0 len0 cap0 raw) (x0 : ∀ n ∈ raw, (Lit.int .i64 n).wf = true) (many : Int) (h1 : I64 many) (base : Int) (h2 : I64 base) (a3 : Option Addr) (len3 cap3 : Nat) (one : List Int) (s3 : SlFl [.i64, .i64] w a3 len3 cap3 one) (a4 : Option Addr) (len4 cap4 : Nat) (two : List Int) (s4 : SlFl [.i64, .i64] w a4 len4 cap4 two) :
    Calls Try.prog 5 #[.slice a0 len0 cap0, .int .i64 many, .int .i64 base, .slice a3 len3 cap3, .slice a4 len4 cap4] w fun e w' => e = .returned (.bool true) ∧ Below w.heap.size w w' :=
  row_ofN (DfT.thenL_pure len0 len3 len4 raw one two many base (fun x hx => i64_of_wf (x0 x hx)) (flI2 s3) (flI2 s4) h1 h2) w (.cons (tv_slIn s0) (.cons (.v rfl) (.cons (.v rfl) (.cons s3.1 (.cons s4.1 .nil)))))
theorem flWf {w : World} {a : Option Addr} {len cap : Nat} {xs : List Int} (h : SlFl [.i64, .u64] w a len cap xs) : DfT.WfW (PrT.recs len 2 xs) := by
  intro r hr
  obtain ⟨i, hi, rfl⟩ := List.getElem_of_mem hr
  rw [PrT.recs_len] at hi
  have hl : xs.length = len * 2 := h.2.1
  have e : (PrT.recs len 2 xs)[i] = PrT.gR (PrT.recs len 2 xs) i := by
    unfold PrT.gR; rw [List.getD_eq_getElem?_getD, List.getElem?_eq_getElem (by rw [PrT.recs_len]; exact hi)]; rfl
  rw [e, PrT.recs_get xs hi]
  have := h.2.2 (i * 2) (xs.getD (i * 2) 0) (by rw [List.getD_eq_getElem?_getD, List.getElem?_eq_getElem (by omega)]; rfl)
  have hk : kc [.i64, .u64] (i * 2) = .i64 := by
    unfold kc
    simp
  rw [hk] at this
  exact i64_of_wf this
theorem diffTells_walk (w : World) (a0 : Option Addr) (len0 cap0 : Nat) (a : List Int) (s0 : SlIn .u64 w a0 len0 cap0 a) (x0 : ∀ n ∈ a, (Lit.int .u64 n).wf = true) (a1 : Option Addr) (len1 cap1 : Nat) (b : List Int) (s1 : SlIn .u64 w a1 len1 cap1 b) (x1 : ∀ n ∈ b, (Lit.int .u64 n).wf = true) (base : Int) (h2 : I64 base)
    (a3 : Option Addr) (len3 cap3 : Nat) (l : List Int) (s3 : SlFl [.i64, .u64] w a3 len3 cap3 l) (a4 : Option Addr) (len4 cap4 : Nat) (raw : List Int) (s4 : SlIn .i64 w a4 len4 cap4 raw) (x4 : ∀ n ∈ raw, (Lit.int .i64 n).wf = true) (a5 : Option Addr) (len5 cap5 : Nat) (other : List Int) (s5 : SlIn .i64 w a5 len5 cap5 other) (x5 : ∀ n ∈ other, (Lit.int .i64 n).wf = true)
    (a6 : Option Addr) (len6 cap6 : Nat) (some_ : List Int) (s6 : SlFl [.i64, .i64] w a6 len6 cap6 some_) :
    Calls Try.prog 3 #[.slice a0 len0 cap0, .slice a1 len1 cap1, .int .i64 base, .slice a3 len3 cap3, .slice a4 len4 cap4, .slice a5 len5 cap5, .slice a6 len6 cap6] w fun e w' => e = .returned (.bool true) ∧ Below w.heap.size w w' :=
  row_ofN (DfT.tells05_pure len0 len1 len3 len4 len5 len6 a b l raw other some_ base h2 (flWf s3) (fun x hx => i64_of_wf (x4 x hx)) (fun x hx => i64_of_wf (x5 x hx)) (flI2 s6)) w (.cons (tv_slIn s0) (.cons (tv_slIn s1) (.cons (.v rfl) (.cons s3.1 (.cons (tv_slIn s4) (.cons (tv_slIn s5) (.cons s6.1 .nil)))))))
end Go.Proofs.Yteinekidpokbpaa
