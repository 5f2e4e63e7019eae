/- PlainOne's walk, as its row wants it. -/
import Derived.Test.YtlcpcgdecodjfaaDoorPlI
import Derived.Test.YtlcpcgdecodjfaaDoorPlJ
namespace Go.Proofs.YtlcpcgdecodjfaaDoor
open Go.RowKit Go.Proofs.YtlcpcgdecodjfaaDoor.Am
set_option linter.unusedVariables false
set_option linter.unusedSimpArgs false

theorem plainOne_walk (w : World) (ho : Objs w) (room : Int) (hr : I64 room) (a : Option Addr) (len cap : Nat) (xs : List Int) (hs : SlIn .i64 w a len cap xs) (hx : ∀ n ∈ xs, (Lit.int .i64 n).wf = true) (turn : Int) (ht : I64 turn) (a2 : Option Addr) (len2 cap2 : Nat) (ys : List Int) (hs2 : SlIn .i64 w a2 len2 cap2 ys) (hy : ∀ n ∈ ys, (Lit.int .i64 n).wf = true) :
    Calls Tryd.prog 4 #[.int .i64 room, .slice a len cap, .int .i64 turn, .slice a2 len2 cap2] w fun e w' => e = .returned (.bool true) ∧ Below w.heap.size w w' :=
  row_of (one_pure room hr len xs (fun x hxx => i64_of_wf (hx x hxx)) turn ht len2 ys (fun x hxx => i64_of_wf (hy x hxx))) w ho (.cons (.v rfl) (.cons (tv_slIn hs) (.cons (.v rfl) (.cons (tv_slIn hs2) .nil))))
end Go.Proofs.YtlcpcgdecodjfaaDoor
