/- Texts put together: LaidM, RowT, OrU, MixP, OrX. -/
import Derived.Test.YtlcpcgdecodjfaaDoorOrderWaysM10
import Derived.Test.YtlcpcgdecodjfaaDoorRows
import Derived.ProofKit
import Derived.LaidMore
import Derived.OpenShut
import Derived.Stop.Joined
import Derived.Laws.Bits64
namespace Go.Proofs.YtlcpcgdecodjfaaDoor
open Go.ChangeShapes Go.WideShapes Go.ChangeAt Go.WideMaps Go.WideElems Go.RowKit Go.Proofs.YtlcpcgdecodjfaaDoor.Am
set_option linter.unusedVariables false
set_option linter.unusedSimpArgs false

theorem gObjsM : Tryd.prog.globalNamed "whitewash/region.objects" = some 0 := by kernel_rfl
theorem tObjsM : (Tryd.prog.globals[0]?).map (·.type) = some 131 := by kernel_rfl
theorem gThere : Tryd.prog.globalNamed "whitewash/mix.there" = some 1 := by kernel_rfl
theorem tThere : (Tryd.prog.globals[1]?).map (·.type) = some 149 := by kernel_rfl
abbrev laidM : List (String × DataW Unit) := [("whitewash/mix.there", Rows.laid_whitewash_mix_there), ("whitewash/region.objects", Rows.laid_whitewash_region_objects)]
theorem door_metM (os : Os) (args : Array Value) : laidMetH Tryd.prog laidM ((World.doorLaid Tryd.prog 400 os).forCall (fun _ _ => 0) ⟨#[], args, []⟩).memory :=
  laidMetH_of_parts3 (fuel := 8) (laidMet_of_run' 8 (by kernel_rfl) (by kernel_rfl)) (by kernel_rfl) (by kernel_rfl)
theorem el_cellsO {H : Type} {enc : TypeId × Value → H} {W : World} {sp : Nat → Bool} {held : Bool} {m : Nat} {cs : List Value} {y : DataW H × List MemPlace} {a b : Int} (h : DataW.trod enc Tryd.prog W 0 sp held m 130 cs = some y) (hy : y.1 = .agg [.lit (.int .i64 a), .lit (.int .i64 b)]) : cs[0]? = some (.int .i64 a) ∧ cs[1]? = some (.int .i64 b) := by
  obtain ⟨xs, n, rfl, rfl, hlen, hn, hel⟩ := DataW.trod_struct Tryd.underlying130 h
  have c3 : Tryd.prog.cellsOf 3 = 1 := by kernel_rfl
  have h0 := hel 0 _ rfl
  have h1 := hel 1 _ rfl
  match xs, hn, hy, h0, h1 with
  | [x0, x1], _, hy, h0, h1 =>
    simp only [List.map_cons, List.map_nil, DataW.agg.injEq, List.cons.injEq, and_true] at hy
    obtain ⟨k, e1, e2, _⟩ := DataW.trod_int Tryd.underlying3 (show DataW.trod enc Tryd.prog W 0 sp held n 3 _ = some x0 from h0)
    obtain ⟨k2, e3, e4, _⟩ := DataW.trod_int Tryd.underlying3 (show DataW.trod enc Tryd.prog W 0 sp held n 3 _ = some x1 from h1)
    have hk : k = a := by rw [e2] at hy; simpa using hy.1
    have hk2 : k2 = b := by rw [e4] at hy; simpa using hy.2
    subst hk hk2
    try simp only [c3] at e1 e3
    constructor
    · have := congrArg (fun l : List Value => l[0]?) e1
      simp [List.getElem?_take, List.getElem?_drop] at this
      exact this.2
    · have := congrArg (fun l : List Value => l[0]?) e3
      simp [List.getElem?_take, List.getElem?_drop] at this
      exact this.2
theorem el_cellsM {H : Type} {enc : TypeId × Value → H} {W : World} {sp : Nat → Bool} {held : Bool} {m : Nat} {cs : List Value} {y : DataW H × List MemPlace} {a b : Int} (h : DataW.trod enc Tryd.prog W 0 sp held m 148 cs = some y) (hy : y.1 = .agg [.lit (.int .u64 a), .lit (.int .u64 b)]) : cs[0]? = some (.int .u64 a) ∧ cs[1]? = some (.int .u64 b) := by
  obtain ⟨xs, n, rfl, rfl, hlen, hn, hel⟩ := DataW.trod_struct Tryd.underlying148 h
  have c3 : Tryd.prog.cellsOf 27 = 1 := by kernel_rfl
  have c4 : Tryd.prog.cellsOf 146 = 1 := by kernel_rfl
  have h0 := hel 0 _ rfl
  have h1 := hel 1 _ rfl
  match xs, hn, hy, h0, h1 with
  | [x0, x1], _, hy, h0, h1 =>
    simp only [List.map_cons, List.map_nil, DataW.agg.injEq, List.cons.injEq, and_true] at hy
    obtain ⟨k, e1, e2, _⟩ := DataW.trod_int Tryd.underlying146 (show DataW.trod enc Tryd.prog W 0 sp held n 146 _ = some x0 from h0)
    obtain ⟨k2, e3, e4, _⟩ := DataW.trod_int Tryd.underlying27 (show DataW.trod enc Tryd.prog W 0 sp held n 27 _ = some x1 from h1)
    have hk : k = a := by rw [e2] at hy; simpa using hy.1
    have hk2 : k2 = b := by rw [e4] at hy; simpa using hy.2
    subst hk hk2
    try simp only [c3, c4] at e1 e3
    constructor
    · have := congrArg (fun l : List Value => l[0]?) e1
      simp [List.getElem?_take, List.getElem?_drop] at this
      exact this.2
    · have := congrArg (fun l : List Value => l[0]?) e3
      simp [List.getElem?_take, List.getElem?_drop] at this
      exact this.2
theorem arr_O {W : World} {g0 t0 f0 : Nat} {cs0 : Array Value} {p0 : List MemPlace} (hg0 : Tryd.prog.globalNamed "whitewash/region.objects" = some g0) (ht0 : Option.map (fun x => x.type) Tryd.prog.globals[g0]? = some t0) (hv0 : World.var? Tryd.prog W "whitewash/region.objects" = some cs0)
    (hd0 : DataW.trod (fun x => ()) Tryd.prog W 0 (fun x => true) false f0 t0 cs0.toList = some (Rows.laid_whitewash_region_objects, p0)) : ∀ (i : Nat) (a b : Int), i < 6 → (match (Rows.laid_whitewash_region_objects : DataW Unit) with | .agg l => l[i]? | _ => none) = some (.agg [.lit (.int .i64 a), .lit (.int .i64 b)]) → W.cell? ⟨0, i * 2, none⟩ = some (.int .i64 a) ∧ W.cell? ⟨0, i * 2 + 1, none⟩ = some (.int .i64 b) := by
  obtain rfl := Option.some.inj ((show Tryd.prog.globalNamed "whitewash/region.objects" = some 0 by kernel_rfl).symm.trans hg0)
  obtain rfl := Option.some.inj ((show (Tryd.prog.globals[0]?).map (·.type) = some 131 by kernel_rfl).symm.trans ht0)
  obtain ⟨xs, m1, rfl, hx1, hlen, hn6, hel⟩ := DataW.trod_array Tryd.underlying131 hd0
  have cE : Tryd.prog.cellsOf 130 = 2 := by kernel_rfl
  simp only [Prod.mk.injEq] at hx1
  have hx := hx1.1
  intro i a b hi hxi
  rw [hx] at hxi
  replace hxi : (xs.map (·.1))[i]? = some (.agg [.lit (.int .i64 a), .lit (.int .i64 b)]) := hxi
  have hE := hel i hi
  rw [cE] at hE
  rw [List.getElem?_map] at hxi
  cases hy : xs[i]? with
  | none => simp [hy] at hxi
  | some y =>
    rw [hy] at hE hxi
    obtain ⟨g0, g1⟩ := el_cellsO hE (by simpa using hxi)
    rw [List.getElem?_take_of_lt (by omega), List.getElem?_drop] at g0 g1
    rw [World.var?_cell hg0 hv0, World.var?_cell hg0 hv0]
    rw [Array.getElem?_toList] at g0 g1
    exact ⟨g0, g1⟩
theorem arr_M {W : World} {g0 t0 f0 : Nat} {cs0 : Array Value} {p0 : List MemPlace} (hg0 : Tryd.prog.globalNamed "whitewash/mix.there" = some g0) (ht0 : Option.map (fun x => x.type) Tryd.prog.globals[g0]? = some t0) (hv0 : World.var? Tryd.prog W "whitewash/mix.there" = some cs0)
    (hd0 : DataW.trod (fun x => ()) Tryd.prog W 0 (fun x => true) false f0 t0 cs0.toList = some (Rows.laid_whitewash_mix_there, p0)) : ∀ (i : Nat) (a b : Int), i < 3 → (match (Rows.laid_whitewash_mix_there : DataW Unit) with | .agg l => l[i]? | _ => none) = some (.agg [.lit (.int .u64 a), .lit (.int .u64 b)]) → W.cell? ⟨1, i * 2, none⟩ = some (.int .u64 a) ∧ W.cell? ⟨1, i * 2 + 1, none⟩ = some (.int .u64 b) := by
  obtain rfl := Option.some.inj ((show Tryd.prog.globalNamed "whitewash/mix.there" = some 1 by kernel_rfl).symm.trans hg0)
  obtain rfl := Option.some.inj ((show (Tryd.prog.globals[1]?).map (·.type) = some 149 by kernel_rfl).symm.trans ht0)
  obtain ⟨xs, m1, rfl, hx1, hlen, hn6, hel⟩ := DataW.trod_array Tryd.underlying149 hd0
  have cE : Tryd.prog.cellsOf 148 = 2 := by kernel_rfl
  simp only [Prod.mk.injEq] at hx1
  have hx := hx1.1
  intro i a b hi hxi
  rw [hx] at hxi
  replace hxi : (xs.map (·.1))[i]? = some (.agg [.lit (.int .u64 a), .lit (.int .u64 b)]) := hxi
  have hE := hel i hi
  rw [cE] at hE
  rw [List.getElem?_map] at hxi
  cases hy : xs[i]? with
  | none => simp [hy] at hxi
  | some y =>
    rw [hy] at hE hxi
    obtain ⟨g0, g1⟩ := el_cellsM hE (by simpa using hxi)
    rw [List.getElem?_take_of_lt (by omega), List.getElem?_drop] at g0 g1
    rw [World.var?_cell hg0 hv0, World.var?_cell hg0 hv0]
    rw [Array.getElem?_toList] at g0 g1
    exact ⟨g0, g1⟩
theorem blk_pos {W : World} {b o : Nat} {v : Value} (h : W.cell? ⟨b, o, none⟩ = some v) : b < W.heap.size := by
  unfold World.cell? at h
  rcases Nat.lt_or_ge b W.heap.size with hz | hz
  · exact hz
  · rw [Array.getElem?_eq_none (by exact hz)] at h; cases h
theorem gl_laid {W : World} (h : laidMetH Tryd.prog laidM W) : GlP glM W := by
  rw [MakeChecks.laidMetH_plain _ _ _ (by kernel_rfl)] at h
  obtain ⟨ps, ⟨g0, t0, cs0, f0, p0, q0, hg0, ht0, hv0, hd0, ⟨g1, t1, cs1, f1, p1, q1, hg1, ht1, hv1, hd1, -⟩, -⟩, -⟩ := h
  have kM := arr_M hg0 ht0 hv0 hd0
  have kO := arr_O hg1 ht1 hv1 hd1
  intro g
  unfold glM
  split
  · refine .fp (b := 0) (off := 0) trivial (blk_pos (kO 0 0 0 (by omega) rfl).1) (by simp) (by decide) (fun i x hx => ?_)
    have hi : i < 12 := (List.getElem?_eq_some_iff.1 hx).1
    obtain ⟨k, hk⟩ : ∃ k, i = k * 2 ∨ i = k * 2 + 1 := ⟨i / 2, by omega⟩
    have : k = 0 ∨ k = 1 ∨ k = 2 ∨ k = 3 ∨ k = 4 ∨ k = 5 := by omega
    rw [Nat.zero_add]
    rcases this with rfl | rfl | rfl | rfl | rfl | rfl <;> rcases hk with rfl | rfl <;> cases hx <;> first | exact (kO _ _ _ (by omega) rfl).1 | exact (kO _ _ _ (by omega) rfl).2
  · refine .fp (b := 1) (off := 0) trivial (blk_pos (kM 0 _ _ (by omega) rfl).1) (by simp) (by decide) (fun i x hx => ?_)
    have hi : i < 6 := (List.getElem?_eq_some_iff.1 hx).1
    obtain ⟨k, hk⟩ : ∃ k, i = k * 2 ∨ i = k * 2 + 1 := ⟨i / 2, by omega⟩
    have : k = 0 ∨ k = 1 ∨ k = 2 := by omega
    rw [Nat.zero_add]
    rcases this with rfl | rfl | rfl <;> rcases hk with rfl | rfl <;> cases hx <;> first | exact (kM _ _ _ (by omega) rfl).1 | exact (kM _ _ _ (by omega) rfl).2
  · exact .dead
end Go.Proofs.YtlcpcgdecodjfaaDoor
namespace Go.Proofs.YtlcpcgdecodjfaaDoor
open Go.RowKit Go.Proofs.YtlcpcgdecodjfaaDoor.Am
set_option linter.unusedVariables false
set_option linter.unusedSimpArgs false

theorem tv_slIn {k : IntKind} {w : World} {a : Option Addr} {len cap : Nat} {xs : List Int} (h : SlIn k w a len cap xs) : TV w (fun _ => True) noM noL (.fl [k] len xs) (.slice a len cap) := by
  obtain ⟨⟨h1, h2⟩, h3, h4, h5⟩ := h
  rcases Nat.eq_zero_or_pos len with hz | hz
  · subst hz
    obtain rfl := List.eq_nil_of_length_eq_zero h1
    exact .fl0
  · rcases h2 with h2 | ⟨b, off, rfl, hb, hc⟩
    · omega
    · refine .fl trivial hb (by simp) (by simpa using h1) ⟨h3, by omega⟩ hz (fun i x hx => ?_)
      obtain ⟨hi, rfl⟩ := List.getElem?_eq_some_iff.1 hx
      rw [hc i (by omega), List.getD_eq_getElem?_getD, List.getElem?_eq_getElem hi]
      unfold kc; rw [show i % [k].length = 0 from Nat.mod_one i]; rfl
/-- From a walk on the machine to what a row wants. -/
theorem row_ofM {f : FuncId} {args : List T} (h : Pure Tryd.prog glM f args (.v (.bool true))) (w : World) (hg : GlP glM w) {vs : List Value} (hv : TVs w (fun _ => True) noM noL args vs) :
    Calls Tryd.prog f vs.toArray w fun e w' => e = .returned (.bool true) ∧ Below w.heap.size w w' := by
  refine (h w vs hg hv).mono ?_
  rintro e w' ⟨v, m, rfl, hb, hv⟩
  obtain rfl := hv.val rfl
  exact ⟨rfl, hb.fr.below (fun _ h => h)⟩
end Go.Proofs.YtlcpcgdecodjfaaDoor
namespace Go.Proofs.YtlcpcgdecodjfaaDoor
open Go.RowKit Go.Proofs.YtlcpcgdecodjfaaDoor.Am
set_option linter.unusedVariables false
set_option linter.unusedSimpArgs false

theorem rank_word {a : Int} (ha : U64 a) (hb : bWordOk a = true) : iRank (iWord a) = a := by
  unfold bWordOk at hb
  have h2 : Flt.rank (Flt.back a.toNat) = a.toNat := by
    unfold Flt.wordOk at hb
    exact (of_decide_eq_true hb).2
  unfold iRank iWord Flt.word
  rw [if_pos hb, Int.toNat_natCast, h2]
  have := ha.1; omega
theorem flI3 {w : World} {a : Option Addr} {len cap : Nat} {st : List Int} (s : SlFl [.i64, .i64, .i64] w a len cap st) : AllI st := by
  intro y hy
  obtain ⟨i, hi, rfl⟩ := List.getElem_of_mem hy
  have := s.2.2 i _ (List.getElem?_eq_getElem hi)
  have hk : kc [.i64, .i64, .i64] i = .i64 := by
    unfold kc
    have : i % 3 = 0 ∨ i % 3 = 1 ∨ i % 3 = 2 := by omega
    rcases this with h | h | h <;> simp [h]
  rw [hk] at this
  exact i64_of_wf this
theorem eRRk_ok : (eRRk iRank).ok Tryd.prog glR := eRRank_ok
theorem eLsF_ok : (eLsF bLess).ok Tryd.prog glM := entry_lift eLess_ok
theorem ordF : OrdF bBefore iWord bWordOk iRank bLess where
  H := ordH
  K := awk13
  less := eLsF_ok
  enc := eEnc4_ok (eRTree_ok (eRBuildB_ok bBefore_wt eRBf_ok) eRRk_ok)
  wt := ⟨iMix, bBefore_wt⟩
  lsr := fun a b => rfl
  rwf := fun a ha hb => ⟨rank_word ha hb, u64_word ha⟩
  ord := fun h hn => ⟨h.ord hn, rises_rkL h hn⟩
theorem orderNext_walk (w : World) (hg : GlP glM w) (room : Int) (hr : I64 room) (a2 : Option Addr) (len2 cap2 : Nat) (st : List Int) (s2 : SlFl [.i64, .i64, .i64] w a2 len2 cap2 st) (k : Int) (hk : I64 k) (val : Int) (hv : U64 val) :
    Calls Tryd.prog 8 #[.int .i64 room, .slice a2 len2 cap2, .int .i64 k, .int .u64 val] w fun e w' => e = .returned (.bool true) ∧ Below w.heap.size w w' :=
  row_ofM (orderNext_pure ordF room k val len2 st hr (flI3 s2) hk hv) w hg (.cons (.v rfl) (.cons s2.1 (.cons (.v rfl) (.cons (.v rfl) .nil))))
end Go.Proofs.YtlcpcgdecodjfaaDoor
namespace Go.Proofs.YtlcpcgdecodjfaaDoor
open Go.RowKit Go.Proofs.YtlcpcgdecodjfaaDoor.Am
set_option linter.unusedVariables false
set_option linter.unusedSimpArgs false

theorem fold_inj {X Y s : Nat} (hX : X < 18446744073709551616) (hY : Y < 18446744073709551616) (hs : 0 < s) (h : X ^^^ X / 2 ^ s = Y ^^^ Y / 2 ^ s) : X = Y := by
  have hb : ∀ (k i : Nat), 64 ≤ i + k → X.testBit i = Y.testBit i := by
    intro k
    induction k using Nat.strongRecOn with
    | _ k ih =>
      intro i hi
      by_cases h64 : 64 ≤ i
      · rw [Nat.testBit_lt_two_pow (Nat.lt_of_lt_of_le hX (by rw [show (18446744073709551616 : Nat) = 2 ^ 64 by rfl]; exact Nat.pow_le_pow_right (by decide) h64)), Nat.testBit_lt_two_pow (Nat.lt_of_lt_of_le hY (by rw [show (18446744073709551616 : Nat) = 2 ^ 64 by rfl]; exact Nat.pow_le_pow_right (by decide) h64))]
      · have h2 := ih (k - 1) (by omega) (i + s) (by omega)
        have h3 := congrArg (fun n => Nat.testBit n i) h
        simp only [Nat.testBit_xor, ← Nat.shiftRight_eq_div_pow, Nat.testBit_shiftRight] at h3
        rw [Nat.add_comm s i, h2] at h3
        revert h3
        cases X.testBit i <;> cases Y.testBit i <;> cases Y.testBit (i + s) <;> simp
  exact Nat.eq_of_testBit_eq fun i => hb 64 i (by omega)
theorem times_inj {X Y C D : Nat} (hX : X < 18446744073709551616) (hY : Y < 18446744073709551616) (hCD : C * D % 18446744073709551616 = 1) (h : X * C % 18446744073709551616 = Y * C % 18446744073709551616) : X = Y := by
  have key : ∀ Z, Z < 18446744073709551616 → (Z * C % 18446744073709551616) * D % 18446744073709551616 = Z := by
    intro Z hZ
    rw [Nat.mod_mul_mod, Nat.mul_assoc, Nat.mul_mod, hCD, Nat.mul_one, Nat.mod_mod, Nat.mod_eq_of_lt hZ]
  rw [← key X hX, ← key Y hY, h]
theorem mixF_nat {X : Nat} (s : Nat) (hs : s ≤ 64) (hX : X < 18446744073709551616) : mixF (X : Int) (s : Int) = ((X ^^^ X / 2 ^ s : Nat) : Int) := by
  unfold mixF
  rw [Int.toNat_natCast, Nat.min_eq_left (show s ≤ IntKind.u64.bits from hs), Int.fdiv_eq_ediv_of_nonneg _ (by exact_mod_cast Nat.zero_le _)]
  have := xorShift_u64 X (2 ^ s) hX
  rw [← this]; congr 2
theorem xor_lt {X : Nat} (s : Nat) (hX : X < 18446744073709551616) : X ^^^ X / 2 ^ s < 18446744073709551616 :=
  Nat.xor_lt_two_pow (n := 64) hX (Nat.lt_of_le_of_lt (Nat.div_le_self _ _) hX)
theorem mixR_nat {X : Nat} (s C : Nat) (hs : s ≤ 64) (hX : X < 18446744073709551616) : mixR (X : Int) (s : Int) (C : Int) = (((X ^^^ X / 2 ^ s) * C % 18446744073709551616 : Nat) : Int) := by
  unfold mixR
  rw [mixF_nat s hs hX, IntKind.wrap_u64, Int.natCast_emod, Int.natCast_mul]; rfl
theorem iMix_inj {a b : Int} (ha : U64 a) (hb : U64 b) (h : iMix a = iMix b) : a = b := by
  obtain ⟨X, rfl⟩ := Int.eq_ofNat_of_zero_le ha.1
  obtain ⟨Y, rfl⟩ := Int.eq_ofNat_of_zero_le hb.1
  have hX : X < 18446744073709551616 := by have := ha.2; omega
  have hY : Y < 18446744073709551616 := by have := hb.2; omega
  rw [← rMix_i, ← rMix_i] at h
  unfold rMix at h
  have m1 : ∀ Z : Nat, Z < 18446744073709551616 → mixR (Z : Int) 30 13787848793156543929 = (((Z ^^^ Z / 2 ^ 30) * 13787848793156543929 % 18446744073709551616 : Nat) : Int) := fun Z hZ => mixR_nat 30 13787848793156543929 (by omega) hZ
  have m2 : ∀ Z : Nat, Z < 18446744073709551616 → mixR (Z : Int) 27 10723151780598845931 = (((Z ^^^ Z / 2 ^ 27) * 10723151780598845931 % 18446744073709551616 : Nat) : Int) := fun Z hZ => mixR_nat 27 10723151780598845931 (by omega) hZ
  have m3 : ∀ Z : Nat, Z < 18446744073709551616 → mixF (Z : Int) 31 = ((Z ^^^ Z / 2 ^ 31 : Nat) : Int) := fun Z hZ => mixF_nat 31 (by omega) hZ
  have lt : ∀ A : Nat, A % 18446744073709551616 < 18446744073709551616 := fun A => Nat.mod_lt _ (by decide)
  rw [m1 X hX, m1 Y hY, m2 _ (lt _), m2 _ (lt _), m3 _ (lt _), m3 _ (lt _)] at h
  have h1 := fold_inj (lt _) (lt _) (by decide) (Int.ofNat.inj h)
  have h2 := times_inj (D := 3573116690164977347) (xor_lt 27 (lt _)) (xor_lt 27 (lt _)) (by decide +kernel) h1
  have h3 := fold_inj (lt _) (lt _) (by decide) h2
  have h4 := times_inj (D := 10871156337175269513) (xor_lt 30 hX) (xor_lt 30 hY) (by decide +kernel) h3
  rw [fold_inj hX hY (by decide) h4]
end Go.Proofs.YtlcpcgdecodjfaaDoor
namespace Go.Proofs.YtlcpcgdecodjfaaDoor
open Go.RowKit Go.Proofs.YtlcpcgdecodjfaaDoor.Am
set_option linter.unusedVariables false
set_option linter.unusedSimpArgs false

theorem eCnF_ok : (eCnF iCanon).ok Tryd.prog glM := entry_lift eCanon_ok
theorem ordG : OrdG bBefore iWord bWordOk iRank bLess iCanon iMix where
  F := ordF
  canon := eCnF_ok
  hwt := bBefore_wt
  winj := fun a b ha hb h => iMix_inj ha hb h
  cnr := fun key r hk hr hb => ⟨fun h => by rw [← rank_word hr hb, h, p_rank_canon], fun h => by rw [h]; exact p_word hk⟩
theorem orderWays_walk (w : World) (hg : GlP glM w) (room : Int) (hr : I64 room) (a2 : Option Addr) (len2 cap2 : Nat) (st : List Int) (s2 : SlFl [.i64, .i64, .i64] w a2 len2 cap2 st) (k : Int) (hk : I64 k) (any : Int) (hv : U64 any) :
    Calls Tryd.prog 7 #[.int .i64 room, .slice a2 len2 cap2, .int .i64 k, .int .u64 any] w fun e w' => e = .returned (.bool true) ∧ Below w.heap.size w w' :=
  row_ofM (orderWays_pure ordG room k any len2 st hr (flI3 s2) hk hv) w hg (.cons (.v rfl) (.cons s2.1 (.cons (.v rfl) (.cons (.v rfl) .nil))))
end Go.Proofs.YtlcpcgdecodjfaaDoor
