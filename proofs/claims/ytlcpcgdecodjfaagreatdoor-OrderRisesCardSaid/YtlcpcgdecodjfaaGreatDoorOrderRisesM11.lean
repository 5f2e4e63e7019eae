/- Texts put together: LaidM, RowT, OrU, MixP, OrX, OrY, OrZ. -/
import Derived.Test.YtlcpcgdecodjfaaGreatDoorOrderRisesM10
import Derived.Test.YtlcpcgdecodjfaaGreatDoorRows
import Derived.ProofKit
import Derived.LaidMore
import Derived.OpenShut
import Derived.Stop.Joined
import Derived.Laws.Bits64
namespace Go.Proofs.YtlcpcgdecodjfaaGreatDoor
open Go.ChangeShapes Go.WideShapes Go.ChangeAt Go.WideMaps Go.WideElems Go.RowKit Go.Proofs.YtlcpcgdecodjfaaGreatDoor.Am
set_option linter.unusedVariables false
set_option linter.unusedSimpArgs false

theorem gObjsM : Tryz.prog.globalNamed "whitewash/region.objects" = some 1 := by kernel_rfl
theorem tObjsM : (Tryz.prog.globals[1]?).map (·.type) = some 131 := by kernel_rfl
theorem gThere : Tryz.prog.globalNamed "whitewash/mix.there" = some 2 := by kernel_rfl
theorem tThere : (Tryz.prog.globals[2]?).map (·.type) = some 147 := by kernel_rfl
abbrev laidM : List (String × DataW Unit) := [("whitewash/mix.there", Rows.laid_whitewash_mix_there), ("whitewash/region.objects", Rows.laid_whitewash_region_objects)]
theorem door_metM (os : Os) (args : Array Value) : laidMetH Tryz.prog laidM ((World.doorLaid Tryz.prog 400 os).forCall (fun _ _ => 0) ⟨#[], args, []⟩).memory :=
  laidMetH_of_parts3 (fuel := 8) (laidMet_of_run' 8 (by kernel_rfl) (by kernel_rfl)) (by kernel_rfl) (by kernel_rfl)
theorem el_cellsO {H : Type} {enc : TypeId × Value → H} {W : World} {sp : Nat → Bool} {held : Bool} {m : Nat} {cs : List Value} {y : DataW H × List MemPlace} {a b : Int} (h : DataW.trod enc Tryz.prog W 0 sp held m 130 cs = some y) (hy : y.1 = .agg [.lit (.int .i64 a), .lit (.int .i64 b)]) : cs[0]? = some (.int .i64 a) ∧ cs[1]? = some (.int .i64 b) := by
  obtain ⟨xs, n, rfl, rfl, hlen, hn, hel⟩ := DataW.trod_struct Tryz.underlying130 h
  have c3 : Tryz.prog.cellsOf 3 = 1 := by kernel_rfl
  have h0 := hel 0 _ rfl
  have h1 := hel 1 _ rfl
  match xs, hn, hy, h0, h1 with
  | [x0, x1], _, hy, h0, h1 =>
    simp only [List.map_cons, List.map_nil, DataW.agg.injEq, List.cons.injEq, and_true] at hy
    obtain ⟨k, e1, e2, _⟩ := DataW.trod_int Tryz.underlying3 (show DataW.trod enc Tryz.prog W 0 sp held n 3 _ = some x0 from h0)
    obtain ⟨k2, e3, e4, _⟩ := DataW.trod_int Tryz.underlying3 (show DataW.trod enc Tryz.prog W 0 sp held n 3 _ = some x1 from h1)
    have hk : k = a := by rw [e2] at hy; simpa using hy.1
    have hk2 : k2 = b := by rw [e4] at hy; simpa using hy.2
    subst hk hk2
    try simp only [c3] at e1 e3
    constructor
    · have := congrArg (fun l : List Value => l[0]?) e1
      simp [List.getElem?_take, List.getElem?_drop] at this
      exact this.2
    · have := congrArg (fun l : List Value => l[0]?) e3
      simp [List.getElem?_take, List.getElem?_drop] at this
      exact this.2
theorem el_cellsM {H : Type} {enc : TypeId × Value → H} {W : World} {sp : Nat → Bool} {held : Bool} {m : Nat} {cs : List Value} {y : DataW H × List MemPlace} {a b : Int} (h : DataW.trod enc Tryz.prog W 0 sp held m 146 cs = some y) (hy : y.1 = .agg [.lit (.int .u64 a), .lit (.int .u64 b)]) : cs[0]? = some (.int .u64 a) ∧ cs[1]? = some (.int .u64 b) := by
  obtain ⟨xs, n, rfl, rfl, hlen, hn, hel⟩ := DataW.trod_struct Tryz.underlying146 h
  have c3 : Tryz.prog.cellsOf 28 = 1 := by kernel_rfl
  have c4 : Tryz.prog.cellsOf 114 = 1 := by kernel_rfl
  have h0 := hel 0 _ rfl
  have h1 := hel 1 _ rfl
  match xs, hn, hy, h0, h1 with
  | [x0, x1], _, hy, h0, h1 =>
    simp only [List.map_cons, List.map_nil, DataW.agg.injEq, List.cons.injEq, and_true] at hy
    obtain ⟨k, e1, e2, _⟩ := DataW.trod_int Tryz.underlying114 (show DataW.trod enc Tryz.prog W 0 sp held n 114 _ = some x0 from h0)
    obtain ⟨k2, e3, e4, _⟩ := DataW.trod_int Tryz.underlying28 (show DataW.trod enc Tryz.prog W 0 sp held n 28 _ = some x1 from h1)
    have hk : k = a := by rw [e2] at hy; simpa using hy.1
    have hk2 : k2 = b := by rw [e4] at hy; simpa using hy.2
    subst hk hk2
    try simp only [c3, c4] at e1 e3
    constructor
    · have := congrArg (fun l : List Value => l[0]?) e1
      simp [List.getElem?_take, List.getElem?_drop] at this
      exact this.2
    · have := congrArg (fun l : List Value => l[0]?) e3
      simp [List.getElem?_take, List.getElem?_drop] at this
      exact this.2
theorem arr_O {W : World} {g0 t0 f0 : Nat} {cs0 : Array Value} {p0 : List MemPlace} (hg0 : Tryz.prog.globalNamed "whitewash/region.objects" = some g0) (ht0 : Option.map (fun x => x.type) Tryz.prog.globals[g0]? = some t0) (hv0 : World.var? Tryz.prog W "whitewash/region.objects" = some cs0)
    (hd0 : DataW.trod (fun x => ()) Tryz.prog W 0 (fun x => true) false f0 t0 cs0.toList = some (Rows.laid_whitewash_region_objects, p0)) : ∀ (i : Nat) (a b : Int), i < 6 → (match (Rows.laid_whitewash_region_objects : DataW Unit) with | .agg l => l[i]? | _ => none) = some (.agg [.lit (.int .i64 a), .lit (.int .i64 b)]) → W.cell? ⟨1, i * 2, none⟩ = some (.int .i64 a) ∧ W.cell? ⟨1, i * 2 + 1, none⟩ = some (.int .i64 b) := by
  obtain rfl := Option.some.inj ((show Tryz.prog.globalNamed "whitewash/region.objects" = some 1 by kernel_rfl).symm.trans hg0)
  obtain rfl := Option.some.inj ((show (Tryz.prog.globals[1]?).map (·.type) = some 131 by kernel_rfl).symm.trans ht0)
  obtain ⟨xs, m1, rfl, hx1, hlen, hn6, hel⟩ := DataW.trod_array Tryz.underlying131 hd0
  have cE : Tryz.prog.cellsOf 130 = 2 := by kernel_rfl
  simp only [Prod.mk.injEq] at hx1
  have hx := hx1.1
  intro i a b hi hxi
  rw [hx] at hxi
  replace hxi : (xs.map (·.1))[i]? = some (.agg [.lit (.int .i64 a), .lit (.int .i64 b)]) := hxi
  have hE := hel i hi
  rw [cE] at hE
  rw [List.getElem?_map] at hxi
  cases hy : xs[i]? with
  | none => simp [hy] at hxi
  | some y =>
    rw [hy] at hE hxi
    obtain ⟨g0, g1⟩ := el_cellsO hE (by simpa using hxi)
    rw [List.getElem?_take_of_lt (by omega), List.getElem?_drop] at g0 g1
    rw [World.var?_cell hg0 hv0, World.var?_cell hg0 hv0]
    rw [Array.getElem?_toList] at g0 g1
    exact ⟨g0, g1⟩
theorem arr_M {W : World} {g0 t0 f0 : Nat} {cs0 : Array Value} {p0 : List MemPlace} (hg0 : Tryz.prog.globalNamed "whitewash/mix.there" = some g0) (ht0 : Option.map (fun x => x.type) Tryz.prog.globals[g0]? = some t0) (hv0 : World.var? Tryz.prog W "whitewash/mix.there" = some cs0)
    (hd0 : DataW.trod (fun x => ()) Tryz.prog W 0 (fun x => true) false f0 t0 cs0.toList = some (Rows.laid_whitewash_mix_there, p0)) : ∀ (i : Nat) (a b : Int), i < 3 → (match (Rows.laid_whitewash_mix_there : DataW Unit) with | .agg l => l[i]? | _ => none) = some (.agg [.lit (.int .u64 a), .lit (.int .u64 b)]) → W.cell? ⟨2, i * 2, none⟩ = some (.int .u64 a) ∧ W.cell? ⟨2, i * 2 + 1, none⟩ = some (.int .u64 b) := by
  obtain rfl := Option.some.inj ((show Tryz.prog.globalNamed "whitewash/mix.there" = some 2 by kernel_rfl).symm.trans hg0)
  obtain rfl := Option.some.inj ((show (Tryz.prog.globals[2]?).map (·.type) = some 147 by kernel_rfl).symm.trans ht0)
  obtain ⟨xs, m1, rfl, hx1, hlen, hn6, hel⟩ := DataW.trod_array Tryz.underlying147 hd0
  have cE : Tryz.prog.cellsOf 146 = 2 := by kernel_rfl
  simp only [Prod.mk.injEq] at hx1
  have hx := hx1.1
  intro i a b hi hxi
  rw [hx] at hxi
  replace hxi : (xs.map (·.1))[i]? = some (.agg [.lit (.int .u64 a), .lit (.int .u64 b)]) := hxi
  have hE := hel i hi
  rw [cE] at hE
  rw [List.getElem?_map] at hxi
  cases hy : xs[i]? with
  | none => simp [hy] at hxi
  | some y =>
    rw [hy] at hE hxi
    obtain ⟨g0, g1⟩ := el_cellsM hE (by simpa using hxi)
    rw [List.getElem?_take_of_lt (by omega), List.getElem?_drop] at g0 g1
    rw [World.var?_cell hg0 hv0, World.var?_cell hg0 hv0]
    rw [Array.getElem?_toList] at g0 g1
    exact ⟨g0, g1⟩
theorem blk_pos {W : World} {b o : Nat} {v : Value} (h : W.cell? ⟨b, o, none⟩ = some v) : b < W.heap.size := by
  unfold World.cell? at h
  rcases Nat.lt_or_ge b W.heap.size with hz | hz
  · exact hz
  · rw [Array.getElem?_eq_none (by exact hz)] at h; cases h
theorem gl_laid {W : World} (h : laidMetH Tryz.prog laidM W) : GlP glM W := by
  rw [MakeChecks.laidMetH_plain _ _ _ (by kernel_rfl)] at h
  obtain ⟨ps, ⟨g0, t0, cs0, f0, p0, q0, hg0, ht0, hv0, hd0, ⟨g1, t1, cs1, f1, p1, q1, hg1, ht1, hv1, hd1, -⟩, -⟩, -⟩ := h
  have kM := arr_M hg0 ht0 hv0 hd0
  have kO := arr_O hg1 ht1 hv1 hd1
  intro g
  unfold glM
  split
  · refine .fp (b := 1) (off := 0) trivial (blk_pos (kO 0 0 0 (by omega) rfl).1) (by simp) (by decide) (fun i x hx => ?_)
    have hi : i < 12 := (List.getElem?_eq_some_iff.1 hx).1
    obtain ⟨k, hk⟩ : ∃ k, i = k * 2 ∨ i = k * 2 + 1 := ⟨i / 2, by omega⟩
    have : k = 0 ∨ k = 1 ∨ k = 2 ∨ k = 3 ∨ k = 4 ∨ k = 5 := by omega
    rw [Nat.zero_add]
    rcases this with rfl | rfl | rfl | rfl | rfl | rfl <;> rcases hk with rfl | rfl <;> cases hx <;> first | exact (kO _ _ _ (by omega) rfl).1 | exact (kO _ _ _ (by omega) rfl).2
  · refine .fp (b := 2) (off := 0) trivial (blk_pos (kM 0 _ _ (by omega) rfl).1) (by simp) (by decide) (fun i x hx => ?_)
    have hi : i < 6 := (List.getElem?_eq_some_iff.1 hx).1
    obtain ⟨k, hk⟩ : ∃ k, i = k * 2 ∨ i = k * 2 + 1 := ⟨i / 2, by omega⟩
    have : k = 0 ∨ k = 1 ∨ k = 2 := by omega
    rw [Nat.zero_add]
    rcases this with rfl | rfl | rfl <;> rcases hk with rfl | rfl <;> cases hx <;> first | exact (kM _ _ _ (by omega) rfl).1 | exact (kM _ _ _ (by omega) rfl).2
  · exact .dead
end Go.Proofs.YtlcpcgdecodjfaaGreatDoor
namespace Go.Proofs.YtlcpcgdecodjfaaGreatDoor
open Go.RowKit Go.Proofs.YtlcpcgdecodjfaaGreatDoor.Am
set_option linter.unusedVariables false
set_option linter.unusedSimpArgs false

theorem tv_slIn {k : IntKind} {w : World} {a : Option Addr} {len cap : Nat} {xs : List Int} (h : SlIn k w a len cap xs) : TV w (fun _ => True) noM noL (.fl [k] len xs) (.slice a len cap) := by
  obtain ⟨⟨h1, h2⟩, h3, h4, h5⟩ := h
  rcases Nat.eq_zero_or_pos len with hz | hz
  · subst hz
    obtain rfl := List.eq_nil_of_length_eq_zero h1
    exact .fl0
  · rcases h2 with h2 | ⟨b, off, rfl, hb, hc⟩
    · omega
    · refine .fl trivial hb (by simp) (by simpa using h1) ⟨h3, by omega⟩ hz (fun i x hx => ?_)
      obtain ⟨hi, rfl⟩ := List.getElem?_eq_some_iff.1 hx
      rw [hc i (by omega), List.getD_eq_getElem?_getD, List.getElem?_eq_getElem hi]
      unfold kc; rw [show i % [k].length = 0 from Nat.mod_one i]; rfl
/-- From a walk on the machine to what a row wants. -/
theorem row_ofM {f : FuncId} {args : List T} (h : Pure Tryz.prog glM f args (.v (.bool true))) (w : World) (hg : GlP glM w) {vs : List Value} (hv : TVs w (fun _ => True) noM noL args vs) :
    Calls Tryz.prog f vs.toArray w fun e w' => e = .returned (.bool true) ∧ Below w.heap.size w w' := by
  refine (h w vs hg hv).mono ?_
  rintro e w' ⟨v, m, rfl, hb, hv⟩
  obtain rfl := hv.val rfl
  exact ⟨rfl, hb.fr.below (fun _ h => h)⟩
end Go.Proofs.YtlcpcgdecodjfaaGreatDoor
namespace Go.Proofs.YtlcpcgdecodjfaaGreatDoor
open Go.RowKit Go.Proofs.YtlcpcgdecodjfaaGreatDoor.Am
set_option linter.unusedVariables false
set_option linter.unusedSimpArgs false

theorem rank_word {a : Int} (ha : U64 a) (hb : bWordOk a = true) : iRank (iWord a) = a := by
  unfold bWordOk at hb
  have h2 : Flt.rank (Flt.back a.toNat) = a.toNat := by
    unfold Flt.wordOk at hb
    exact (of_decide_eq_true hb).2
  unfold iRank iWord Flt.word
  rw [if_pos hb, Int.toNat_natCast, h2]
  have := ha.1; omega
theorem flI3 {w : World} {a : Option Addr} {len cap : Nat} {st : List Int} (s : SlFl [.i64, .i64, .i64] w a len cap st) : AllI st := by
  intro y hy
  obtain ⟨i, hi, rfl⟩ := List.getElem_of_mem hy
  have := s.2.2 i _ (List.getElem?_eq_getElem hi)
  have hk : kc [.i64, .i64, .i64] i = .i64 := by
    unfold kc
    have : i % 3 = 0 ∨ i % 3 = 1 ∨ i % 3 = 2 := by omega
    rcases this with h | h | h <;> simp [h]
  rw [hk] at this
  exact i64_of_wf this
theorem eRRk_ok : (eRRk iRank).ok Tryz.prog glR := eRRank_ok
theorem eLsF_ok : (eLsF bLess).ok Tryz.prog glM := entry_lift eLess_ok
theorem ordF : OrdF bBefore iWord bWordOk iRank bLess where
  H := ordH
  K := awk13
  less := eLsF_ok
  enc := eEnc4_ok (eRTree_ok (eRBuildB_ok bBefore_wt eRBf_ok) eRRk_ok)
  wt := ⟨iMix, bBefore_wt⟩
  lsr := fun a b => rfl
  rwf := fun a ha hb => ⟨rank_word ha hb, u64_word ha⟩
  ord := fun h hn => ⟨h.ord hn, rises_rkL h hn⟩
end Go.Proofs.YtlcpcgdecodjfaaGreatDoor
namespace Go.Proofs.YtlcpcgdecodjfaaGreatDoor
open Go.RowKit Go.Proofs.YtlcpcgdecodjfaaGreatDoor.Am
set_option linter.unusedVariables false
set_option linter.unusedSimpArgs false

theorem fold_inj {X Y s : Nat} (hX : X < 18446744073709551616) (hY : Y < 18446744073709551616) (hs : 0 < s) (h : X ^^^ X / 2 ^ s = Y ^^^ Y / 2 ^ s) : X = Y := by
  have hb : ∀ (k i : Nat), 64 ≤ i + k → X.testBit i = Y.testBit i := by
    intro k
    induction k using Nat.strongRecOn with
    | _ k ih =>
      intro i hi
      by_cases h64 : 64 ≤ i
      · rw [Nat.testBit_lt_two_pow (Nat.lt_of_lt_of_le hX (by rw [show (18446744073709551616 : Nat) = 2 ^ 64 by rfl]; exact Nat.pow_le_pow_right (by decide) h64)), Nat.testBit_lt_two_pow (Nat.lt_of_lt_of_le hY (by rw [show (18446744073709551616 : Nat) = 2 ^ 64 by rfl]; exact Nat.pow_le_pow_right (by decide) h64))]
      · have h2 := ih (k - 1) (by omega) (i + s) (by omega)
        have h3 := congrArg (fun n => Nat.testBit n i) h
        simp only [Nat.testBit_xor, ← Nat.shiftRight_eq_div_pow, Nat.testBit_shiftRight] at h3
        rw [Nat.add_comm s i, h2] at h3
        revert h3
        cases X.testBit i <;> cases Y.testBit i <;> cases Y.testBit (i + s) <;> simp
  exact Nat.eq_of_testBit_eq fun i => hb 64 i (by omega)
theorem times_inj {X Y C D : Nat} (hX : X < 18446744073709551616) (hY : Y < 18446744073709551616) (hCD : C * D % 18446744073709551616 = 1) (h : X * C % 18446744073709551616 = Y * C % 18446744073709551616) : X = Y := by
  have key : ∀ Z, Z < 18446744073709551616 → (Z * C % 18446744073709551616) * D % 18446744073709551616 = Z := by
    intro Z hZ
    rw [Nat.mod_mul_mod, Nat.mul_assoc, Nat.mul_mod, hCD, Nat.mul_one, Nat.mod_mod, Nat.mod_eq_of_lt hZ]
  rw [← key X hX, ← key Y hY, h]
theorem mixF_nat {X : Nat} (s : Nat) (hs : s ≤ 64) (hX : X < 18446744073709551616) : mixF (X : Int) (s : Int) = ((X ^^^ X / 2 ^ s : Nat) : Int) := by
  unfold mixF
  rw [Int.toNat_natCast, Nat.min_eq_left (show s ≤ IntKind.u64.bits from hs), Int.fdiv_eq_ediv_of_nonneg _ (by exact_mod_cast Nat.zero_le _)]
  have := xorShift_u64 X (2 ^ s) hX
  rw [← this]; congr 2
theorem xor_lt {X : Nat} (s : Nat) (hX : X < 18446744073709551616) : X ^^^ X / 2 ^ s < 18446744073709551616 :=
  Nat.xor_lt_two_pow (n := 64) hX (Nat.lt_of_le_of_lt (Nat.div_le_self _ _) hX)
theorem mixR_nat {X : Nat} (s C : Nat) (hs : s ≤ 64) (hX : X < 18446744073709551616) : mixR (X : Int) (s : Int) (C : Int) = (((X ^^^ X / 2 ^ s) * C % 18446744073709551616 : Nat) : Int) := by
  unfold mixR
  rw [mixF_nat s hs hX, IntKind.wrap_u64, Int.natCast_emod, Int.natCast_mul]; rfl
theorem iMix_inj {a b : Int} (ha : U64 a) (hb : U64 b) (h : iMix a = iMix b) : a = b := by
  obtain ⟨X, rfl⟩ := Int.eq_ofNat_of_zero_le ha.1
  obtain ⟨Y, rfl⟩ := Int.eq_ofNat_of_zero_le hb.1
  have hX : X < 18446744073709551616 := by have := ha.2; omega
  have hY : Y < 18446744073709551616 := by have := hb.2; omega
  rw [← rMix_i, ← rMix_i] at h
  unfold rMix at h
  have m1 : ∀ Z : Nat, Z < 18446744073709551616 → mixR (Z : Int) 30 13787848793156543929 = (((Z ^^^ Z / 2 ^ 30) * 13787848793156543929 % 18446744073709551616 : Nat) : Int) := fun Z hZ => mixR_nat 30 13787848793156543929 (by omega) hZ
  have m2 : ∀ Z : Nat, Z < 18446744073709551616 → mixR (Z : Int) 27 10723151780598845931 = (((Z ^^^ Z / 2 ^ 27) * 10723151780598845931 % 18446744073709551616 : Nat) : Int) := fun Z hZ => mixR_nat 27 10723151780598845931 (by omega) hZ
  have m3 : ∀ Z : Nat, Z < 18446744073709551616 → mixF (Z : Int) 31 = ((Z ^^^ Z / 2 ^ 31 : Nat) : Int) := fun Z hZ => mixF_nat 31 (by omega) hZ
  have lt : ∀ A : Nat, A % 18446744073709551616 < 18446744073709551616 := fun A => Nat.mod_lt _ (by decide)
  rw [m1 X hX, m1 Y hY, m2 _ (lt _), m2 _ (lt _), m3 _ (lt _), m3 _ (lt _)] at h
  have h1 := fold_inj (lt _) (lt _) (by decide) (Int.ofNat.inj h)
  have h2 := times_inj (D := 3573116690164977347) (xor_lt 27 (lt _)) (xor_lt 27 (lt _)) (by decide +kernel) h1
  have h3 := fold_inj (lt _) (lt _) (by decide) h2
  have h4 := times_inj (D := 10871156337175269513) (xor_lt 30 hX) (xor_lt 30 hY) (by decide +kernel) h3
  rw [fold_inj hX hY (by decide) h4]
end Go.Proofs.YtlcpcgdecodjfaaGreatDoor
namespace Go.Proofs.YtlcpcgdecodjfaaGreatDoor
open Go.RowKit Go.Proofs.YtlcpcgdecodjfaaGreatDoor.Am
set_option linter.unusedVariables false
set_option linter.unusedSimpArgs false

theorem eCnF_ok : (eCnF iCanon).ok Tryz.prog glM := entry_lift eCanon_ok
theorem ordG : OrdG bBefore iWord bWordOk iRank bLess iCanon iMix where
  F := ordF
  canon := eCnF_ok
  hwt := bBefore_wt
  winj := fun a b ha hb h => iMix_inj ha hb h
  cnr := fun key r hk hr hb => ⟨fun h => by rw [← rank_word hr hb, h, p_rank_canon], fun h => by rw [h]; exact p_word hk⟩
end Go.Proofs.YtlcpcgdecodjfaaGreatDoor
namespace Go.Proofs.YtlcpcgdecodjfaaGreatDoor
open Go.RowKit Go.Proofs.YtlcpcgdecodjfaaGreatDoor.Am
set_option linter.unusedVariables false
set_option linter.unusedSimpArgs false

def eKdF (kd : Int → Int) : Entry := ⟨23, 3, fun l => match l with
  | [.v (.int .u64 a)] => some (some (U64 a), .v (.int .i64 (kd a)), [])
  | _ => none⟩
structure OrdK (bf : Int → Int → Bool) (wf : Int → Int) (wb : Int → Bool) (rf : Int → Int) (ls : Int → Int → Bool) (cn wt kd : Int → Int) : Prop where
  G : OrdG bf wf wb rf ls cn wt
  kind : (eKdF kd).ok Tryz.prog glM
  kdr : ∀ a b, U64 a → U64 b → wb a = true → wb b = true → a < b → kd (wf a) ≠ 3
  zer : ∀ a, U64 a → wb a = true → wf a ≠ 9223372036854775808
  can : ∀ a, U64 a → wb a = true → cn (wf a) = wf a
noncomputable def ctxOrY (P : Program) (heq : ∀ t, hasN [59] t = true → P.stoodInHeld t = false) (bf : Int → Int → Bool) (wf : Int → Int) (wb : Int → Bool) (rf : Int → Int) (ls : Int → Int → Bool) (cn kd : Int → Int) : Ctx := ctx P glM [eAwk13, eConf13, eStateK, eEnc4 bf rf, eApplyO bf wf wb rf, eAtO bf wf wb, eLoadO bf rf, eCnF cn, eKdF kd, eLsF ls, eWords] [59] heq [] (fun _ h => by cases h)
theorem ctxOrY_good {bf : Int → Int → Bool} {wf : Int → Int} {wb : Int → Bool} {rf : Int → Int} {ls : Int → Int → Bool} {cn wt kd : Int → Int} (O : OrdK bf wf wb rf ls cn wt kd) : (ctxOrY Tryz.prog respEq bf wf wb rf ls cn kd).good :=
  ctx_good (by kernel_rfl) (AllOk.mem ⟨eAwk13_ok O.G.F.H O.G.hwt O.G.F.K, entry_lift eConf13_ok, entry_lift eStateK_ok, entry_lift O.G.F.enc, eApplyO_ok O.G.F.H, eAtO_ok O.G.F.H O.G.hwt, eLoadO_ok O.G.F.H, O.G.canon, O.kind, O.G.F.less, entry_lift eWords_ok, trivial⟩) glM_two
/-- Pairs from behind, so many. -/
def bkL (wf : Int → Int) (n : Nat) (xs : List Int) (c : Nat) : List Int := fl2 (fun d => wf (xs.getD ((n - 1 - d) * 2) 0)) (fun d => xs.getD ((n - 1 - d) * 2 + 1) 0) c
theorem back_law {wf rf : Int → Int} {wb : Int → Bool} {m n : Nat} {xs : List Int} (hO : OrdV wb m n xs) (ru : ∀ a, U64 a → U64 (rf a)) (wr : ∀ a, U64 a → wb (rf a) = true) (rwf : ∀ a, U64 a → wb a = true → rf (wf a) = a ∧ U64 (wf a)) :
    (ldS rf m (bkL wf n xs n) n).2.2.1 = 0 ∧ (ldS rf m (bkL wf n xs n) n).1 = n ∧ (ldS rf m (bkL wf n xs n) n).2.1 = xs ∧ AllU (bkL wf n xs n) := by
  have hw : ∀ i, i < n → rf (wf (xs.getD (i * 2) 0)) = xs.getD (i * 2) 0 ∧ U64 (wf (xs.getD (i * 2) 0)) := fun i hi => rwf _ (allU_getD hO.u _) (hO.ok i hi)
  have hl : AllU (bkL wf n xs n) := by
    have : ∀ c, c ≤ n → AllU (bkL wf n xs c) := by
      intro c
      induction c with
      | zero => intro _ x hx; cases hx
      | succ c ih =>
        intro hc x hx
        unfold bkL at hx; simp only [fl2] at hx
        rcases List.mem_append.1 hx with hx | hx
        · exact ih (by omega) x hx
        · simp only [List.mem_cons, List.not_mem_nil, or_false] at hx
          rcases hx with rfl | rfl
          · exact (hw (n - 1 - c) (by omega)).2
          · exact allU_getD hO.u _
    exact this n (Nat.le_refl _)
  have hat : ∀ i, i < n → (bkL wf n xs n).getD (i * 2) 0 = wf (xs.getD ((n - 1 - i) * 2) 0) ∧ (bkL wf n xs n).getD (i * 2 + 1) 0 = xs.getD ((n - 1 - i) * 2 + 1) 0 := fun i hi => fl2_at _ _ hi
  have h1 := ldS_has (wb := wb) ru wr (m := m) (q := n) hl hO.room (fun i j hi hj h => by
    rw [(hat i hi).1, (hat j hj).1, (hw _ (by omega)).1, (hw _ (by omega)).1] at h
    rw [(hat i hi).2, (hat j hj).2]
    have : n - 1 - i = n - 1 - j := by
      rcases Nat.lt_trichotomy (n - 1 - i) (n - 1 - j) with c | c | c
      · have := rkr hO.rise c (by omega); omega
      · exact c
      · have := rkr hO.rise c (by omega); omega
    rw [this])
  obtain ⟨a1, a2, a3⟩ := h1 n (Nat.le_refl _)
  obtain ⟨e1, e2⟩ := ordV_ext (wb := wb) (ldS_v ru wr hl n) hO (fun r v => by
    rw [a3]
    constructor
    · rintro ⟨j, hj, g1, g2⟩
      rw [(hat j hj).1, (hw _ (by omega)).1] at g1
      rw [(hat j hj).2] at g2
      exact ⟨n - 1 - j, by omega, g1.symm, g2.symm⟩
    · rintro ⟨j, hj, g1, g2⟩
      refine ⟨n - 1 - j, by omega, ?_, ?_⟩
      · rw [(hat _ (by omega)).1, show n - 1 - (n - 1 - j) = j by omega, (hw j hj).1]; exact g1.symm
      · rw [(hat _ (by omega)).2, show n - 1 - (n - 1 - j) = j by omega]; exact g2.symm)
  exact ⟨a1, e1, e2, hl⟩
attribute [local irreducible] appR atRR ipick wordsO ordDo stK entK atR rkL ldR bkL
set_option maxRecDepth 100000 in
set_option maxHeartbeats 2000000 in
theorem orderRises_pure {bf : Int → Int → Bool} {wf : Int → Int} {wb : Int → Bool} {rf : Int → Int} {ls : Int → Int → Bool} {cn wt kd : Int → Int} (O : OrdK bf wf wb rf ls cn wt kd) (room : Int) (q : Nat) (raw : List Int) (hr : I64 room) (hx : AllI raw) :
    Pure Tryz.prog glM 4 [.v (.int .i64 room), .fl [.i64, .i64, .i64] q raw] (.v (.bool true)) := by
  obtain ⟨b1, b2⟩ := ipick_bounds room (n := 12) (by omega)
  obtain ⟨m, hm⟩ : ∃ m : Nat, (m : Int) = 1 + ipick room 12 := ⟨(1 + ipick room 12).toNat, by omega⟩
  have hf : fitsB 4 1 m = true := by unfold fitsB; exact decide_eq_true (by omega)
  have hV := stK_v 4 m raw (min q 30) (by omega)
  obtain ⟨ks, hks⟩ : ∃ ks, (stK 4 m raw (min q 30)).1 = ks := ⟨_, rfl⟩
  obtain ⟨vs, hvs⟩ : ∃ vs, (stK 4 m raw (min q 30)).2 = vs := ⟨_, rfl⟩
  rw [hks, hvs] at hV
  obtain ⟨n, hn⟩ : ∃ n, ks.length = n := ⟨_, rfl⟩
  obtain ⟨hO, hri⟩ := O.G.F.ord hV hn
  obtain ⟨xs, hxs⟩ : ∃ xs, entK rf ks vs n = xs := ⟨_, rfl⟩
  rw [hxs] at hO
  obtain ⟨l1, l2, l3, l4⟩ := back_law hO O.G.F.H.ru O.G.F.H.wr O.G.F.rwf
  have aw := (open_words (bf := bf) hf hO).2.1
  have hwl := wordsO_len (bf := bf) (xs := xs) hO.room
  have h9 : ordDo wf rf m n xs 9 0 0 = (n, xs, 0, (n : Int)) := by unfold ordDo; simp
  have ap9 := appR_words (bf := bf) (wf := wf) (rf := rf) hf hO 9 0 0
  rw [h9] at ap9
  have ap9a := congrArg (fun r : List Int × Int × Int × Int => r.1) ap9
  have ap9b := congrArg (fun r : List Int × Int × Int × Int => r.2.1) ap9
  have ap9c := congrArg (fun r : List Int × Int × Int × Int => r.2.2.1) ap9
  have ap9d := congrArg (fun r : List Int × Int × Int × Int => r.2.2.2) ap9
  dsimp only at ap9a ap9b ap9c ap9d
  have hnm := hO.room
  have ecap2 : IntKind.u64.wrap (m : Int) = m := wrapU (by omega) (by omega)
  have ewn : IntKind.i64.wrap (n : Int) = n := wrap64 (by omega) (by omega)
  refine pure_of (C := ctxOrY Tryz.prog respEq bf wf wb rf ls cn kd) (ctxOrY_good O) Tryz.func4 (c := bodyOf Tryz.f4) (by rfl) (Nat.le_of_ble_eq_true (by rfl)) 4 0 [0, 1, 4, 5, 6, 7, 10, 11, 12, 13, 14, 15, 16, 18, 19, 21, 23, 24, 25, 54, 60, 113, 132] ?_
  conv => whnf
  refine And.intro hr ?_
  conv => whnf
  rw [← hm]
  refine And.intro ⟨.inr (.inr rfl), hf, hx⟩ ?_
  conv => whnf
  rw [Int.toNat_natCast, hks, hvs, hn]
  refine And.intro ⟨⟨rfl, rfl, rfl, rfl⟩, hV, hf, hri⟩ ?_
  conv => whnf
  rw [hxs]
  refine And.intro ⟨aw, by exact ⟨by omega, by omega⟩, by exact ⟨by omega, by omega⟩⟩ ?_
  conv => whnf
  rw [ap9b, ap9c, ap9d]
  conv => whnf
  rw [ecap2]
  refine ifB_f (show (bif false then true else decide ((n : Int) > m)) = false from decide_eq_false (by omega)) ?_
  conv => whnf
  rw [ewn]
  refine TW.nilOwn 13 5000 2 (.fl [.u64, .u64] []) rfl rfl (.inr ⟨_, _, rfl⟩) (by decide) ?_
  refine TW.loopD (ctxOrY_good O) 0 (base := 0) (lv := [0, 1, 4, 5, 6, 7, 10, 11, 12, 13, 14, 15, 16, 18, 19, 21, 23, 24, 25, 54, 60, 113, 132]) [13, 14] [5000] [(5000, 5000)] (fun x : Nat × List Int => [.ow 5000 2 x.1, .v (.int .i64 (n - x.1 : Nat))]) (fun x => [.fl [.u64, .u64] x.2]) (fun x => x.1 ≤ n ∧ x.2 = bkL wf n xs x.1) (fun x => n - x.1) ?_
  conv => whnf
  refine ⟨⟨(0, []), ⟨rfl, rfl, rfl⟩, Nat.zero_le _, by unfold bkL; rfl⟩, fun ⟨c, l⟩ ⟨hc, hl⟩ => ?_⟩
  replace hc : c ≤ n := hc
  replace hl : l = bkL wf n xs c := hl
  conv => whnf
  refine ifB_dec (fun h => ?_) (fun h => ?_)
  · obtain ⟨i, hi⟩ : ∃ i, n - c = i + 1 := ⟨n - c - 1, by omega⟩
    have hin : i < n := by omega
    have at1 := atRR_words (bf := bf) (wf := wf) hf hO ((i + 1 : Nat) : Int)
    have at2 : atR wf n xs ((i + 1 : Nat) : Int) = (wf (xs.getD (i * 2) 0), xs.getD (i * 2 + 1) 0, 0) := by
      unfold atR; rw [if_pos ⟨by omega, by omega⟩, Int.toNat_natCast, Nat.add_sub_cancel]
    rw [at2] at at1
    have at1a := congrArg (fun r : Int × Int × Int => r.1) at1
    have at1b := congrArg (fun r : Int × Int × Int => r.2.1) at1
    have at1c := congrArg (fun r : Int × Int × Int => r.2.2) at1
    dsimp only at at1a at1b at1c
    have ur := allU_getD hO.u (i * 2)
    have okr := hO.ok i hin
    obtain ⟨hw1, hw2⟩ := O.G.F.rwf _ ur okr
    have hzer := O.zer _ ur okr
    have hcan := O.can _ ur okr
    have hgt : ∀ j, i < j → j < n → xs.getD (i * 2) 0 < xs.getD (j * 2) 0 := fun j h1 h2 => rkr hO.rise h1 h2
    have hkd : i + 1 < n → kd (wf (xs.getD (i * 2) 0)) ≠ 3 := fun h1 => O.kdr _ _ ur (allU_getD hO.u ((i + 1) * 2)) okr (hO.ok (i + 1) h1) (hgt (i + 1) (by omega) h1)
    obtain ⟨i1, i2⟩ := isO_of hO.rise hin (show xs.getD (i * 2) 0 = xs.getD (i * 2) 0 from rfl)
    have h10 : ordDo wf rf m n xs 10 (wf (xs.getD (i * 2) 0)) 0 = (n, xs, 0, xs.getD (i * 2 + 1) 0) := by unfold ordDo; rw [hw1, i2, i1]; simp
    have ap10 := appR_words (bf := bf) (wf := wf) (rf := rf) hf hO 10 (wf (xs.getD (i * 2) 0)) 0
    rw [h10] at ap10
    have hls : ∀ j, i < j → j < n → ls (wf (xs.getD (i * 2) 0)) (wf (xs.getD (j * 2) 0)) = true := fun j h1 h2 => by
      rw [O.G.F.lsr, hw1, (O.G.F.rwf _ (allU_getD hO.u _) (hO.ok j h2)).1]; exact decide_eq_true (hgt j h1 h2)
    obtain ⟨K, hK⟩ : ∃ K, wf (xs.getD (i * 2) 0) = K := ⟨_, rfl⟩
    rw [hK] at at1a hw1 hw2 hzer hcan hkd ap10 hls
    obtain ⟨B, hB⟩ : ∃ B, xs.getD (i * 2 + 1) 0 = B := ⟨_, rfl⟩
    rw [hB] at at1b ap10
    have hsnoc : l ++ [K, B] = bkL wf n xs (c + 1) := by
      rw [hl]; unfold bkL; simp only [fl2]
      rw [show n - 1 - c = i by omega, hK, hB]
    have ap10a := congrArg (fun r : List Int × Int × Int × Int => r.1) ap10
    have ap10b := congrArg (fun r : List Int × Int × Int × Int => r.2.1) ap10
    have ap10c := congrArg (fun r : List Int × Int × Int × Int => r.2.2.1) ap10
    have ap10d := congrArg (fun r : List Int × Int × Int × Int => r.2.2.2) ap10
    dsimp only at ap10a ap10b ap10c ap10d
    conv => whnf
    rw [show (((n - ((c, l) : Nat × List Int).1 : Nat) : Int)) = ((i + 1 : Nat) : Int) by dsimp only; omega]
    refine And.intro aw ?_
    conv => whnf
    rw [at1a, at1b, at1c]
    have ep2 : ∀ A B : Int, (([0, 0] : List Int).set (0 + 0 * (1 + 1) + 0) A).set (0 + 0 * (1 + 1) + (0 + 1)) B = [A, B] := fun _ _ => rfl
    rw [ep2]
    have eg : ([K, B] : List Int).getD (0 + 0 * (1 + 1)) 0 = K := rfl
    repeat (refine And.intro (by omega) ?_; conv => whnf)
    refine ifB_f (show (bif false then true else ([K, B] : List Int).getD (0 + 0 * (1 + 1)) 0 == 9223372036854775808) = false from beq_eq_false_iff_ne.2 hzer) ?_
    conv => whnf
    repeat (refine And.intro (by omega) ?_; conv => whnf)
    rw [eg]
    refine And.intro hw2 ?_
    conv => whnf
    rw [hcan]
    repeat (refine And.intro (by omega) ?_; conv => whnf)
    rw [eg]
    refine ifB_f (show (bif false then true else (K != K)) = false from bne_self_eq_false K) ?_
    conv => whnf
    repeat (refine And.intro (by omega) ?_; conv => whnf)
    rw [eg]
    refine And.intro hw2 ?_
    conv => whnf
    by_cases hk3 : kd K = 3
    · have hin1 : ¬ i + 1 < n := fun h1 => hkd h1 hk3
      refine ifB_t (show (kd K == 3) = true from beq_iff_eq.2 hk3) ?_
      conv => whnf
      refine ifB_f (show (bif false then true else bif true then decide (((i + 1 : Nat) : Int) < n) else false) = false from decide_eq_false (by omega)) ?_
      conv => whnf
      have hc0 : ¬ 0 < c := by omega
      refine ifB_f (show decide ((((c, l) : Nat × List Int).1 : Int) > 0) = false from decide_eq_false (by dsimp only; omega)) ?_
      (conv => whnf
       repeat (refine And.intro (by omega) ?_; conv => whnf)
       rw [eg]
       refine And.intro ⟨aw, hw2, by exact ⟨by omega, by omega⟩⟩ ?_
       conv => whnf
       rw [ap10b, ap10c, ap10d]
       conv => whnf
       repeat (refine And.intro (by omega) ?_; conv => whnf)
       have eg2 : ([K, B] : List Int).getD (0 + 1 + 0 * (1 + 1)) 0 = B := rfl
       refine ifB_f (show (bif false then true else !((0 : Int) == 0 && (B == ([K, B] : List Int).getD (0 + 1 + 0 * (1 + 1)) 0 && true))) = false by rw [eg2]; simp) ?_
       conv => whnf
       repeat (refine And.intro (by omega) ?_; conv => whnf)
       have ewi : IntKind.i64.wrap (((i + 1 : Nat) : Int) - 1) = ((n - (c + 1) : Nat) : Int) := by rw [wrap64 (by omega) (by omega)]; omega
       rw [ewi]
       exact ⟨(c + 1, l ++ [K, B]), [(544, 5000)], ⟨rfl, rfl, rfl⟩, ⟨(by omega : c + 1 ≤ n), hsnoc⟩, by dsimp only; omega⟩)
    · refine ifB_f (show (kd K == 3) = false from beq_eq_false_iff_ne.2 hk3) ?_
      conv => whnf
      (by_cases hc0 : 0 < c
       · refine ifB_t (show decide ((((c, l) : Nat × List Int).1 : Int) > 0) = true from decide_eq_true (by dsimp only; omega)) ?_
         have hprev : l.getD ((c - 1) * 2) 0 = wf (xs.getD ((i + 1) * 2) 0) := by
           rw [hl]; unfold bkL
           rw [(fl2_at (fun d => wf (xs.getD ((n - 1 - d) * 2) 0)) (fun d => xs.getD ((n - 1 - d) * 2 + 1) 0) (show c - 1 < c by omega)).1, show n - 1 - (c - 1) = i + 1 by omega]
         have hprevU : U64 (wf (xs.getD ((i + 1) * 2) 0)) := (O.G.F.rwf _ (allU_getD hO.u _) (hO.ok (i + 1) (by omega))).2
         have ewc : IntKind.i64.wrap ((((c, l) : Nat × List Int).1 : Int) - 1) = ((c - 1 : Nat) : Int) := by dsimp only; rw [wrap64 (by omega) (by omega)]; omega
         have egc : l.getD (0 + addN 0 ((c - 1 : Nat) : Int).toNat * (1 + 1)) 0 = wf (xs.getD ((i + 1) * 2) 0) := by rw [← hprev, addN_eq, Int.toNat_natCast]; congr 1; omega
         conv => whnf
         repeat (refine And.intro (by omega) ?_; conv => whnf)
         rw [ewc]
         repeat (refine And.intro (by omega) ?_; conv => whnf)
         refine And.intro ⟨hw2, by show U64 (l.getD _ 0); rw [egc]; exact hprevU⟩ ?_
         conv => whnf
         refine ifB_f (show (bif false then true else bif true then !ls (([K, B] : List Int).getD (0 + 0 * (1 + 1)) 0) (((c, l) : Nat × List Int).2.getD (0 + addN 0 ((c - 1 : Nat) : Int).toNat * (1 + 1)) 0) else false) = false by rw [eg, show ((c, l) : Nat × List Int).2.getD (0 + addN 0 ((c - 1 : Nat) : Int).toNat * (1 + 1)) 0 = _ from egc, hls (i + 1) (by omega) (by omega)]; rfl) ?_
         (conv => whnf
          repeat (refine And.intro (by omega) ?_; conv => whnf)
          rw [eg]
          refine And.intro ⟨aw, hw2, by exact ⟨by omega, by omega⟩⟩ ?_
          conv => whnf
          rw [ap10b, ap10c, ap10d]
          conv => whnf
          repeat (refine And.intro (by omega) ?_; conv => whnf)
          have eg2 : ([K, B] : List Int).getD (0 + 1 + 0 * (1 + 1)) 0 = B := rfl
          refine ifB_f (show (bif false then true else !((0 : Int) == 0 && (B == ([K, B] : List Int).getD (0 + 1 + 0 * (1 + 1)) 0 && true))) = false by rw [eg2]; simp) ?_
          conv => whnf
          repeat (refine And.intro (by omega) ?_; conv => whnf)
          have ewi : IntKind.i64.wrap (((i + 1 : Nat) : Int) - 1) = ((n - (c + 1) : Nat) : Int) := by rw [wrap64 (by omega) (by omega)]; omega
          rw [ewi]
          exact ⟨(c + 1, l ++ [K, B]), [(544, 5000)], ⟨rfl, rfl, rfl⟩, ⟨(by omega : c + 1 ≤ n), hsnoc⟩, by dsimp only; omega⟩)
       · refine ifB_f (show decide ((((c, l) : Nat × List Int).1 : Int) > 0) = false from decide_eq_false (by dsimp only; omega)) ?_
         (conv => whnf
          repeat (refine And.intro (by omega) ?_; conv => whnf)
          rw [eg]
          refine And.intro ⟨aw, hw2, by exact ⟨by omega, by omega⟩⟩ ?_
          conv => whnf
          rw [ap10b, ap10c, ap10d]
          conv => whnf
          repeat (refine And.intro (by omega) ?_; conv => whnf)
          have eg2 : ([K, B] : List Int).getD (0 + 1 + 0 * (1 + 1)) 0 = B := rfl
          refine ifB_f (show (bif false then true else !((0 : Int) == 0 && (B == ([K, B] : List Int).getD (0 + 1 + 0 * (1 + 1)) 0 && true))) = false by rw [eg2]; simp) ?_
          conv => whnf
          repeat (refine And.intro (by omega) ?_; conv => whnf)
          have ewi : IntKind.i64.wrap (((i + 1 : Nat) : Int) - 1) = ((n - (c + 1) : Nat) : Int) := by rw [wrap64 (by omega) (by omega)]; omega
          rw [ewi]
          exact ⟨(c + 1, l ++ [K, B]), [(544, 5000)], ⟨rfl, rfl, rfl⟩, ⟨(by omega : c + 1 ≤ n), hsnoc⟩, by dsimp only; omega⟩))
  · obtain rfl : c = n := by omega
    subst hl
    have atA := atRR_words (bf := bf) (wf := wf) hf hO ((c + 1 : Nat) : Int)
    have atB := atRR_words (bf := bf) (wf := wf) hf hO 0
    rw [show atR wf c xs ((c + 1 : Nat) : Int) = (0, 0, 1) by unfold atR; rw [if_neg (by omega)]] at atA
    rw [show atR wf c xs 0 = (0, 0, 1) by unfold atR; rw [if_neg (by omega)]] at atB
    have atA1 := congrArg (fun r : Int × Int × Int => r.2.2) atA
    have atB1 := congrArg (fun r : Int × Int × Int => r.2.2) atB
    dsimp only at atA1 atB1
    have hld : ldR bf rf 4 1 (m : Int) (bkL wf c xs c) c = (wordsO bf m c xs, 0) := by
      unfold ldR
      rw [if_pos ⟨hf, rfl⟩, Int.toNat_natCast, if_pos l1, l2, l3]
    have hld1 := congrArg (fun r : List Int × Int => r.1) hld
    have hld2 := congrArg (fun r : List Int × Int => r.2) hld
    dsimp only at hld1 hld2
    have ew1 : IntKind.i64.wrap ((c : Int) + 1) = ((c + 1 : Nat) : Int) := wrap64 (by omega) (by omega)
    conv => whnf
    rw [ew1]
    refine And.intro aw ?_
    conv => whnf
    rw [atA1]
    refine And.intro aw ?_
    conv => whnf
    rw [atB1]
    refine And.intro l4 ?_
    conv => whnf
    rw [hld1, hld2]
    conv => whnf
    exact congrArg (fun b => T.v (Value.bool b)) (decide_eq_true rfl)
end Go.Proofs.YtlcpcgdecodjfaaGreatDoor
namespace Go.Proofs.YtlcpcgdecodjfaaGreatDoor
open Go.RowKit Go.Proofs.YtlcpcgdecodjfaaGreatDoor.Am
set_option linter.unusedVariables false
set_option linter.unusedSimpArgs false

theorem kind_pure (a : Int) (ha : U64 a) : Pure Tryz.prog glR 23 [.v (.int .u64 a)] (.v (.int .i64 (iKind a))) := pure_v1 rfl rfl fun w _ => (kind_any a ha w).mono (by rintro e w' ⟨rfl, rfl⟩; exact ⟨rfl, Below.refl _ _⟩)
def eKind : Entry := ⟨23, 3, fun l => match l with | [.v (.int .u64 a)] => some (some (U64 a), .v (.int .i64 (iKind a)), []) | _ => none⟩
theorem eKind_ok : eKind.ok Tryz.prog glR := ⟨Am.enters_of Tryz.func23 (by kernel_rfl) (by kernel_rfl), by
  intro args c t bs h hc
  simp only [eKind] at h
  split at h <;> cases h
  replace hc := hc _ rfl
  exact kind_pure _ hc⟩
theorem eKdF_ok : (eKdF iKind).ok Tryz.prog glM := entry_lift eKind_ok
theorem word_canon {a : Int} (hb : bWordOk a = true) : iCanon (iWord a) = iWord a := by
  unfold bWordOk at hb
  have h2 : Flt.canon (Flt.back a.toNat) = Flt.back a.toNat := by
    unfold Flt.wordOk at hb
    exact (of_decide_eq_true hb).1
  unfold iCanon iWord Flt.word
  rw [if_pos hb, Int.toNat_natCast, h2]
theorem ordK : OrdK bBefore iWord bWordOk iRank bLess iCanon iMix iKind where
  G := ordG
  kind := eKdF_ok
  kdr := fun a b ha hb wa wb h e => by
    have h1 := (p_rank_le (u64_word ha)).2.2 e
    have h2 := (p_rank_le (u64_word hb)).1
    rw [rank_word ha wa] at h1
    rw [rank_word hb wb] at h2
    omega
  zer := fun a ha wa h => by
    have := word_canon wa
    rw [h] at this
    revert this
    decide +kernel
  can := fun a ha wa => word_canon wa
theorem orderRises_walk (w : World) (hg : GlP glM w) (room : Int) (hr : I64 room) (a2 : Option Addr) (len2 cap2 : Nat) (st : List Int) (s2 : SlFl [.i64, .i64, .i64] w a2 len2 cap2 st) :
    Calls Tryz.prog 4 #[.int .i64 room, .slice a2 len2 cap2] w fun e w' => e = .returned (.bool true) ∧ Below w.heap.size w w' :=
  row_ofM (orderRises_pure ordK room len2 st hr (flI3 s2)) w hg (.cons (.v rfl) (.cons s2.1 .nil))
end Go.Proofs.YtlcpcgdecodjfaaGreatDoor
