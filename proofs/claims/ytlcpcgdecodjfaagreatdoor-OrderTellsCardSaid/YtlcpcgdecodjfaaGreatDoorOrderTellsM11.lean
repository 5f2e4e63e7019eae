/- Texts put together: LaidM, RowT, OrU, OtA, OrV, OrW, MixP, OrX, OrY, OrZ, OtB, OtC, OtD, OtE, OtF, OtG, OtH, OtI, OtJ. -/
import Derived.Test.YtlcpcgdecodjfaaGreatDoorOrderTellsM10
import Derived.Test.YtlcpcgdecodjfaaGreatDoorRows
import Derived.ProofKit
import Derived.LaidMore
import Derived.OpenShut
import Derived.Stop.Joined
import Derived.Laws.Bits64
namespace Go.Proofs.YtlcpcgdecodjfaaGreatDoor
open Go.ChangeShapes Go.WideShapes Go.ChangeAt Go.WideMaps Go.WideElems Go.RowKit Go.Proofs.YtlcpcgdecodjfaaGreatDoor.Am
set_option linter.unusedVariables false
set_option linter.unusedSimpArgs false

theorem gObjsM : Tryz.prog.globalNamed "whitewash/region.objects" = some 1 := by kernel_rfl
theorem tObjsM : (Tryz.prog.globals[1]?).map (·.type) = some 131 := by kernel_rfl
theorem gThere : Tryz.prog.globalNamed "whitewash/mix.there" = some 2 := by kernel_rfl
theorem tThere : (Tryz.prog.globals[2]?).map (·.type) = some 147 := by kernel_rfl
abbrev laidM : List (String × DataW Unit) := [("whitewash/mix.there", Rows.laid_whitewash_mix_there), ("whitewash/region.objects", Rows.laid_whitewash_region_objects)]
theorem door_metM (os : Os) (args : Array Value) : laidMetH Tryz.prog laidM ((World.doorLaid Tryz.prog 400 os).forCall (fun _ _ => 0) ⟨#[], args, []⟩).memory :=
  laidMetH_of_parts3 (fuel := 8) (laidMet_of_run' 8 (by kernel_rfl) (by kernel_rfl)) (by kernel_rfl) (by kernel_rfl)
theorem el_cellsO {H : Type} {enc : TypeId × Value → H} {W : World} {sp : Nat → Bool} {held : Bool} {m : Nat} {cs : List Value} {y : DataW H × List MemPlace} {a b : Int} (h : DataW.trod enc Tryz.prog W 0 sp held m 130 cs = some y) (hy : y.1 = .agg [.lit (.int .i64 a), .lit (.int .i64 b)]) : cs[0]? = some (.int .i64 a) ∧ cs[1]? = some (.int .i64 b) := by
  obtain ⟨xs, n, rfl, rfl, hlen, hn, hel⟩ := DataW.trod_struct Tryz.underlying130 h
  have c3 : Tryz.prog.cellsOf 3 = 1 := by kernel_rfl
  have h0 := hel 0 _ rfl
  have h1 := hel 1 _ rfl
  match xs, hn, hy, h0, h1 with
  | [x0, x1], _, hy, h0, h1 =>
    simp only [List.map_cons, List.map_nil, DataW.agg.injEq, List.cons.injEq, and_true] at hy
    obtain ⟨k, e1, e2, _⟩ := DataW.trod_int Tryz.underlying3 (show DataW.trod enc Tryz.prog W 0 sp held n 3 _ = some x0 from h0)
    obtain ⟨k2, e3, e4, _⟩ := DataW.trod_int Tryz.underlying3 (show DataW.trod enc Tryz.prog W 0 sp held n 3 _ = some x1 from h1)
    have hk : k = a := by rw [e2] at hy; simpa using hy.1
    have hk2 : k2 = b := by rw [e4] at hy; simpa using hy.2
    subst hk hk2
    try simp only [c3] at e1 e3
    constructor
    · have := congrArg (fun l : List Value => l[0]?) e1
      simp [List.getElem?_take, List.getElem?_drop] at this
      exact this.2
    · have := congrArg (fun l : List Value => l[0]?) e3
      simp [List.getElem?_take, List.getElem?_drop] at this
      exact this.2
theorem el_cellsM {H : Type} {enc : TypeId × Value → H} {W : World} {sp : Nat → Bool} {held : Bool} {m : Nat} {cs : List Value} {y : DataW H × List MemPlace} {a b : Int} (h : DataW.trod enc Tryz.prog W 0 sp held m 146 cs = some y) (hy : y.1 = .agg [.lit (.int .u64 a), .lit (.int .u64 b)]) : cs[0]? = some (.int .u64 a) ∧ cs[1]? = some (.int .u64 b) := by
  obtain ⟨xs, n, rfl, rfl, hlen, hn, hel⟩ := DataW.trod_struct Tryz.underlying146 h
  have c3 : Tryz.prog.cellsOf 28 = 1 := by kernel_rfl
  have c4 : Tryz.prog.cellsOf 114 = 1 := by kernel_rfl
  have h0 := hel 0 _ rfl
  have h1 := hel 1 _ rfl
  match xs, hn, hy, h0, h1 with
  | [x0, x1], _, hy, h0, h1 =>
    simp only [List.map_cons, List.map_nil, DataW.agg.injEq, List.cons.injEq, and_true] at hy
    obtain ⟨k, e1, e2, _⟩ := DataW.trod_int Tryz.underlying114 (show DataW.trod enc Tryz.prog W 0 sp held n 114 _ = some x0 from h0)
    obtain ⟨k2, e3, e4, _⟩ := DataW.trod_int Tryz.underlying28 (show DataW.trod enc Tryz.prog W 0 sp held n 28 _ = some x1 from h1)
    have hk : k = a := by rw [e2] at hy; simpa using hy.1
    have hk2 : k2 = b := by rw [e4] at hy; simpa using hy.2
    subst hk hk2
    try simp only [c3, c4] at e1 e3
    constructor
    · have := congrArg (fun l : List Value => l[0]?) e1
      simp [List.getElem?_take, List.getElem?_drop] at this
      exact this.2
    · have := congrArg (fun l : List Value => l[0]?) e3
      simp [List.getElem?_take, List.getElem?_drop] at this
      exact this.2
theorem arr_O {W : World} {g0 t0 f0 : Nat} {cs0 : Array Value} {p0 : List MemPlace} (hg0 : Tryz.prog.globalNamed "whitewash/region.objects" = some g0) (ht0 : Option.map (fun x => x.type) Tryz.prog.globals[g0]? = some t0) (hv0 : World.var? Tryz.prog W "whitewash/region.objects" = some cs0)
    (hd0 : DataW.trod (fun x => ()) Tryz.prog W 0 (fun x => true) false f0 t0 cs0.toList = some (Rows.laid_whitewash_region_objects, p0)) : ∀ (i : Nat) (a b : Int), i < 6 → (match (Rows.laid_whitewash_region_objects : DataW Unit) with | .agg l => l[i]? | _ => none) = some (.agg [.lit (.int .i64 a), .lit (.int .i64 b)]) → W.cell? ⟨1, i * 2, none⟩ = some (.int .i64 a) ∧ W.cell? ⟨1, i * 2 + 1, none⟩ = some (.int .i64 b) := by
  obtain rfl := Option.some.inj ((show Tryz.prog.globalNamed "whitewash/region.objects" = some 1 by kernel_rfl).symm.trans hg0)
  obtain rfl := Option.some.inj ((show (Tryz.prog.globals[1]?).map (·.type) = some 131 by kernel_rfl).symm.trans ht0)
  obtain ⟨xs, m1, rfl, hx1, hlen, hn6, hel⟩ := DataW.trod_array Tryz.underlying131 hd0
  have cE : Tryz.prog.cellsOf 130 = 2 := by kernel_rfl
  simp only [Prod.mk.injEq] at hx1
  have hx := hx1.1
  intro i a b hi hxi
  rw [hx] at hxi
  replace hxi : (xs.map (·.1))[i]? = some (.agg [.lit (.int .i64 a), .lit (.int .i64 b)]) := hxi
  have hE := hel i hi
  rw [cE] at hE
  rw [List.getElem?_map] at hxi
  cases hy : xs[i]? with
  | none => simp [hy] at hxi
  | some y =>
    rw [hy] at hE hxi
    obtain ⟨g0, g1⟩ := el_cellsO hE (by simpa using hxi)
    rw [List.getElem?_take_of_lt (by omega), List.getElem?_drop] at g0 g1
    rw [World.var?_cell hg0 hv0, World.var?_cell hg0 hv0]
    rw [Array.getElem?_toList] at g0 g1
    exact ⟨g0, g1⟩
theorem arr_M {W : World} {g0 t0 f0 : Nat} {cs0 : Array Value} {p0 : List MemPlace} (hg0 : Tryz.prog.globalNamed "whitewash/mix.there" = some g0) (ht0 : Option.map (fun x => x.type) Tryz.prog.globals[g0]? = some t0) (hv0 : World.var? Tryz.prog W "whitewash/mix.there" = some cs0)
    (hd0 : DataW.trod (fun x => ()) Tryz.prog W 0 (fun x => true) false f0 t0 cs0.toList = some (Rows.laid_whitewash_mix_there, p0)) : ∀ (i : Nat) (a b : Int), i < 3 → (match (Rows.laid_whitewash_mix_there : DataW Unit) with | .agg l => l[i]? | _ => none) = some (.agg [.lit (.int .u64 a), .lit (.int .u64 b)]) → W.cell? ⟨2, i * 2, none⟩ = some (.int .u64 a) ∧ W.cell? ⟨2, i * 2 + 1, none⟩ = some (.int .u64 b) := by
  obtain rfl := Option.some.inj ((show Tryz.prog.globalNamed "whitewash/mix.there" = some 2 by kernel_rfl).symm.trans hg0)
  obtain rfl := Option.some.inj ((show (Tryz.prog.globals[2]?).map (·.type) = some 147 by kernel_rfl).symm.trans ht0)
  obtain ⟨xs, m1, rfl, hx1, hlen, hn6, hel⟩ := DataW.trod_array Tryz.underlying147 hd0
  have cE : Tryz.prog.cellsOf 146 = 2 := by kernel_rfl
  simp only [Prod.mk.injEq] at hx1
  have hx := hx1.1
  intro i a b hi hxi
  rw [hx] at hxi
  replace hxi : (xs.map (·.1))[i]? = some (.agg [.lit (.int .u64 a), .lit (.int .u64 b)]) := hxi
  have hE := hel i hi
  rw [cE] at hE
  rw [List.getElem?_map] at hxi
  cases hy : xs[i]? with
  | none => simp [hy] at hxi
  | some y =>
    rw [hy] at hE hxi
    obtain ⟨g0, g1⟩ := el_cellsM hE (by simpa using hxi)
    rw [List.getElem?_take_of_lt (by omega), List.getElem?_drop] at g0 g1
    rw [World.var?_cell hg0 hv0, World.var?_cell hg0 hv0]
    rw [Array.getElem?_toList] at g0 g1
    exact ⟨g0, g1⟩
theorem blk_pos {W : World} {b o : Nat} {v : Value} (h : W.cell? ⟨b, o, none⟩ = some v) : b < W.heap.size := by
  unfold World.cell? at h
  rcases Nat.lt_or_ge b W.heap.size with hz | hz
  · exact hz
  · rw [Array.getElem?_eq_none (by exact hz)] at h; cases h
theorem gl_laid {W : World} (h : laidMetH Tryz.prog laidM W) : GlP glM W := by
  rw [MakeChecks.laidMetH_plain _ _ _ (by kernel_rfl)] at h
  obtain ⟨ps, ⟨g0, t0, cs0, f0, p0, q0, hg0, ht0, hv0, hd0, ⟨g1, t1, cs1, f1, p1, q1, hg1, ht1, hv1, hd1, -⟩, -⟩, -⟩ := h
  have kM := arr_M hg0 ht0 hv0 hd0
  have kO := arr_O hg1 ht1 hv1 hd1
  intro g
  unfold glM
  split
  · refine .fp (b := 1) (off := 0) trivial (blk_pos (kO 0 0 0 (by omega) rfl).1) (by simp) (by decide) (fun i x hx => ?_)
    have hi : i < 12 := (List.getElem?_eq_some_iff.1 hx).1
    obtain ⟨k, hk⟩ : ∃ k, i = k * 2 ∨ i = k * 2 + 1 := ⟨i / 2, by omega⟩
    have : k = 0 ∨ k = 1 ∨ k = 2 ∨ k = 3 ∨ k = 4 ∨ k = 5 := by omega
    rw [Nat.zero_add]
    rcases this with rfl | rfl | rfl | rfl | rfl | rfl <;> rcases hk with rfl | rfl <;> cases hx <;> first | exact (kO _ _ _ (by omega) rfl).1 | exact (kO _ _ _ (by omega) rfl).2
  · refine .fp (b := 2) (off := 0) trivial (blk_pos (kM 0 _ _ (by omega) rfl).1) (by simp) (by decide) (fun i x hx => ?_)
    have hi : i < 6 := (List.getElem?_eq_some_iff.1 hx).1
    obtain ⟨k, hk⟩ : ∃ k, i = k * 2 ∨ i = k * 2 + 1 := ⟨i / 2, by omega⟩
    have : k = 0 ∨ k = 1 ∨ k = 2 := by omega
    rw [Nat.zero_add]
    rcases this with rfl | rfl | rfl <;> rcases hk with rfl | rfl <;> cases hx <;> first | exact (kM _ _ _ (by omega) rfl).1 | exact (kM _ _ _ (by omega) rfl).2
  · exact .dead
end Go.Proofs.YtlcpcgdecodjfaaGreatDoor
namespace Go.Proofs.YtlcpcgdecodjfaaGreatDoor
open Go.RowKit Go.Proofs.YtlcpcgdecodjfaaGreatDoor.Am
set_option linter.unusedVariables false
set_option linter.unusedSimpArgs false

theorem tv_slIn {k : IntKind} {w : World} {a : Option Addr} {len cap : Nat} {xs : List Int} (h : SlIn k w a len cap xs) : TV w (fun _ => True) noM noL (.fl [k] len xs) (.slice a len cap) := by
  obtain ⟨⟨h1, h2⟩, h3, h4, h5⟩ := h
  rcases Nat.eq_zero_or_pos len with hz | hz
  · subst hz
    obtain rfl := List.eq_nil_of_length_eq_zero h1
    exact .fl0
  · rcases h2 with h2 | ⟨b, off, rfl, hb, hc⟩
    · omega
    · refine .fl trivial hb (by simp) (by simpa using h1) ⟨h3, by omega⟩ hz (fun i x hx => ?_)
      obtain ⟨hi, rfl⟩ := List.getElem?_eq_some_iff.1 hx
      rw [hc i (by omega), List.getD_eq_getElem?_getD, List.getElem?_eq_getElem hi]
      unfold kc; rw [show i % [k].length = 0 from Nat.mod_one i]; rfl
/-- From a walk on the machine to what a row wants. -/
theorem row_ofM {f : FuncId} {args : List T} (h : Pure Tryz.prog glM f args (.v (.bool true))) (w : World) (hg : GlP glM w) {vs : List Value} (hv : TVs w (fun _ => True) noM noL args vs) :
    Calls Tryz.prog f vs.toArray w fun e w' => e = .returned (.bool true) ∧ Below w.heap.size w w' := by
  refine (h w vs hg hv).mono ?_
  rintro e w' ⟨v, m, rfl, hb, hv⟩
  obtain rfl := hv.val rfl
  exact ⟨rfl, hb.fr.below (fun _ h => h)⟩
end Go.Proofs.YtlcpcgdecodjfaaGreatDoor
namespace Go.Proofs.YtlcpcgdecodjfaaGreatDoor
open Go.RowKit Go.Proofs.YtlcpcgdecodjfaaGreatDoor.Am
set_option linter.unusedVariables false
set_option linter.unusedSimpArgs false

theorem rank_word {a : Int} (ha : U64 a) (hb : bWordOk a = true) : iRank (iWord a) = a := by
  unfold bWordOk at hb
  have h2 : Flt.rank (Flt.back a.toNat) = a.toNat := by
    unfold Flt.wordOk at hb
    exact (of_decide_eq_true hb).2
  unfold iRank iWord Flt.word
  rw [if_pos hb, Int.toNat_natCast, h2]
  have := ha.1; omega
theorem flI3 {w : World} {a : Option Addr} {len cap : Nat} {st : List Int} (s : SlFl [.i64, .i64, .i64] w a len cap st) : AllI st := by
  intro y hy
  obtain ⟨i, hi, rfl⟩ := List.getElem_of_mem hy
  have := s.2.2 i _ (List.getElem?_eq_getElem hi)
  have hk : kc [.i64, .i64, .i64] i = .i64 := by
    unfold kc
    have : i % 3 = 0 ∨ i % 3 = 1 ∨ i % 3 = 2 := by omega
    rcases this with h | h | h <;> simp [h]
  rw [hk] at this
  exact i64_of_wf this
theorem eRRk_ok : (eRRk iRank).ok Tryz.prog glR := eRRank_ok
theorem eLsF_ok : (eLsF bLess).ok Tryz.prog glM := entry_lift eLess_ok
theorem ordF : OrdF bBefore iWord bWordOk iRank bLess where
  H := ordH
  K := awk13
  less := eLsF_ok
  enc := eEnc4_ok (eRTree_ok (eRBuildB_ok bBefore_wt eRBf_ok) eRRk_ok)
  wt := ⟨iMix, bBefore_wt⟩
  lsr := fun a b => rfl
  rwf := fun a ha hb => ⟨rank_word ha hb, u64_word ha⟩
  ord := fun h hn => ⟨h.ord hn, rises_rkL h hn⟩
end Go.Proofs.YtlcpcgdecodjfaaGreatDoor
namespace Go.Proofs.YtlcpcgdecodjfaaGreatDoor
open Go.RowKit Go.Proofs.YtlcpcgdecodjfaaGreatDoor.Am
set_option linter.unusedVariables false
set_option linter.unusedSimpArgs false

section
variable {m n : Nat} {ks vs : List Int}
theorem mnt4 (x : Int) : mntV 4 x = iCanon x ∧ mntB 4 x = true := ⟨by unfold mntV; rw [if_pos rfl], by unfold mntB; rw [if_pos rfl]⟩
theorem rk4 (x : Int) : rkK 4 x = iRank x := by unfold rkK; rw [if_pos rfl]
/-- Where a key is among the ranks is where it is among the keys. -/
theorem at_same (h : TabV 4 m ks vs) (hn : ks.length = n) {key : Int} (hk : U64 key) : atO (entK iRank ks vs n) n (iRank key) = atK 4 ks (iCanon key) := by
  have hl := atK_le 4 ks (iCanon key)
  refine atO_is (by omega) (fun i hi => ?_) (fun hi => ?_)
  · have := atK_lo hi
    rw [rk4, rk4, p_rank_canon] at this
    rw [(entK_at iRank ks vs (by omega)).1]; exact this
  · have := atK_hi h (x := iCanon key) (Nat.le_refl _) (by omega)
    rw [rk4, rk4, p_rank_canon] at this
    rw [(entK_at iRank ks vs hi).1]; exact this
theorem is_same (h : TabV 4 m ks vs) (hn : ks.length = n) {key : Int} (hk : U64 key) : isO (entK iRank ks vs n) n (iRank key) = hereK 4 ks (iCanon key) := by
  have e := at_same h hn hk
  unfold isO hereK
  rw [e, hn, Bool.eq_iff_iff, decide_eq_true_iff, decide_eq_true_iff]
  have hc : ∀ i, i < n → (iRank (ks.getD i 0) = iRank key ↔ ks.getD i 0 = iCanon key) := fun i hi => by
    have := (h.mn i (by omega)).2
    rw [(mnt4 _).1] at this
    rw [p_rank_inj (allU_getD h.u1 _) hk, this]
  constructor
  · rintro ⟨h1, h2⟩
    rw [(entK_at iRank ks vs h1).1] at h2
    exact ⟨h1, (hc _ h1).1 h2⟩
  · rintro ⟨h1, h2⟩
    refine ⟨h1, ?_⟩
    rw [(entK_at iRank ks vs h1).1]; exact (hc _ h1).2 h2
/-- Entries are what is at their places. -/
theorem ent_ext {xs : List Int} (hl : xs.length = n * 2) (h : ∀ i, i < n → xs.getD (i * 2) 0 = iRank (ks.getD i 0) ∧ xs.getD (i * 2 + 1) 0 = vs.getD i 0) : xs = entK iRank ks vs n := by
  refine prs_inj hl (entK_len _ _ _ _) ?_
  unfold prs
  refine List.map_congr_left fun i hi => ?_
  have hi := List.mem_range.1 hi
  rw [(h i hi).1, (h i hi).2, (entK_at iRank ks vs hi).1, (entK_at iRank ks vs hi).2]
theorem ins_same (h : TabV 4 m ks vs) (hn : ks.length = n) {a : Nat} (ha : a ≤ n) {key v : Int} (hk : U64 key) : insL (entK iRank ks vs n) a (iRank key) v = entK iRank (insK ks a (iCanon key)) (insK vs a v) (n + 1) := by
  have hx := entK_len iRank ks vs n
  have hvl := h.vlen
  rw [if_pos (show valB 4 = true by decide)] at hvl
  refine ent_ext (by rw [insL_len]; omega) (fun i hi => ?_)
  rw [insL_rank hx ha, insL_val hx ha, insK_at (by omega), insK_at (by omega)]
  by_cases c1 : i < a
  · rw [if_pos c1, if_pos c1, if_pos c1, if_pos c1]; exact entK_at iRank ks vs (by omega)
  · rw [if_neg c1, if_neg c1, if_neg c1, if_neg c1]
    by_cases c2 : i = a
    · rw [if_pos c2, if_pos c2, if_pos c2, if_pos c2, p_rank_canon]; exact ⟨rfl, rfl⟩
    · rw [if_neg c2, if_neg c2, if_neg c2, if_neg c2]; exact entK_at iRank ks vs (by omega)
theorem del_same (h : TabV 4 m ks vs) (hn : ks.length = n) {a : Nat} (ha : a < n) : delL (entK iRank ks vs n) a (a + 1) = entK iRank (delK ks a) (delK vs a) (n - 1) := by
  have hx := entK_len iRank ks vs n
  have hvl := h.vlen
  rw [if_pos (show valB 4 = true by decide)] at hvl
  refine ent_ext (by rw [delL_len hx (by omega) (by omega)]; omega) (fun i hi => ?_)
  have hv2 : (delL (entK iRank ks vs n) a (a + 1)).getD (i * 2 + 1) 0 = if i < a then (entK iRank ks vs n).getD (i * 2 + 1) 0 else (entK iRank ks vs n).getD ((i + 1) * 2 + 1) 0 := by
    rw [List.getD_eq_getElem?_getD, delL_at (by omega)]
    by_cases h1 : i < a
    · rw [if_pos (by omega), if_pos h1, ← List.getD_eq_getElem?_getD]
    · rw [if_neg (by omega), if_neg h1, ← List.getD_eq_getElem?_getD, show (a + 1) * 2 + (i * 2 + 1 - a * 2) = (i + 1) * 2 + 1 by omega]
  rw [delL_rank hx ha, hv2, delK_at (by omega), delK_at (by omega)]
  by_cases c1 : i < a
  · rw [if_pos c1, if_pos c1, if_pos c1, if_pos c1]; exact entK_at iRank ks vs (by omega)
  · rw [if_neg c1, if_neg c1, if_neg c1, if_neg c1]; exact entK_at iRank ks vs (by omega)
theorem set_same (h : TabV 4 m ks vs) (hn : ks.length = n) {a : Nat} (ha : a < n) {key v : Int} (he : ks.getD a 0 = iCanon key) : setL (entK iRank ks vs n) a (iRank key) v = entK iRank ks (vs.set a v) n := by
  have hx := entK_len iRank ks vs n
  have hvl := h.vlen
  rw [if_pos (show valB 4 = true by decide)] at hvl
  refine ent_ext (by unfold setL; simp [hx]) (fun i hi => ?_)
  obtain ⟨g1, g2⟩ := setL_val (r := iRank key) (v := v) hx ha i
  rw [g1, g2]
  by_cases c : i = a
  · subst c
    rw [if_pos rfl, if_pos rfl, he, p_rank_canon]
    refine ⟨rfl, ?_⟩
    rw [List.getD_eq_getElem?_getD, List.getElem?_set_self (by omega)]; rfl
  · rw [if_neg c, if_neg c]
    obtain ⟨e1, e2⟩ := entK_at iRank ks vs hi
    refine ⟨e1, ?_⟩
    rw [e2, List.getD_eq_getElem?_getD, List.getD_eq_getElem?_getD, List.getElem?_set_ne (by omega)]
/-- What a call makes of keys and values, as an order. -/
theorem do_same (h : TabV 4 m ks vs) (hn : ks.length = n) {code key v : Int} (hk : U64 key) :
    ordDo iWord iRank m n (entK iRank ks vs n) code key v = ((tabD 4 m ks vs code key v).1.length, entK iRank (tabD 4 m ks vs code key v).1 (tabD 4 m ks vs code key v).2.1 (tabD 4 m ks vs code key v).1.length, (tabD 4 m ks vs code key v).2.2.1, (tabD 4 m ks vs code key v).2.2.2) := by
  have hvl := h.vlen
  rw [if_pos (show valB 4 = true by decide)] at hvl
  have hv : valB 4 = true := by decide
  have e1 := at_same h hn hk
  have e2 := is_same h hn hk
  have hat := atK_le 4 ks (iCanon key)
  obtain ⟨m1, m2⟩ := mnt4 key
  have hnx : nxO (entK iRank ks vs n) n (iRank key) v = nxK 4 ks (iCanon key) v := by unfold nxO nxK; rw [e1, e2]
  by_cases h9 : code = 9
  · subst h9
    rw [show tabD 4 m ks vs 9 key v = (ks, vs, 0, (ks.length : Int)) from if_pos rfl]
    rw [show ordDo iWord iRank m n (entK iRank ks vs n) 9 key v = (n, entK iRank ks vs n, 0, (n : Int)) by unfold ordDo; simp]
    rw [hn]
  · rw [show tabD 4 m ks vs code key v = plcD 4 m ks vs code (iCanon key) v by unfold tabD; rw [if_neg h9, m2, m1]; simp]
    unfold ordDo
    rw [hnx, e1, e2, if_neg h9]
    cases hh : hereK 4 ks (iCanon key)
    · rw [plcTF hv hh, nxK_F hh]
      simp only [Bool.false_eq_true, if_false]
      by_cases h10 : code = 10
      · subst h10; simp [hn]
      by_cases h11 : code = 11
      · subst h11
        simp only [show ¬ (11 : Int) = 10 by decide, show ¬ (11 : Int) = 7 by decide, show ¬ (11 : Int) = 8 by decide, if_false, if_true]
        by_cases hf : n = m
        · rw [if_pos hf, if_pos (by omega), hn]
        · rw [if_neg hf, if_neg (by omega)]
          dsimp only
          rw [insK_len (by omega), hn, ins_same h hn (by omega) hk]
      by_cases h7 : code = 7
      · subst h7; simp [hn]
      by_cases h8 : code = 8
      · subst h8
        simp only [show ¬ (8 : Int) = 10 by decide, show ¬ (8 : Int) = 11 by decide, show ¬ (8 : Int) = 7 by decide, if_false, if_true]
        by_cases hl : atK 4 ks (iCanon key) < n
        · rw [if_pos hl, if_neg (by omega), (entK_at iRank ks vs hl).1, p_word (allU_getD h.u1 _)]
          have := (h.mn _ (show atK 4 ks (iCanon key) < ks.length by omega)).2
          rw [(mnt4 _).1] at this
          rw [this, hn]
        · rw [if_neg hl, if_pos (by omega), hn]
      rw [if_neg h10, if_neg h11, if_neg h7, if_neg h8, if_neg h7, if_neg h8, if_neg h10, if_neg h11, hn]
    · obtain ⟨a1, a2⟩ := hereK_t hh
      rw [plcTT hv hh]
      simp only [if_true]
      have hval : ∀ i, i < n → (entK iRank ks vs n).getD (i * 2 + 1) 0 = vs.getD i 0 := fun i hi => (entK_at iRank ks vs hi).2
      by_cases h10 : code = 10
      · subst h10
        simp only [show ¬ (10 : Int) = 11 by decide, show ¬ (10 : Int) = 7 by decide, show ¬ (10 : Int) = 8 by decide, if_false, if_true]
        rw [hval _ (by omega), hn]
      by_cases h11 : code = 11
      · subst h11
        simp only [show ¬ (11 : Int) = 10 by decide, show ¬ (11 : Int) = 7 by decide, show ¬ (11 : Int) = 8 by decide, if_false, if_true]
        rw [hval _ (by omega), hn, set_same h hn (by omega) a2]
      by_cases h7 : code = 7
      · subst h7
        simp only [show ¬ (7 : Int) = 10 by decide, show ¬ (7 : Int) = 11 by decide, if_false, if_true]
        rw [hval _ (by omega), delK_len (by omega), hn, del_same h hn (by omega)]
      by_cases h8 : code = 8
      · subst h8
        simp only [show ¬ (8 : Int) = 10 by decide, show ¬ (8 : Int) = 11 by decide, show ¬ (8 : Int) = 7 by decide, if_false, if_true]
        have hb := nxK_T (v := v) hh
        have hle : nxK 4 ks (iCanon key) v ≤ n := by
          by_cases c : v = 0
          · rw [hb.2 c]; omega
          · rw [hb.1 c]; omega
        by_cases hl : nxK 4 ks (iCanon key) v < n
        · rw [if_pos hl, if_neg (by omega), (entK_at iRank ks vs hl).1, p_word (allU_getD h.u1 _)]
          have := (h.mn _ (show nxK 4 ks (iCanon key) v < ks.length by omega)).2
          rw [(mnt4 _).1] at this
          rw [this, hn]
        · rw [if_neg hl, if_pos (by omega), hn]
      rw [if_neg h10, if_neg h11, if_neg h7, if_neg h8, if_neg h7, if_neg h8, if_neg h10, if_neg h11, hn]
end
end Go.Proofs.YtlcpcgdecodjfaaGreatDoor
namespace Go.Proofs.YtlcpcgdecodjfaaGreatDoor
open Go.RowKit Go.Proofs.YtlcpcgdecodjfaaGreatDoor.Am
set_option linter.unusedVariables false
set_option linter.unusedSimpArgs false

/-- A way within a tree's part: who is met lies there, is not heavier than its top, lighter than the one ahead; behind the key is nothing; a key that is there is met. -/
structure WayOk (wt : Int → Int) (xs : List Int) (key : Int) (lo hi : Nat) (w : Int) (p : List Int) : Prop where
  rng : ∀ i, i < p.length → (lo : Int) < p.getD i 0 ∧ p.getD i 0 ≤ hi
  top : ∀ i, i < p.length → wt (xs.getD ((p.getD i 0).toNat - 1) 0) ≤ w
  fall : ∀ i, i + 1 < p.length → wt (xs.getD ((p.getD (i + 1) 0).toNat - 1) 0) < wt (xs.getD ((p.getD i 0).toNat - 1) 0)
  last : ∀ i, i < p.length → xs.getD ((p.getD i 0).toNat - 1) 0 = key → i + 1 = p.length
  met : ∀ j, lo ≤ j → j < hi → xs.getD j 0 = key → 0 < p.length ∧ xs.getD ((p.getD (p.length - 1) 0).toNat - 1) 0 = key
  nil : p.length = 0 ↔ lo = hi
theorem wayOk_nil (wt : Int → Int) (xs : List Int) (key : Int) (lo : Nat) (w : Int) : WayOk wt xs key lo lo w [] :=
  ⟨fun i h => absurd h (Nat.not_lt_zero _), fun i h => absurd h (Nat.not_lt_zero _), fun i h => absurd h (Nat.not_lt_zero _), fun i h => absurd h (Nat.not_lt_zero _), fun j h1 h2 => by omega, by simp⟩
theorem way_tr {wt : Int → Int} {xs lk : List Int} {key : Int} (hinj : ∀ i j, i < xs.length → j < xs.length → wt (xs.getD i 0) = wt (xs.getD j 0) → i = j) (hr : rises xs) {lo hi t : Nat} (h : IsTr wt xs lk lo hi t) (hh : hi ≤ xs.length) :
    ∀ d, hi - lo ≤ d → ∀ w, (∀ j, lo ≤ j → j < hi → wt (xs.getD j 0) ≤ w) → WayOk wt xs key lo hi w (wayF xs lk key d t) := by
  induction h with
  | nil lo =>
    intro d hd w hw
    have : wayF xs lk key d 0 = [] := by cases d <;> simp [wayF]
    rw [this]; exact wayOk_nil _ _ _ _ _
  | @node lo hi t l r h1 h2 h3 h4 h5 h6 h7 ih1 ih2 =>
    intro d hd w hw
    obtain ⟨e, rfl⟩ : ∃ e, d = e + 1 := ⟨d - 1, by omega⟩
    have ht0 : ¬ t = 0 := by omega
    have htop := hw (t - 1) (by omega) (by omega)
    by_cases hk : xs.getD (t - 1) 0 = key
    · have ew : wayF xs lk key (e + 1) t = [(t : Int)] := by simp only [wayF]; rw [if_neg ht0, if_pos hk]
      rw [ew]
      refine ⟨fun i hi2 => ?_, fun i hi2 => ?_, fun i hi2 => ?_, fun i hi2 _ => ?_, fun j _ _ _ => ?_, ?_⟩
      · simp only [List.length_singleton] at hi2
        obtain rfl : i = 0 := by omega
        show (lo : Int) < (t : Int) ∧ (t : Int) ≤ hi
        omega
      · simp only [List.length_singleton] at hi2
        obtain rfl : i = 0 := by omega
        exact htop
      · simp at hi2
      · simp only [List.length_singleton] at hi2 ⊢; omega
      · exact ⟨by simp, hk⟩
      · simp; omega
    · -- the rest of the way
      have rest : ∀ (lo' hi' c : Nat), WayOk wt xs key lo' hi' (wt (xs.getD (t - 1) 0)) (wayF xs lk key e c) → lo ≤ lo' → hi' ≤ hi → (∀ j, lo' ≤ j → j < hi' → j ≠ t - 1) → (∀ j, lo ≤ j → j < hi → xs.getD j 0 = key → lo' ≤ j ∧ j < hi') → WayOk wt xs key lo hi w ((t : Int) :: wayF xs lk key e c) := by
        intro lo' hi' c W g1 g2 g3 g4
        have g5 : ∀ i, i < (wayF xs lk key e c).length → wt (xs.getD (((wayF xs lk key e c).getD i 0).toNat - 1) 0) < wt (xs.getD (t - 1) 0) := by
          intro i hi2
          have a := W.rng i hi2
          have b := W.top i hi2
          rcases Int.lt_or_eq_of_le b with b | b
          · exact b
          · have := hinj _ _ (by omega) (by omega) b
            have := g3 (((wayF xs lk key e c).getD i 0).toNat - 1) (by omega) (by omega)
            omega
        refine ⟨fun i hi2 => ?_, fun i hi2 => ?_, fun i hi2 => ?_, fun i hi2 he => ?_, fun j j1 j2 j3 => ?_, ?_⟩
        · cases i with
          | zero => show (lo : Int) < (t : Int) ∧ (t : Int) ≤ hi; omega
          | succ i =>
            have := W.rng i (by simpa using hi2)
            show (lo : Int) < (wayF xs lk key e c).getD i 0 ∧ (wayF xs lk key e c).getD i 0 ≤ hi
            omega
        · cases i with
          | zero => exact htop
          | succ i =>
            have := g5 i (by simpa using hi2)
            show wt (xs.getD (((wayF xs lk key e c).getD i 0).toNat - 1) 0) ≤ w
            omega
        · cases i with
          | zero => exact g5 0 (by simpa using hi2)
          | succ i => exact W.fall i (by simpa using hi2)
        · cases i with
          | zero => exact absurd he hk
          | succ i =>
            have := W.last i (by simpa using hi2) he
            simp only [List.length_cons]; omega
        · obtain ⟨k1, k2⟩ := g4 j j1 j2 j3
          obtain ⟨m1, m2⟩ := W.met j k1 k2 j3
          refine ⟨by simp, ?_⟩
          simp only [List.length_cons, Nat.add_sub_cancel]
          obtain ⟨q, hq⟩ : ∃ q, (wayF xs lk key e c).length = q + 1 := ⟨_, (Nat.succ_pred_eq_of_pos m1).symm⟩
          rw [hq] at m2 ⊢
          exact m2
        · simp only [List.length_cons]; omega
      by_cases hlt : key < xs.getD (t - 1) 0
      · have ew : wayF xs lk key (e + 1) t = (t : Int) :: wayF xs lk key e l := by simp only [wayF]; rw [if_neg ht0, if_neg hk, if_pos hlt, Nat.add_zero, h4, Int.toNat_natCast]
        rw [ew]
        refine rest lo (t - 1) l (ih1 (by omega) e (by omega) _ (fun j a b => ((h3 j a (by omega)).2))) (Nat.le_refl _) (by omega) (fun j _ _ => by omega) (fun j j1 j2 j3 => ⟨j1, ?_⟩)
        rcases Nat.lt_or_ge j (t - 1) with c | c
        · exact c
        · exfalso
          by_cases e2 : j = t - 1
          · subst e2; exact hk j3
          · have := rises_lt hr (i := t - 1) (j := j) (by omega) (by omega); omega
      · have ew : wayF xs lk key (e + 1) t = (t : Int) :: wayF xs lk key e r := by simp only [wayF]; rw [if_neg ht0, if_neg hk, if_neg hlt, h5, Int.toNat_natCast]
        rw [ew]
        refine rest t hi r (ih2 hh e (by omega) _ (fun j a b => ((h3 j (by omega) b).2))) (by omega) (Nat.le_refl _) (fun j _ _ => by omega) (fun j j1 j2 j3 => ⟨?_, j2⟩)
        rcases Nat.lt_or_ge j t with c | c
        · exfalso
          by_cases e2 : j = t - 1
          · subst e2; exact hk j3
          · have := rises_lt hr (i := j) (j := t - 1) (by omega) (by omega); omega
        · exact c
theorem way_law {bf : Int → Int → Bool} {wt : Int → Int} (hwt : ∀ a b, bf a b = decide (wt b < wt a)) {xs : List Int} (hinj : ∀ i j, i < xs.length → j < xs.length → wt (xs.getD i 0) = wt (xs.getD j 0) → i = j) (hr : rises xs) (key : Int) : ∃ w, WayOk wt xs key 0 xs.length w (wayB bf xs key) := by
  have hT := build_tr hwt (xs := xs)
  have hm : ∀ n, n ≤ xs.length → ∃ w, ∀ j, j < n → wt (xs.getD j 0) ≤ w := by
    intro n
    induction n with
    | zero => intro _; exact ⟨0, fun j h => by omega⟩
    | succ n ih =>
      intro hn
      obtain ⟨w, hw⟩ := ih (by omega)
      refine ⟨max w (wt (xs.getD n 0)), fun j hj => ?_⟩
      by_cases e : j = n
      · subst e; omega
      · have := hw j (by omega); omega
  obtain ⟨w, hw⟩ := hm xs.length (Nat.le_refl _)
  exact ⟨w, way_tr hinj hr hT (Nat.le_refl _) _ (by omega) w (fun j _ h => hw j h)⟩
end Go.Proofs.YtlcpcgdecodjfaaGreatDoor
namespace Go.Proofs.YtlcpcgdecodjfaaGreatDoor
open Go.RowKit Go.Proofs.YtlcpcgdecodjfaaGreatDoor.Am
set_option linter.unusedVariables false
set_option linter.unusedSimpArgs false

def eCnF (cn : Int → Int) : Entry := ⟨22, 3, fun l => match l with
  | [.v (.int .u64 a)] => some (some (U64 a), .v (.int .u64 (cn a)), [])
  | _ => none⟩
structure OrdG (bf : Int → Int → Bool) (wf : Int → Int) (wb : Int → Bool) (rf : Int → Int) (ls : Int → Int → Bool) (cn wt : Int → Int) : Prop where
  F : OrdF bf wf wb rf ls
  canon : (eCnF cn).ok Tryz.prog glM
  hwt : ∀ a b, bf a b = decide (wt b < wt a)
  winj : ∀ a b, U64 a → U64 b → wt a = wt b → a = b
  cnr : ∀ key r, U64 key → U64 r → wb r = true → (wf r = cn key ↔ r = rf key)
noncomputable def ctxOrW (P : Program) (bf : Int → Int → Bool) (wf : Int → Int) (wb : Int → Bool) (rf : Int → Int) (ls : Int → Int → Bool) (cn : Int → Int) : Ctx := ctx P glM [eAwk13, eConf13, eStateK, eEnc4 bf rf, eKey13, eApplyO bf wf wb rf, eAtO bf wf wb, eWayO bf wb rf, eRk rf, eBf bf, eCnF cn] [] (noEq P) [] (fun _ h => by cases h)
theorem ctxOrW_good {bf : Int → Int → Bool} {wf : Int → Int} {wb : Int → Bool} {rf : Int → Int} {ls : Int → Int → Bool} {cn wt : Int → Int} (G : OrdG bf wf wb rf ls cn wt) : (ctxOrW Tryz.prog bf wf wb rf ls cn).good :=
  ctx_good (by kernel_rfl) (AllOk.mem ⟨eAwk13_ok G.F.H G.hwt G.F.K, entry_lift eConf13_ok, entry_lift eStateK_ok, entry_lift G.F.enc, entry_lift eKey13_ok, eApplyO_ok G.F.H, eAtO_ok G.F.H G.hwt, eWayO_ok G.F.H G.hwt, G.F.H.rk, G.F.H.bf, G.canon, trivial⟩) glM_two
theorem wayF_len (xs lk : List Int) (key : Int) : ∀ d t, (wayF xs lk key d t).length ≤ d
  | 0, t => by simp [wayF]
  | d + 1, t => by
    simp only [wayF]
    split
    · simp
    · split
      · simp
      · simp only [List.length_cons]
        have := wayF_len xs lk key d (lk.getD ((t - 1) * 2 + if key < xs.getD (t - 1) 0 then 0 else 1) 0).toNat
        omega
theorem wayB_len (bf : Int → Int → Bool) (xs : List Int) (key : Int) : (wayB bf xs key).length ≤ xs.length := wayF_len _ _ _ _ _
attribute [local irreducible] appR atRR keyW ipick wordsO ordDo stK entK atR rkL wayR wayB rk
end Go.Proofs.YtlcpcgdecodjfaaGreatDoor
namespace Go.Proofs.YtlcpcgdecodjfaaGreatDoor
open Go.RowKit Go.Proofs.YtlcpcgdecodjfaaGreatDoor.Am
set_option linter.unusedVariables false
set_option linter.unusedSimpArgs false

theorem fold_inj {X Y s : Nat} (hX : X < 18446744073709551616) (hY : Y < 18446744073709551616) (hs : 0 < s) (h : X ^^^ X / 2 ^ s = Y ^^^ Y / 2 ^ s) : X = Y := by
  have hb : ∀ (k i : Nat), 64 ≤ i + k → X.testBit i = Y.testBit i := by
    intro k
    induction k using Nat.strongRecOn with
    | _ k ih =>
      intro i hi
      by_cases h64 : 64 ≤ i
      · rw [Nat.testBit_lt_two_pow (Nat.lt_of_lt_of_le hX (by rw [show (18446744073709551616 : Nat) = 2 ^ 64 by rfl]; exact Nat.pow_le_pow_right (by decide) h64)), Nat.testBit_lt_two_pow (Nat.lt_of_lt_of_le hY (by rw [show (18446744073709551616 : Nat) = 2 ^ 64 by rfl]; exact Nat.pow_le_pow_right (by decide) h64))]
      · have h2 := ih (k - 1) (by omega) (i + s) (by omega)
        have h3 := congrArg (fun n => Nat.testBit n i) h
        simp only [Nat.testBit_xor, ← Nat.shiftRight_eq_div_pow, Nat.testBit_shiftRight] at h3
        rw [Nat.add_comm s i, h2] at h3
        revert h3
        cases X.testBit i <;> cases Y.testBit i <;> cases Y.testBit (i + s) <;> simp
  exact Nat.eq_of_testBit_eq fun i => hb 64 i (by omega)
theorem times_inj {X Y C D : Nat} (hX : X < 18446744073709551616) (hY : Y < 18446744073709551616) (hCD : C * D % 18446744073709551616 = 1) (h : X * C % 18446744073709551616 = Y * C % 18446744073709551616) : X = Y := by
  have key : ∀ Z, Z < 18446744073709551616 → (Z * C % 18446744073709551616) * D % 18446744073709551616 = Z := by
    intro Z hZ
    rw [Nat.mod_mul_mod, Nat.mul_assoc, Nat.mul_mod, hCD, Nat.mul_one, Nat.mod_mod, Nat.mod_eq_of_lt hZ]
  rw [← key X hX, ← key Y hY, h]
theorem mixF_nat {X : Nat} (s : Nat) (hs : s ≤ 64) (hX : X < 18446744073709551616) : mixF (X : Int) (s : Int) = ((X ^^^ X / 2 ^ s : Nat) : Int) := by
  unfold mixF
  rw [Int.toNat_natCast, Nat.min_eq_left (show s ≤ IntKind.u64.bits from hs), Int.fdiv_eq_ediv_of_nonneg _ (by exact_mod_cast Nat.zero_le _)]
  have := xorShift_u64 X (2 ^ s) hX
  rw [← this]; congr 2
theorem xor_lt {X : Nat} (s : Nat) (hX : X < 18446744073709551616) : X ^^^ X / 2 ^ s < 18446744073709551616 :=
  Nat.xor_lt_two_pow (n := 64) hX (Nat.lt_of_le_of_lt (Nat.div_le_self _ _) hX)
theorem mixR_nat {X : Nat} (s C : Nat) (hs : s ≤ 64) (hX : X < 18446744073709551616) : mixR (X : Int) (s : Int) (C : Int) = (((X ^^^ X / 2 ^ s) * C % 18446744073709551616 : Nat) : Int) := by
  unfold mixR
  rw [mixF_nat s hs hX, IntKind.wrap_u64, Int.natCast_emod, Int.natCast_mul]; rfl
theorem iMix_inj {a b : Int} (ha : U64 a) (hb : U64 b) (h : iMix a = iMix b) : a = b := by
  obtain ⟨X, rfl⟩ := Int.eq_ofNat_of_zero_le ha.1
  obtain ⟨Y, rfl⟩ := Int.eq_ofNat_of_zero_le hb.1
  have hX : X < 18446744073709551616 := by have := ha.2; omega
  have hY : Y < 18446744073709551616 := by have := hb.2; omega
  rw [← rMix_i, ← rMix_i] at h
  unfold rMix at h
  have m1 : ∀ Z : Nat, Z < 18446744073709551616 → mixR (Z : Int) 30 13787848793156543929 = (((Z ^^^ Z / 2 ^ 30) * 13787848793156543929 % 18446744073709551616 : Nat) : Int) := fun Z hZ => mixR_nat 30 13787848793156543929 (by omega) hZ
  have m2 : ∀ Z : Nat, Z < 18446744073709551616 → mixR (Z : Int) 27 10723151780598845931 = (((Z ^^^ Z / 2 ^ 27) * 10723151780598845931 % 18446744073709551616 : Nat) : Int) := fun Z hZ => mixR_nat 27 10723151780598845931 (by omega) hZ
  have m3 : ∀ Z : Nat, Z < 18446744073709551616 → mixF (Z : Int) 31 = ((Z ^^^ Z / 2 ^ 31 : Nat) : Int) := fun Z hZ => mixF_nat 31 (by omega) hZ
  have lt : ∀ A : Nat, A % 18446744073709551616 < 18446744073709551616 := fun A => Nat.mod_lt _ (by decide)
  rw [m1 X hX, m1 Y hY, m2 _ (lt _), m2 _ (lt _), m3 _ (lt _), m3 _ (lt _)] at h
  have h1 := fold_inj (lt _) (lt _) (by decide) (Int.ofNat.inj h)
  have h2 := times_inj (D := 3573116690164977347) (xor_lt 27 (lt _)) (xor_lt 27 (lt _)) (by decide +kernel) h1
  have h3 := fold_inj (lt _) (lt _) (by decide) h2
  have h4 := times_inj (D := 10871156337175269513) (xor_lt 30 hX) (xor_lt 30 hY) (by decide +kernel) h3
  rw [fold_inj hX hY (by decide) h4]
end Go.Proofs.YtlcpcgdecodjfaaGreatDoor
namespace Go.Proofs.YtlcpcgdecodjfaaGreatDoor
open Go.RowKit Go.Proofs.YtlcpcgdecodjfaaGreatDoor.Am
set_option linter.unusedVariables false
set_option linter.unusedSimpArgs false

theorem eCnF_ok : (eCnF iCanon).ok Tryz.prog glM := entry_lift eCanon_ok
theorem ordG : OrdG bBefore iWord bWordOk iRank bLess iCanon iMix where
  F := ordF
  canon := eCnF_ok
  hwt := bBefore_wt
  winj := fun a b ha hb h => iMix_inj ha hb h
  cnr := fun key r hk hr hb => ⟨fun h => by rw [← rank_word hr hb, h, p_rank_canon], fun h => by rw [h]; exact p_word hk⟩
end Go.Proofs.YtlcpcgdecodjfaaGreatDoor
namespace Go.Proofs.YtlcpcgdecodjfaaGreatDoor
open Go.RowKit Go.Proofs.YtlcpcgdecodjfaaGreatDoor.Am
set_option linter.unusedVariables false
set_option linter.unusedSimpArgs false

def eKdF (kd : Int → Int) : Entry := ⟨23, 3, fun l => match l with
  | [.v (.int .u64 a)] => some (some (U64 a), .v (.int .i64 (kd a)), [])
  | _ => none⟩
structure OrdK (bf : Int → Int → Bool) (wf : Int → Int) (wb : Int → Bool) (rf : Int → Int) (ls : Int → Int → Bool) (cn wt kd : Int → Int) : Prop where
  G : OrdG bf wf wb rf ls cn wt
  kind : (eKdF kd).ok Tryz.prog glM
  kdr : ∀ a b, U64 a → U64 b → wb a = true → wb b = true → a < b → kd (wf a) ≠ 3
  zer : ∀ a, U64 a → wb a = true → wf a ≠ 9223372036854775808
  can : ∀ a, U64 a → wb a = true → cn (wf a) = wf a
noncomputable def ctxOrY (P : Program) (heq : ∀ t, hasN [59] t = true → P.stoodInHeld t = false) (bf : Int → Int → Bool) (wf : Int → Int) (wb : Int → Bool) (rf : Int → Int) (ls : Int → Int → Bool) (cn kd : Int → Int) : Ctx := ctx P glM [eAwk13, eConf13, eStateK, eEnc4 bf rf, eApplyO bf wf wb rf, eAtO bf wf wb, eLoadO bf rf, eCnF cn, eKdF kd, eLsF ls, eWords] [59] heq [] (fun _ h => by cases h)
theorem ctxOrY_good {bf : Int → Int → Bool} {wf : Int → Int} {wb : Int → Bool} {rf : Int → Int} {ls : Int → Int → Bool} {cn wt kd : Int → Int} (O : OrdK bf wf wb rf ls cn wt kd) : (ctxOrY Tryz.prog respEq bf wf wb rf ls cn kd).good :=
  ctx_good (by kernel_rfl) (AllOk.mem ⟨eAwk13_ok O.G.F.H O.G.hwt O.G.F.K, entry_lift eConf13_ok, entry_lift eStateK_ok, entry_lift O.G.F.enc, eApplyO_ok O.G.F.H, eAtO_ok O.G.F.H O.G.hwt, eLoadO_ok O.G.F.H, O.G.canon, O.kind, O.G.F.less, entry_lift eWords_ok, trivial⟩) glM_two
/-- Pairs from behind, so many. -/
def bkL (wf : Int → Int) (n : Nat) (xs : List Int) (c : Nat) : List Int := fl2 (fun d => wf (xs.getD ((n - 1 - d) * 2) 0)) (fun d => xs.getD ((n - 1 - d) * 2 + 1) 0) c
theorem back_law {wf rf : Int → Int} {wb : Int → Bool} {m n : Nat} {xs : List Int} (hO : OrdV wb m n xs) (ru : ∀ a, U64 a → U64 (rf a)) (wr : ∀ a, U64 a → wb (rf a) = true) (rwf : ∀ a, U64 a → wb a = true → rf (wf a) = a ∧ U64 (wf a)) :
    (ldS rf m (bkL wf n xs n) n).2.2.1 = 0 ∧ (ldS rf m (bkL wf n xs n) n).1 = n ∧ (ldS rf m (bkL wf n xs n) n).2.1 = xs ∧ AllU (bkL wf n xs n) := by
  have hw : ∀ i, i < n → rf (wf (xs.getD (i * 2) 0)) = xs.getD (i * 2) 0 ∧ U64 (wf (xs.getD (i * 2) 0)) := fun i hi => rwf _ (allU_getD hO.u _) (hO.ok i hi)
  have hl : AllU (bkL wf n xs n) := by
    have : ∀ c, c ≤ n → AllU (bkL wf n xs c) := by
      intro c
      induction c with
      | zero => intro _ x hx; cases hx
      | succ c ih =>
        intro hc x hx
        unfold bkL at hx; simp only [fl2] at hx
        rcases List.mem_append.1 hx with hx | hx
        · exact ih (by omega) x hx
        · simp only [List.mem_cons, List.not_mem_nil, or_false] at hx
          rcases hx with rfl | rfl
          · exact (hw (n - 1 - c) (by omega)).2
          · exact allU_getD hO.u _
    exact this n (Nat.le_refl _)
  have hat : ∀ i, i < n → (bkL wf n xs n).getD (i * 2) 0 = wf (xs.getD ((n - 1 - i) * 2) 0) ∧ (bkL wf n xs n).getD (i * 2 + 1) 0 = xs.getD ((n - 1 - i) * 2 + 1) 0 := fun i hi => fl2_at _ _ hi
  have h1 := ldS_has (wb := wb) ru wr (m := m) (q := n) hl hO.room (fun i j hi hj h => by
    rw [(hat i hi).1, (hat j hj).1, (hw _ (by omega)).1, (hw _ (by omega)).1] at h
    rw [(hat i hi).2, (hat j hj).2]
    have : n - 1 - i = n - 1 - j := by
      rcases Nat.lt_trichotomy (n - 1 - i) (n - 1 - j) with c | c | c
      · have := rkr hO.rise c (by omega); omega
      · exact c
      · have := rkr hO.rise c (by omega); omega
    rw [this])
  obtain ⟨a1, a2, a3⟩ := h1 n (Nat.le_refl _)
  obtain ⟨e1, e2⟩ := ordV_ext (wb := wb) (ldS_v ru wr hl n) hO (fun r v => by
    rw [a3]
    constructor
    · rintro ⟨j, hj, g1, g2⟩
      rw [(hat j hj).1, (hw _ (by omega)).1] at g1
      rw [(hat j hj).2] at g2
      exact ⟨n - 1 - j, by omega, g1.symm, g2.symm⟩
    · rintro ⟨j, hj, g1, g2⟩
      refine ⟨n - 1 - j, by omega, ?_, ?_⟩
      · rw [(hat _ (by omega)).1, show n - 1 - (n - 1 - j) = j by omega, (hw j hj).1]; exact g1.symm
      · rw [(hat _ (by omega)).2, show n - 1 - (n - 1 - j) = j by omega]; exact g2.symm)
  exact ⟨a1, e1, e2, hl⟩
attribute [local irreducible] appR atRR ipick wordsO ordDo stK entK atR rkL ldR bkL
set_option maxRecDepth 100000 in
set_option maxHeartbeats 2000000 in
theorem orderRises_pure {bf : Int → Int → Bool} {wf : Int → Int} {wb : Int → Bool} {rf : Int → Int} {ls : Int → Int → Bool} {cn wt kd : Int → Int} (O : OrdK bf wf wb rf ls cn wt kd) (room : Int) (q : Nat) (raw : List Int) (hr : I64 room) (hx : AllI raw) :
    Pure Tryz.prog glM 4 [.v (.int .i64 room), .fl [.i64, .i64, .i64] q raw] (.v (.bool true)) := by
  obtain ⟨b1, b2⟩ := ipick_bounds room (n := 12) (by omega)
  obtain ⟨m, hm⟩ : ∃ m : Nat, (m : Int) = 1 + ipick room 12 := ⟨(1 + ipick room 12).toNat, by omega⟩
  have hf : fitsB 4 1 m = true := by unfold fitsB; exact decide_eq_true (by omega)
  have hV := stK_v 4 m raw (min q 30) (by omega)
  obtain ⟨ks, hks⟩ : ∃ ks, (stK 4 m raw (min q 30)).1 = ks := ⟨_, rfl⟩
  obtain ⟨vs, hvs⟩ : ∃ vs, (stK 4 m raw (min q 30)).2 = vs := ⟨_, rfl⟩
  rw [hks, hvs] at hV
  obtain ⟨n, hn⟩ : ∃ n, ks.length = n := ⟨_, rfl⟩
  obtain ⟨hO, hri⟩ := O.G.F.ord hV hn
  obtain ⟨xs, hxs⟩ : ∃ xs, entK rf ks vs n = xs := ⟨_, rfl⟩
  rw [hxs] at hO
  obtain ⟨l1, l2, l3, l4⟩ := back_law hO O.G.F.H.ru O.G.F.H.wr O.G.F.rwf
  have aw := (open_words (bf := bf) hf hO).2.1
  have hwl := wordsO_len (bf := bf) (xs := xs) hO.room
  have h9 : ordDo wf rf m n xs 9 0 0 = (n, xs, 0, (n : Int)) := by unfold ordDo; simp
  have ap9 := appR_words (bf := bf) (wf := wf) (rf := rf) hf hO 9 0 0
  rw [h9] at ap9
  have ap9a := congrArg (fun r : List Int × Int × Int × Int => r.1) ap9
  have ap9b := congrArg (fun r : List Int × Int × Int × Int => r.2.1) ap9
  have ap9c := congrArg (fun r : List Int × Int × Int × Int => r.2.2.1) ap9
  have ap9d := congrArg (fun r : List Int × Int × Int × Int => r.2.2.2) ap9
  dsimp only at ap9a ap9b ap9c ap9d
  have hnm := hO.room
  have ecap2 : IntKind.u64.wrap (m : Int) = m := wrapU (by omega) (by omega)
  have ewn : IntKind.i64.wrap (n : Int) = n := wrap64 (by omega) (by omega)
  refine pure_of (C := ctxOrY Tryz.prog respEq bf wf wb rf ls cn kd) (ctxOrY_good O) Tryz.func4 (c := bodyOf Tryz.f4) (by rfl) (Nat.le_of_ble_eq_true (by rfl)) 4 0 [0, 1, 4, 5, 6, 7, 10, 11, 12, 13, 14, 15, 16, 18, 19, 21, 23, 24, 25, 54, 60, 113, 132] ?_
  conv => whnf
  refine And.intro hr ?_
  conv => whnf
  rw [← hm]
  refine And.intro ⟨.inr (.inr rfl), hf, hx⟩ ?_
  conv => whnf
  rw [Int.toNat_natCast, hks, hvs, hn]
  refine And.intro ⟨⟨rfl, rfl, rfl, rfl⟩, hV, hf, hri⟩ ?_
  conv => whnf
  rw [hxs]
  refine And.intro ⟨aw, by exact ⟨by omega, by omega⟩, by exact ⟨by omega, by omega⟩⟩ ?_
  conv => whnf
  rw [ap9b, ap9c, ap9d]
  conv => whnf
  rw [ecap2]
  refine ifB_f (show (bif false then true else decide ((n : Int) > m)) = false from decide_eq_false (by omega)) ?_
  conv => whnf
  rw [ewn]
  refine TW.nilOwn 13 5000 2 (.fl [.u64, .u64] []) rfl rfl (.inr ⟨_, _, rfl⟩) (by decide) ?_
  refine TW.loopD (ctxOrY_good O) 0 (base := 0) (lv := [0, 1, 4, 5, 6, 7, 10, 11, 12, 13, 14, 15, 16, 18, 19, 21, 23, 24, 25, 54, 60, 113, 132]) [13, 14] [5000] [(5000, 5000)] (fun x : Nat × List Int => [.ow 5000 2 x.1, .v (.int .i64 (n - x.1 : Nat))]) (fun x => [.fl [.u64, .u64] x.2]) (fun x => x.1 ≤ n ∧ x.2 = bkL wf n xs x.1) (fun x => n - x.1) ?_
  conv => whnf
  refine ⟨⟨(0, []), ⟨rfl, rfl, rfl⟩, Nat.zero_le _, by unfold bkL; rfl⟩, fun ⟨c, l⟩ ⟨hc, hl⟩ => ?_⟩
  replace hc : c ≤ n := hc
  replace hl : l = bkL wf n xs c := hl
  conv => whnf
  refine ifB_dec (fun h => ?_) (fun h => ?_)
  · obtain ⟨i, hi⟩ : ∃ i, n - c = i + 1 := ⟨n - c - 1, by omega⟩
    have hin : i < n := by omega
    have at1 := atRR_words (bf := bf) (wf := wf) hf hO ((i + 1 : Nat) : Int)
    have at2 : atR wf n xs ((i + 1 : Nat) : Int) = (wf (xs.getD (i * 2) 0), xs.getD (i * 2 + 1) 0, 0) := by
      unfold atR; rw [if_pos ⟨by omega, by omega⟩, Int.toNat_natCast, Nat.add_sub_cancel]
    rw [at2] at at1
    have at1a := congrArg (fun r : Int × Int × Int => r.1) at1
    have at1b := congrArg (fun r : Int × Int × Int => r.2.1) at1
    have at1c := congrArg (fun r : Int × Int × Int => r.2.2) at1
    dsimp only at at1a at1b at1c
    have ur := allU_getD hO.u (i * 2)
    have okr := hO.ok i hin
    obtain ⟨hw1, hw2⟩ := O.G.F.rwf _ ur okr
    have hzer := O.zer _ ur okr
    have hcan := O.can _ ur okr
    have hgt : ∀ j, i < j → j < n → xs.getD (i * 2) 0 < xs.getD (j * 2) 0 := fun j h1 h2 => rkr hO.rise h1 h2
    have hkd : i + 1 < n → kd (wf (xs.getD (i * 2) 0)) ≠ 3 := fun h1 => O.kdr _ _ ur (allU_getD hO.u ((i + 1) * 2)) okr (hO.ok (i + 1) h1) (hgt (i + 1) (by omega) h1)
    obtain ⟨i1, i2⟩ := isO_of hO.rise hin (show xs.getD (i * 2) 0 = xs.getD (i * 2) 0 from rfl)
    have h10 : ordDo wf rf m n xs 10 (wf (xs.getD (i * 2) 0)) 0 = (n, xs, 0, xs.getD (i * 2 + 1) 0) := by unfold ordDo; rw [hw1, i2, i1]; simp
    have ap10 := appR_words (bf := bf) (wf := wf) (rf := rf) hf hO 10 (wf (xs.getD (i * 2) 0)) 0
    rw [h10] at ap10
    have hls : ∀ j, i < j → j < n → ls (wf (xs.getD (i * 2) 0)) (wf (xs.getD (j * 2) 0)) = true := fun j h1 h2 => by
      rw [O.G.F.lsr, hw1, (O.G.F.rwf _ (allU_getD hO.u _) (hO.ok j h2)).1]; exact decide_eq_true (hgt j h1 h2)
    obtain ⟨K, hK⟩ : ∃ K, wf (xs.getD (i * 2) 0) = K := ⟨_, rfl⟩
    rw [hK] at at1a hw1 hw2 hzer hcan hkd ap10 hls
    obtain ⟨B, hB⟩ : ∃ B, xs.getD (i * 2 + 1) 0 = B := ⟨_, rfl⟩
    rw [hB] at at1b ap10
    have hsnoc : l ++ [K, B] = bkL wf n xs (c + 1) := by
      rw [hl]; unfold bkL; simp only [fl2]
      rw [show n - 1 - c = i by omega, hK, hB]
    have ap10a := congrArg (fun r : List Int × Int × Int × Int => r.1) ap10
    have ap10b := congrArg (fun r : List Int × Int × Int × Int => r.2.1) ap10
    have ap10c := congrArg (fun r : List Int × Int × Int × Int => r.2.2.1) ap10
    have ap10d := congrArg (fun r : List Int × Int × Int × Int => r.2.2.2) ap10
    dsimp only at ap10a ap10b ap10c ap10d
    conv => whnf
    rw [show (((n - ((c, l) : Nat × List Int).1 : Nat) : Int)) = ((i + 1 : Nat) : Int) by dsimp only; omega]
    refine And.intro aw ?_
    conv => whnf
    rw [at1a, at1b, at1c]
    have ep2 : ∀ A B : Int, (([0, 0] : List Int).set (0 + 0 * (1 + 1) + 0) A).set (0 + 0 * (1 + 1) + (0 + 1)) B = [A, B] := fun _ _ => rfl
    rw [ep2]
    have eg : ([K, B] : List Int).getD (0 + 0 * (1 + 1)) 0 = K := rfl
    repeat (refine And.intro (by omega) ?_; conv => whnf)
    refine ifB_f (show (bif false then true else ([K, B] : List Int).getD (0 + 0 * (1 + 1)) 0 == 9223372036854775808) = false from beq_eq_false_iff_ne.2 hzer) ?_
    conv => whnf
    repeat (refine And.intro (by omega) ?_; conv => whnf)
    rw [eg]
    refine And.intro hw2 ?_
    conv => whnf
    rw [hcan]
    repeat (refine And.intro (by omega) ?_; conv => whnf)
    rw [eg]
    refine ifB_f (show (bif false then true else (K != K)) = false from bne_self_eq_false K) ?_
    conv => whnf
    repeat (refine And.intro (by omega) ?_; conv => whnf)
    rw [eg]
    refine And.intro hw2 ?_
    conv => whnf
    by_cases hk3 : kd K = 3
    · have hin1 : ¬ i + 1 < n := fun h1 => hkd h1 hk3
      refine ifB_t (show (kd K == 3) = true from beq_iff_eq.2 hk3) ?_
      conv => whnf
      refine ifB_f (show (bif false then true else bif true then decide (((i + 1 : Nat) : Int) < n) else false) = false from decide_eq_false (by omega)) ?_
      conv => whnf
      have hc0 : ¬ 0 < c := by omega
      refine ifB_f (show decide ((((c, l) : Nat × List Int).1 : Int) > 0) = false from decide_eq_false (by dsimp only; omega)) ?_
      (conv => whnf
       repeat (refine And.intro (by omega) ?_; conv => whnf)
       rw [eg]
       refine And.intro ⟨aw, hw2, by exact ⟨by omega, by omega⟩⟩ ?_
       conv => whnf
       rw [ap10b, ap10c, ap10d]
       conv => whnf
       repeat (refine And.intro (by omega) ?_; conv => whnf)
       have eg2 : ([K, B] : List Int).getD (0 + 1 + 0 * (1 + 1)) 0 = B := rfl
       refine ifB_f (show (bif false then true else !((0 : Int) == 0 && (B == ([K, B] : List Int).getD (0 + 1 + 0 * (1 + 1)) 0 && true))) = false by rw [eg2]; simp) ?_
       conv => whnf
       repeat (refine And.intro (by omega) ?_; conv => whnf)
       have ewi : IntKind.i64.wrap (((i + 1 : Nat) : Int) - 1) = ((n - (c + 1) : Nat) : Int) := by rw [wrap64 (by omega) (by omega)]; omega
       rw [ewi]
       exact ⟨(c + 1, l ++ [K, B]), [(544, 5000)], ⟨rfl, rfl, rfl⟩, ⟨(by omega : c + 1 ≤ n), hsnoc⟩, by dsimp only; omega⟩)
    · refine ifB_f (show (kd K == 3) = false from beq_eq_false_iff_ne.2 hk3) ?_
      conv => whnf
      (by_cases hc0 : 0 < c
       · refine ifB_t (show decide ((((c, l) : Nat × List Int).1 : Int) > 0) = true from decide_eq_true (by dsimp only; omega)) ?_
         have hprev : l.getD ((c - 1) * 2) 0 = wf (xs.getD ((i + 1) * 2) 0) := by
           rw [hl]; unfold bkL
           rw [(fl2_at (fun d => wf (xs.getD ((n - 1 - d) * 2) 0)) (fun d => xs.getD ((n - 1 - d) * 2 + 1) 0) (show c - 1 < c by omega)).1, show n - 1 - (c - 1) = i + 1 by omega]
         have hprevU : U64 (wf (xs.getD ((i + 1) * 2) 0)) := (O.G.F.rwf _ (allU_getD hO.u _) (hO.ok (i + 1) (by omega))).2
         have ewc : IntKind.i64.wrap ((((c, l) : Nat × List Int).1 : Int) - 1) = ((c - 1 : Nat) : Int) := by dsimp only; rw [wrap64 (by omega) (by omega)]; omega
         have egc : l.getD (0 + addN 0 ((c - 1 : Nat) : Int).toNat * (1 + 1)) 0 = wf (xs.getD ((i + 1) * 2) 0) := by rw [← hprev, addN_eq, Int.toNat_natCast]; congr 1; omega
         conv => whnf
         repeat (refine And.intro (by omega) ?_; conv => whnf)
         rw [ewc]
         repeat (refine And.intro (by omega) ?_; conv => whnf)
         refine And.intro ⟨hw2, by show U64 (l.getD _ 0); rw [egc]; exact hprevU⟩ ?_
         conv => whnf
         refine ifB_f (show (bif false then true else bif true then !ls (([K, B] : List Int).getD (0 + 0 * (1 + 1)) 0) (((c, l) : Nat × List Int).2.getD (0 + addN 0 ((c - 1 : Nat) : Int).toNat * (1 + 1)) 0) else false) = false by rw [eg, show ((c, l) : Nat × List Int).2.getD (0 + addN 0 ((c - 1 : Nat) : Int).toNat * (1 + 1)) 0 = _ from egc, hls (i + 1) (by omega) (by omega)]; rfl) ?_
         (conv => whnf
          repeat (refine And.intro (by omega) ?_; conv => whnf)
          rw [eg]
          refine And.intro ⟨aw, hw2, by exact ⟨by omega, by omega⟩⟩ ?_
          conv => whnf
          rw [ap10b, ap10c, ap10d]
          conv => whnf
          repeat (refine And.intro (by omega) ?_; conv => whnf)
          have eg2 : ([K, B] : List Int).getD (0 + 1 + 0 * (1 + 1)) 0 = B := rfl
          refine ifB_f (show (bif false then true else !((0 : Int) == 0 && (B == ([K, B] : List Int).getD (0 + 1 + 0 * (1 + 1)) 0 && true))) = false by rw [eg2]; simp) ?_
          conv => whnf
          repeat (refine And.intro (by omega) ?_; conv => whnf)
          have ewi : IntKind.i64.wrap (((i + 1 : Nat) : Int) - 1) = ((n - (c + 1) : Nat) : Int) := by rw [wrap64 (by omega) (by omega)]; omega
          rw [ewi]
          exact ⟨(c + 1, l ++ [K, B]), [(544, 5000)], ⟨rfl, rfl, rfl⟩, ⟨(by omega : c + 1 ≤ n), hsnoc⟩, by dsimp only; omega⟩)
       · refine ifB_f (show decide ((((c, l) : Nat × List Int).1 : Int) > 0) = false from decide_eq_false (by dsimp only; omega)) ?_
         (conv => whnf
          repeat (refine And.intro (by omega) ?_; conv => whnf)
          rw [eg]
          refine And.intro ⟨aw, hw2, by exact ⟨by omega, by omega⟩⟩ ?_
          conv => whnf
          rw [ap10b, ap10c, ap10d]
          conv => whnf
          repeat (refine And.intro (by omega) ?_; conv => whnf)
          have eg2 : ([K, B] : List Int).getD (0 + 1 + 0 * (1 + 1)) 0 = B := rfl
          refine ifB_f (show (bif false then true else !((0 : Int) == 0 && (B == ([K, B] : List Int).getD (0 + 1 + 0 * (1 + 1)) 0 && true))) = false by rw [eg2]; simp) ?_
          conv => whnf
          repeat (refine And.intro (by omega) ?_; conv => whnf)
          have ewi : IntKind.i64.wrap (((i + 1 : Nat) : Int) - 1) = ((n - (c + 1) : Nat) : Int) := by rw [wrap64 (by omega) (by omega)]; omega
          rw [ewi]
          exact ⟨(c + 1, l ++ [K, B]), [(544, 5000)], ⟨rfl, rfl, rfl⟩, ⟨(by omega : c + 1 ≤ n), hsnoc⟩, by dsimp only; omega⟩))
  · obtain rfl : c = n := by omega
    subst hl
    have atA := atRR_words (bf := bf) (wf := wf) hf hO ((c + 1 : Nat) : Int)
    have atB := atRR_words (bf := bf) (wf := wf) hf hO 0
    rw [show atR wf c xs ((c + 1 : Nat) : Int) = (0, 0, 1) by unfold atR; rw [if_neg (by omega)]] at atA
    rw [show atR wf c xs 0 = (0, 0, 1) by unfold atR; rw [if_neg (by omega)]] at atB
    have atA1 := congrArg (fun r : Int × Int × Int => r.2.2) atA
    have atB1 := congrArg (fun r : Int × Int × Int => r.2.2) atB
    dsimp only at atA1 atB1
    have hld : ldR bf rf 4 1 (m : Int) (bkL wf c xs c) c = (wordsO bf m c xs, 0) := by
      unfold ldR
      rw [if_pos ⟨hf, rfl⟩, Int.toNat_natCast, if_pos l1, l2, l3]
    have hld1 := congrArg (fun r : List Int × Int => r.1) hld
    have hld2 := congrArg (fun r : List Int × Int => r.2) hld
    dsimp only at hld1 hld2
    have ew1 : IntKind.i64.wrap ((c : Int) + 1) = ((c + 1 : Nat) : Int) := wrap64 (by omega) (by omega)
    conv => whnf
    rw [ew1]
    refine And.intro aw ?_
    conv => whnf
    rw [atA1]
    refine And.intro aw ?_
    conv => whnf
    rw [atB1]
    refine And.intro l4 ?_
    conv => whnf
    rw [hld1, hld2]
    conv => whnf
    exact congrArg (fun b => T.v (Value.bool b)) (decide_eq_true rfl)
end Go.Proofs.YtlcpcgdecodjfaaGreatDoor
namespace Go.Proofs.YtlcpcgdecodjfaaGreatDoor
open Go.RowKit Go.Proofs.YtlcpcgdecodjfaaGreatDoor.Am
set_option linter.unusedVariables false
set_option linter.unusedSimpArgs false

theorem kind_pure (a : Int) (ha : U64 a) : Pure Tryz.prog glR 23 [.v (.int .u64 a)] (.v (.int .i64 (iKind a))) := pure_v1 rfl rfl fun w _ => (kind_any a ha w).mono (by rintro e w' ⟨rfl, rfl⟩; exact ⟨rfl, Below.refl _ _⟩)
def eKind : Entry := ⟨23, 3, fun l => match l with | [.v (.int .u64 a)] => some (some (U64 a), .v (.int .i64 (iKind a)), []) | _ => none⟩
theorem eKind_ok : eKind.ok Tryz.prog glR := ⟨Am.enters_of Tryz.func23 (by kernel_rfl) (by kernel_rfl), by
  intro args c t bs h hc
  simp only [eKind] at h
  split at h <;> cases h
  replace hc := hc _ rfl
  exact kind_pure _ hc⟩
theorem eKdF_ok : (eKdF iKind).ok Tryz.prog glM := entry_lift eKind_ok
theorem word_canon {a : Int} (hb : bWordOk a = true) : iCanon (iWord a) = iWord a := by
  unfold bWordOk at hb
  have h2 : Flt.canon (Flt.back a.toNat) = Flt.back a.toNat := by
    unfold Flt.wordOk at hb
    exact (of_decide_eq_true hb).1
  unfold iCanon iWord Flt.word
  rw [if_pos hb, Int.toNat_natCast, h2]
theorem ordK : OrdK bBefore iWord bWordOk iRank bLess iCanon iMix iKind where
  G := ordG
  kind := eKdF_ok
  kdr := fun a b ha hb wa wb h e => by
    have h1 := (p_rank_le (u64_word ha)).2.2 e
    have h2 := (p_rank_le (u64_word hb)).1
    rw [rank_word ha wa] at h1
    rw [rank_word hb wb] at h2
    omega
  zer := fun a ha wa h => by
    have := word_canon wa
    rw [h] at this
    revert this
    decide +kernel
  can := fun a ha wa => word_canon wa
theorem orderRises_walk (w : World) (hg : GlP glM w) (room : Int) (hr : I64 room) (a2 : Option Addr) (len2 cap2 : Nat) (st : List Int) (s2 : SlFl [.i64, .i64, .i64] w a2 len2 cap2 st) :
    Calls Tryz.prog 4 #[.int .i64 room, .slice a2 len2 cap2] w fun e w' => e = .returned (.bool true) ∧ Below w.heap.size w w' :=
  row_ofM (orderRises_pure ordK room len2 st hr (flI3 s2)) w hg (.cons (.v rfl) (.cons s2.1 .nil))
end Go.Proofs.YtlcpcgdecodjfaaGreatDoor
namespace Go.Proofs.YtlcpcgdecodjfaaGreatDoor
open Go.RowKit Go.Proofs.YtlcpcgdecodjfaaGreatDoor.Am
set_option linter.unusedVariables false
set_option linter.unusedSimpArgs false

/-- The keys and values that words may have. -/
def gks (wf : Int → Int) (w : List Int) : Nat → List Int
  | 0 => []
  | i + 1 => gks wf w i ++ [wf (w.getD (2 + 4 * i) 0)]
def gvs (w : List Int) : Nat → List Int
  | 0 => []
  | i + 1 => gvs w i ++ [w.getD (2 + 4 * i + 1) 0]
theorem gks_len (wf : Int → Int) (w : List Int) : ∀ n, (gks wf w n).length = n
  | 0 => rfl
  | n + 1 => by simp [gks, gks_len wf w n]
theorem gvs_len (w : List Int) : ∀ n, (gvs w n).length = n
  | 0 => rfl
  | n + 1 => by simp [gvs, gvs_len w n]
theorem gks_at (wf : Int → Int) (w : List Int) {n i : Nat} (h : i < n) : (gks wf w n).getD i 0 = wf (w.getD (2 + 4 * i) 0) := by
  induction n with
  | zero => omega
  | succ n ih =>
    simp only [gks]
    by_cases e : i < n
    · rw [getD_app_l (by rw [gks_len]; exact e)]; exact ih e
    · obtain rfl : i = n := by omega
      rw [getD_app_r (by rw [gks_len]; exact Nat.le_refl _), gks_len, Nat.sub_self]; rfl
theorem gvs_at (w : List Int) {n i : Nat} (h : i < n) : (gvs w n).getD i 0 = w.getD (2 + 4 * i + 1) 0 := by
  induction n with
  | zero => omega
  | succ n ih =>
    simp only [gvs]
    by_cases e : i < n
    · rw [getD_app_l (by rw [gvs_len]; exact e)]; exact ih e
    · obtain rfl : i = n := by omega
      rw [getD_app_r (by rw [gvs_len]; exact Nat.le_refl _), gvs_len, Nat.sub_self]; rfl
theorem allU_gks {wf : Int → Int} (hw : ∀ a, U64 a → U64 (wf a)) {w : List Int} (h : AllU w) : ∀ n, AllU (gks wf w n)
  | 0 => fun x hx => by cases hx
  | n + 1 => fun x hx => by
    simp only [gks] at hx
    rcases List.mem_append.1 hx with hx | hx
    · exact allU_gks hw h n x hx
    · simp only [List.mem_singleton] at hx; subst hx; exact hw _ (allU_getD h _)
theorem allU_gvs {w : List Int} (h : AllU w) : ∀ n, AllU (gvs w n)
  | 0 => fun x hx => by cases hx
  | n + 1 => fun x hx => by
    simp only [gvs] at hx
    rcases List.mem_append.1 hx with hx | hx
    · exact allU_gvs h n x hx
    · simp only [List.mem_singleton] at hx; subst hx; exact allU_getD h _
theorem open_right {bf : Int → Int → Bool} {p m : Int} {w : List Int} (hu : AllU w) (h : OpenOk bf bWordOk 4 p m w) :
    TabV 4 m.toNat (gks iWord w (w.getD 0 0).toNat) (gvs w (w.getD 0 0).toNat) ∧ entK iRank (gks iWord w (w.getD 0 0).toNat) (gvs w (w.getD 0 0).toNat) (w.getD 0 0).toNat = unp w (w.getD 0 0).toNat := by
  obtain ⟨⟨h1, -⟩, ⟨h2, h3, h4⟩, h5, h6⟩ := h
  obtain ⟨n, hn⟩ : ∃ n, (w.getD 0 0).toNat = n := ⟨_, rfl⟩
  rw [hn] at h5 h6 ⊢
  have hb : ∀ i, i < n → bWordOk (w.getD (2 + 4 * i) 0) = true := fun i hi => by
    have := okE_mono (i := i + 1) hi h5
    simp only [okE, Bool.and_eq_true] at this
    exact this.2.1
  have hr := okE_rises h5
  have hrk : ∀ i, i < n → (rk (unp w n) n).getD i 0 = w.getD (2 + 4 * i) 0 := fun i hi => by rw [rk_getD _ hi, unp_getD w hi]
  have hw : ∀ i, i < n → iRank (iWord (w.getD (2 + 4 * i) 0)) = w.getD (2 + 4 * i) 0 := fun i hi => rank_word (allU_getD hu _) (hb i hi)
  refine ⟨⟨by rw [gks_len]; omega, by rw [gks_len, gvs_len, if_pos (show valB 4 = true by decide)], allU_gks (fun a ha => u64_word ha) hu n, allU_gvs hu n, fun i hi => ?_, fun i hi => ?_⟩, ?_⟩
  · rw [gks_len] at hi
    rw [gks_at iWord w hi, (mnt4 _).1, (mnt4 _).2]
    exact ⟨rfl, word_canon (hb i hi)⟩
  · rw [gks_len] at hi
    rw [gks_at iWord w (by omega), gks_at iWord w hi, rk4, rk4, hw i (by omega), hw _ hi]
    have := hr (i + 1) (by omega) (by rw [rk_len]; exact hi)
    rw [Nat.add_sub_cancel, hrk _ (by omega), hrk _ hi] at this
    exact this
  · symm
    refine ent_ext (unp_len w n) (fun i hi => ?_)
    rw [unp_getD w hi, gks_at iWord w hi, gvs_at w hi, hw i hi]
    refine ⟨rfl, ?_⟩
    have : ∀ n, i < n → (unp w n).getD (i * 2 + 1) 0 = w.getD (2 + 4 * i + 1) 0 := by
      intro n
      induction n with
      | zero => omega
      | succ n ih =>
        intro h
        simp only [unp]
        by_cases e : i < n
        · rw [getD_app_l (by rw [unp_len]; omega)]; exact ih e
        · obtain rfl : i = n := by omega
          rw [getD_app_r (by rw [unp_len]; omega), unp_len, show i * 2 + 1 - i * 2 = 1 by omega]; rfl
    exact this n hi
theorem right_open {bf : Int → Int → Bool} {p : Int} {m : Nat} {w : List Int} (hu : AllU w) (hf : fitsB 4 p m = true) (hl : w.length = 2 + 4 * m) (hr : TabV 4 m (gks iWord w (min m (w.getD 0 0).toNat)) (gvs w (min m (w.getD 0 0).toNat)))
    (hw : wordsO bf m (min m (w.getD 0 0).toNat) (entK iRank (gks iWord w (min m (w.getD 0 0).toNat)) (gvs w (min m (w.getD 0 0).toNat)) (min m (w.getD 0 0).toNat)) = w) : OpenOk bf bWordOk 4 p m w := by
  obtain ⟨n, hn⟩ : ∃ n, min m (w.getD 0 0).toNat = n := ⟨_, rfl⟩
  rw [hn] at hr hw
  have hO := hr.ord (gks_len iWord w n)
  have h0 : w.getD 0 0 = (n : Int) := by
    have := wst_head bf m n (entK iRank (gks iWord w n) (gvs w n) n) n hO.room
    rw [← hw]; exact this
  have hnm := hO.room
  have hat : ∀ i, i < n → w.getD (2 + 4 * i) 0 = (entK iRank (gks iWord w n) (gvs w n) n).getD (i * 2) 0 ∧ w.getD (2 + 4 * i + 1) 0 = (entK iRank (gks iWord w n) (gvs w n) n).getD (i * 2 + 1) 0 := fun i hi => by
    have := wst_ent bf m n (entK iRank (gks iWord w n) (gvs w n) n) n hnm i hi
    constructor
    · conv => lhs; rw [← hw]
      exact this.1
    · conv => lhs; rw [← hw]
      exact this.2
  have hup : unp w n = entK iRank (gks iWord w n) (gvs w n) n := by
    rw [unp_take hO.len hat n (Nat.le_refl _), List.take_of_length_le (by rw [hO.len]; exact Nat.le_refl _)]
  refine ⟨⟨hf, rfl⟩, ⟨by omega, by omega, by omega⟩, ?_, ?_⟩
  · rw [h0, Int.toNat_natCast]
    refine okE_of (fun i hi => by rw [(hat i hi).1]; exact hO.ok i hi) (fun i g0 hi => ?_)
    rw [(hat i hi).1, (hat (i - 1) (by omega)).1]
    exact rkr hO.rise (by omega) hi
  · rw [h0, Int.toNat_natCast, Int.toNat_natCast, hup]; exact hw
end Go.Proofs.YtlcpcgdecodjfaaGreatDoor
namespace Go.Proofs.YtlcpcgdecodjfaaGreatDoor
open Go.RowKit Go.Proofs.YtlcpcgdecodjfaaGreatDoor.Am
set_option linter.unusedVariables false
set_option linter.unusedSimpArgs false

def eRWd (wf : Int → Int) (wb : Int → Bool) : Entry := ⟨117, 3, fun l => match l with
  | [.v (.int .u64 a)] => some (some (U64 a), .tup [.v (.int .u64 (wf a)), .v (.bool (wb a))], [])
  | _ => none⟩
noncomputable def ctxOtC (P : Program) (wf : Int → Int) (wb : Int → Bool) : Ctx := ctx P glR [eRWd wf wb] [] (noEq P) [] (fun _ h => by cases h)
theorem gks_succ (wf : Int → Int) (w : List Int) (j : Nat) : gks wf w (j + 1) = gks wf w j ++ [wf (w.getD (2 + 4 * j) 0)] := rfl
theorem gvs_succ (w : List Int) (j : Nat) : gvs w (j + 1) = gvs w j ++ [w.getD (2 + 4 * j + 1) 0] := rfl
attribute [local irreducible] gks gvs fitsB rightT
set_option maxRecDepth 100000 in
theorem guess4_pure {wf : Int → Int} {wb : Int → Bool} (hwd : (eRWd wf wb).ok Tryz.prog glR) (p : Int) (m q n : Nat) (w : List Int) (hu : AllU w) (hm : m ≤ 256) (hq : q = 2 + 4 * m) (hn : min m (w.getD 0 0).toNat = n) :
    Pure Tryz.prog glR 98 [.agg [.v (.int .i64 4), .v (.int .i64 p), .v (.int .i64 m)], .fl [.u64] q w] (SO 0 n n 0 false) (SH (gks wf w n) (gvs w n) []) := by
  have good : (ctxOtC Tryz.prog wf wb).good := ctx_good (by kernel_rfl) (AllOk.mem ⟨hwd, trivial⟩) glR_two
  refine pure_wf fun hw => ?_
  obtain ⟨-, ⟨w1, w2⟩, -⟩ := hw
  simp only [List.length_cons, List.length_nil, Nat.zero_add, Nat.mul_one] at w1
  refine pure_of (C := ctxOtC Tryz.prog wf wb) good Tryz.func98 (c := bodyOf Tryz.f98) (by rfl) (Nat.le_of_ble_eq_true (by rfl)) 4 1 [0, 1, 2, 4, 5, 6, 7, 8, 9, 11, 12, 15, 24, 32, 45, 51, 62, 78, 89, 102] ?_
  conv => whnf
  refine TW.nilOwnB 20 1 5000 1 _ (.fl [.u64] []) rfl rfl rfl (.inr ⟨_, _, rfl⟩) (by decide) ?_
  refine TW.nilOwnB 20 2 5001 1 _ (.fl [.u64] []) rfl rfl rfl (.inr ⟨_, _, rfl⟩) (by decide) ?_
  refine TW.loopD good 1 (base := 0) (lv := [0, 1, 2, 4, 5, 6, 7, 8, 9, 11, 12, 15, 24, 32, 45, 51, 62, 78, 89, 102]) [8] [20, 5000, 5001] [(20, 20), (5000, 5000), (5001, 5001)] (fun x : Nat × List Int × List Int => [.v (.int .i64 x.1)]) (fun x => [.cs [.v (.int .u64 0), .ow 5000 1 x.1, .ow 5001 1 x.1, .v (.slice none 0 0), .v (.bool false)], .fl [.u64] x.2.1, .fl [.u64] x.2.2]) (fun x => x.1 ≤ n ∧ x.2.1 = gks wf w x.1 ∧ x.2.2 = gvs w x.1) (fun x => n - x.1) ?_
  conv => whnf
  refine ⟨⟨(0, [], []), ⟨rfl, rfl, rfl⟩, Nat.zero_le _, by unfold gks; rfl, by unfold gvs; rfl⟩, fun ⟨j, l1, l2⟩ ⟨hj, h1, h2⟩ => ?_⟩
  replace hj : j ≤ n := hj
  replace h1 : l1 = gks wf w j := h1
  replace h2 : l2 = gvs w j := h2
  have hw0 : w.getD (0 + Int.toNat 0 * (0 + 1)) 0 = w.getD 0 0 := rfl
  have u0 := allU_getD hu 0
  obtain ⟨u1, u2⟩ := id u0
  conv => whnf
  by_cases hgo : j < m ∧ (j : Int) < w.getD 0 0
  · have ewj : IntKind.u64.wrap (j : Int) = j := wrapU (by omega) (by omega)
    refine ifB_t (decide_eq_true (by omega)) ?_
    conv => whnf
    refine And.intro (by omega) ?_
    conv => whnf
    rw [hw0, ewj]
    refine ifB_t (show (bif true then decide ((j : Int) < w.getD 0 0) else false) = true from decide_eq_true hgo.2) ?_
    conv => whnf
    have e4 : IntKind.i64.wrap (4 * (j : Int)) = ((4 * j : Nat) : Int) := by rw [wrap64 (by omega) (by omega)]; omega
    have e5 : IntKind.i64.wrap (2 + ((4 * j : Nat) : Int)) = ((2 + 4 * j : Nat) : Int) := by rw [wrap64 (by omega) (by omega)]; omega
    have e6 : IntKind.i64.wrap (((2 + 4 * j : Nat) : Int) + 1) = ((2 + 4 * j + 1 : Nat) : Int) := by rw [wrap64 (by omega) (by omega)]; omega
    have ew : ∀ i : Nat, w.getD (0 + (i : Int).toNat * (0 + 1)) 0 = w.getD i 0 := fun i => by simp
    rw [e4, e5]
    refine And.intro (by omega) ?_
    conv => whnf
    rw [ew]
    refine And.intro (allU_getD hu _) ?_
    conv => whnf
    repeat (refine And.intro (by omega) ?_; conv => whnf)
    rw [e4, e5, e6]
    repeat (refine And.intro (by omega) ?_; conv => whnf)
    rw [ew]
    have ewi : IntKind.i64.wrap ((((j, l1, l2) : Nat × List Int × List Int).1 : Int) + 1) = ((j + 1 : Nat) : Int) := wrap64 (by dsimp only; omega) (by dsimp only; omega)
    rw [ewi]
    exact ⟨(j + 1, l1 ++ [wf (w.getD (2 + 4 * j) 0)], l2 ++ [w.getD (2 + 4 * j + 1) 0]), [(20, 20), (476, 5000), (524, 5001)], ⟨rfl, rfl, rfl⟩, ⟨(by omega : j + 1 ≤ n), (show l1 ++ [wf (w.getD (2 + 4 * j) 0)] = gks wf w (j + 1) by rw [h1, gks_succ]), (show l2 ++ [w.getD (2 + 4 * j + 1) 0] = gvs w (j + 1) by rw [h2, gvs_succ])⟩, by dsimp only; omega⟩
  · obtain rfl : j = n := by omega
    have ewj : IntKind.u64.wrap (j : Int) = j := wrapU (by omega) (by omega)
    subst h1
    subst h2
    by_cases hjm : j < m
    · refine ifB_t (decide_eq_true (by omega)) ?_
      conv => whnf
      refine And.intro (by omega) ?_
      conv => whnf
      rw [hw0, ewj]
      refine ifB_f (show (bif true then decide ((j : Int) < w.getD 0 0) else false) = false from decide_eq_false (by omega)) ?_
      conv => whnf
      repeat' (first | exact trivial | exact rfl | (refine And.intro ?_ ?_) | ((conv => whnf); done) | ((conv => whnf); (first | rfl | (refine congrArg (fun b => T.v (Value.bool b)) ?_; first | rfl | exact (decide_eq_true (by omega)).symm | exact (decide_eq_false (by omega)).symm | exact decide_eq_decide.2 (by omega)) | (refine congrArg (fun b => T.v (Value.int _ b)) ?_; first | rfl | omega) | omega)) | (first | rfl | (refine congrArg (fun b => T.v (Value.bool b)) ?_; first | rfl | exact (decide_eq_true (by omega)).symm | exact (decide_eq_false (by omega)).symm | exact decide_eq_decide.2 (by omega)) | (refine congrArg (fun b => T.v (Value.int _ b)) ?_; first | rfl | omega) | omega))
    · refine ifB_f (decide_eq_false (by omega)) ?_
      conv => whnf
      repeat' (first | exact trivial | exact rfl | (refine And.intro ?_ ?_) | ((conv => whnf); done) | ((conv => whnf); (first | rfl | (refine congrArg (fun b => T.v (Value.bool b)) ?_; first | rfl | exact (decide_eq_true (by omega)).symm | exact (decide_eq_false (by omega)).symm | exact decide_eq_decide.2 (by omega)) | (refine congrArg (fun b => T.v (Value.int _ b)) ?_; first | rfl | omega) | omega)) | (first | rfl | (refine congrArg (fun b => T.v (Value.bool b)) ?_; first | rfl | exact (decide_eq_true (by omega)).symm | exact (decide_eq_false (by omega)).symm | exact decide_eq_decide.2 (by omega)) | (refine congrArg (fun b => T.v (Value.int _ b)) ?_; first | rfl | omega) | omega))
def eGuess4 (wf : Int → Int) : Entry := ⟨98, 4, fun l => match l with
  | [.agg [.v (.int .i64 k), .v (.int .i64 p), .v (.int .i64 m)], .fl [.u64] q w] => some (some ((k = 4 ∧ 0 ≤ m ∧ m ≤ 256 ∧ q = 2 + 4 * m.toNat) ∧ AllU w),
      SO 0 (min m.toNat (w.getD 0 0).toNat) (min m.toNat (w.getD 0 0).toNat) 0 false, SH (gks wf w (min m.toNat (w.getD 0 0).toNat)) (gvs w (min m.toNat (w.getD 0 0).toNat)) [])
  | _ => none⟩
theorem eGuess4_ok {wf : Int → Int} {wb : Int → Bool} (hwd : (eRWd wf wb).ok Tryz.prog glR) : (eGuess4 wf).ok Tryz.prog glR := ⟨Am.enters_of Tryz.func98 (by kernel_rfl) (by kernel_rfl), by
  intro args c t bs h hc
  simp only [eGuess4] at h
  split at h <;> cases h
  rename_i k p m q w
  obtain ⟨⟨rfl, h1, h2, h3⟩, hu⟩ := hc _ rfl
  obtain ⟨m0, rfl⟩ := Int.eq_ofNat_of_zero_le h1
  rw [Int.toNat_natCast] at h3 ⊢
  exact guess4_pure hwd p m0 q _ w hu (by omega) h3 rfl⟩
def eRightF : Entry := eRightX false
theorem eRightF_ok : eRightF.ok Tryz.prog glR := eRightX_ok false
noncomputable def ctxOtE (P : Program) : Ctx := ctx P glR [eFitsT, eRightF] [] (noEq P) [] (fun _ h => by cases h)
theorem ctxOtE_good : (ctxOtE Tryz.prog).good := ctx_good (by kernel_rfl) (AllOk.mem ⟨eFitsT_ok, eRightF_ok, trivial⟩) glR_two
set_option maxRecDepth 100000 in
theorem encN4_pure (p m r : Int) (n1 n2 n3 : Nat) (ks vs ws : List Int) (c : Bool) (hf : fitsB 4 p m = true) (h1 : n1 ≤ 1000) (h2 : n2 ≤ 1000) (hu : AllU ks) (hr : rightT 4 p m r ks vs ws c = false) :
    Pure Tryz.prog glR 9 [.agg [.v (.int .i64 4), .v (.int .i64 p), .v (.int .i64 m)], ST r n1 ks n2 vs n3 ws c] (.tup [.ow 0 1 0, .v (.int .i64 1)]) [(0, .fl [.u64] [])] := by
  refine pure_of (C := ctxOtE Tryz.prog) ctxOtE_good Tryz.func9 (c := bodyOf Tryz.f9) (by rfl) (Nat.le_of_ble_eq_true (by rfl)) 4 1 [0, 1, 2, 3, 4, 5, 6, 7, 10, 14, 21, 22, 27, 35, 43] ?_
  conv => whnf
  refine And.intro hf ?_
  conv => whnf
  refine And.intro ⟨⟨.inr (.inr rfl), hu, h1, h2⟩, hr⟩ ?_
  conv => whnf
  repeat' (first | exact trivial | exact rfl | (refine And.intro ?_ ?_) | ((conv => whnf); done) | ((conv => whnf); (first | rfl | (refine congrArg (fun b => T.v (Value.bool b)) ?_; first | rfl | exact (decide_eq_true (by omega)).symm | exact (decide_eq_false (by omega)).symm | exact decide_eq_decide.2 (by omega)) | (refine congrArg (fun b => T.v (Value.int _ b)) ?_; first | rfl | omega) | omega)) | (first | rfl | (refine congrArg (fun b => T.v (Value.bool b)) ?_; first | rfl | exact (decide_eq_true (by omega)).symm | exact (decide_eq_false (by omega)).symm | exact decide_eq_decide.2 (by omega)) | (refine congrArg (fun b => T.v (Value.int _ b)) ?_; first | rfl | omega) | omega))
def eEncN4 : Entry := ⟨9, 4, fun l => match l.map fixS with
  | [.agg [.v (.int .i64 k), .v (.int .i64 p), .v (.int .i64 m)], .agg [.v (.int .u64 r), .fl [.u64] n ks, .fl [.u64] n2 vs, .fl [.i64] n3 ws, .v (.bool c)]] =>
    some (some ((k = 4 ∧ n ≤ 1000 ∧ n2 ≤ 1000) ∧ AllU ks ∧ fitsB 4 p m = true ∧ rightT 4 p m r ks vs ws c = false), .tup [.ow 0 1 0, .v (.int .i64 1)], [(0, .fl [.u64] [])])
  | _ => none⟩
theorem eEncN4_ok : eEncN4.ok Tryz.prog glR := ⟨Am.enters_of Tryz.func9 (by kernel_rfl) (by kernel_rfl), by
  intro args c t bs h hc
  simp only [eEncN4] at h
  split at h <;> cases h
  rename_i k p m r n ks n2 vs n3 ws c heq
  obtain ⟨⟨rfl, h1, h2⟩, hu, hf, hr⟩ := hc _ rfl
  refine pure_fixS ?_
  rw [heq]
  exact encN4_pure p m r n n2 n3 ks vs ws c hf h1 h2 hu hr⟩
end Go.Proofs.YtlcpcgdecodjfaaGreatDoor
namespace Go.Proofs.YtlcpcgdecodjfaaGreatDoor
open Go.RowKit Go.Proofs.YtlcpcgdecodjfaaGreatDoor.Am
set_option linter.unusedVariables false
set_option linter.unusedSimpArgs false

attribute [local irreducible] gks gvs fitsB rightT wordsO entK OpenOk
noncomputable def ctxOtD0 (P : Program) : Ctx := ctx P glR [eFitsT] [] (noEq P) [] (fun _ h => by cases h)
theorem ctxOtD0_good : (ctxOtD0 Tryz.prog).good := ctx_good (by kernel_rfl) (AllOk.mem ⟨eFitsT_ok, trivial⟩) glR_two
set_option maxRecDepth 100000 in
theorem rhome4_pure (p : Int) (m : Nat) (hf : fitsB 4 p m = true) : Pure Tryz.prog glR 97 [.agg [.v (.int .i64 4), .v (.int .i64 p), .v (.int .i64 m)]] (.v (.int .i64 (2 + 4 * m : Nat))) := by
  have hm := fitsK hf
  have e1 : IntKind.i64.wrap (4 * (m : Int)) = ((4 * m : Nat) : Int) := by rw [wrap64 (by omega) (by omega)]; omega
  have e2 : IntKind.i64.wrap (2 + ((4 * m : Nat) : Int)) = ((2 + 4 * m : Nat) : Int) := by rw [wrap64 (by omega) (by omega)]; omega
  refine pure_of (C := ctxOtD0 Tryz.prog) ctxOtD0_good Tryz.func97 (c := bodyOf Tryz.f97) (by rfl) (Nat.le_of_ble_eq_true (by rfl)) 4 1 [0, 1, 2, 5, 7, 8, 10, 16, 22] ?_
  conv => whnf
  refine And.intro hf ?_
  conv => whnf
  rw [e1, e2]
def eRHome4 : Entry := ⟨97, 3, fun l => match l with | [.agg [.v (.int .i64 k), .v (.int .i64 p), .v (.int .i64 m)]] => some (some (k = 4 ∧ 0 ≤ m ∧ fitsB 4 p m = true), .v (.int .i64 (2 + 4 * m.toNat : Nat)), []) | _ => none⟩
theorem eRHome4_ok : eRHome4.ok Tryz.prog glR := ⟨Am.enters_of Tryz.func97 (by kernel_rfl) (by kernel_rfl), by
  intro args c t bs h hc
  simp only [eRHome4] at h
  split at h <;> cases h
  replace hc := hc _ rfl
  exact (by obtain ⟨rfl, h1, h2⟩ := hc; rename_i m; obtain ⟨m0, rfl⟩ := Int.eq_ofNat_of_zero_le h1; exact rhome4_pure _ m0 h2)⟩
/-- What words that may be an order's make of a state. -/
structure OrdD (bf : Int → Int → Bool) (wf : Int → Int) (wb : Int → Bool) (rf : Int → Int) : Prop where
  wd : (eRWd wf wb).ok Tryz.prog glR
  enc : (eEnc4 bf rf).ok Tryz.prog glR
  uw : ∀ a, U64 a → U64 (wf a)
  ris : ∀ {m n : Nat} {ks vs : List Int}, TabV 4 m ks vs → ks.length = n → rises (rkL rf ks n)
  yes : ∀ {p m : Int} {w : List Int}, AllU w → OpenOk bf wb 4 p m w → TabV 4 m.toNat (gks wf w (w.getD 0 0).toNat) (gvs w (w.getD 0 0).toNat) ∧ entK rf (gks wf w (w.getD 0 0).toNat) (gvs w (w.getD 0 0).toNat) (w.getD 0 0).toNat = unp w (w.getD 0 0).toNat
  no : ∀ {p : Int} {m : Nat} {w : List Int}, AllU w → fitsB 4 p m = true → w.length = 2 + 4 * m → TabV 4 m (gks wf w (min m (w.getD 0 0).toNat)) (gvs w (min m (w.getD 0 0).toNat)) → wordsO bf m (min m (w.getD 0 0).toNat) (entK rf (gks wf w (min m (w.getD 0 0).toNat)) (gvs w (min m (w.getD 0 0).toNat)) (min m (w.getD 0 0).toNat)) = w → OpenOk bf wb 4 p m w
noncomputable def ctxOtY (P : Program) (bf : Int → Int → Bool) (wf : Int → Int) (rf : Int → Int) : Ctx := ctx P glR [eFitsT, eRHome4, eGuess4 wf, eEnc4 bf rf, eWords] [] (noEq P) [] (fun _ h => by cases h)
theorem ctxOtY_good {bf : Int → Int → Bool} {wf : Int → Int} {wb : Int → Bool} {rf : Int → Int} (D : OrdD bf wf wb rf) : (ctxOtY Tryz.prog bf wf rf).good := ctx_good (by kernel_rfl) (AllOk.mem ⟨eFitsT_ok, eRHome4_ok, eGuess4_ok D.wd, D.enc, eWords_ok, trivial⟩) glR_two
noncomputable def ctxOtN (P : Program) (wf : Int → Int) : Ctx := ctx P glR [eFitsT, eRHome4, eGuess4 wf, eEncN4, eWords] [] (noEq P) [] (fun _ h => by cases h)
theorem ctxOtN_good {bf : Int → Int → Bool} {wf : Int → Int} {wb : Int → Bool} {rf : Int → Int} (D : OrdD bf wf wb rf) : (ctxOtN Tryz.prog wf).good := ctx_good (by kernel_rfl) (AllOk.mem ⟨eFitsT_ok, eRHome4_ok, eGuess4_ok D.wd, eEncN4_ok, eWords_ok, trivial⟩) glR_two
set_option maxRecDepth 100000 in
theorem dec4_pure {bf : Int → Int → Bool} {wf : Int → Int} {wb : Int → Bool} {rf : Int → Int} (D : OrdD bf wf wb rf) (p : Int) (m q : Nat) (w : List Int) (hu : AllU w) (hf : fitsB 4 p m = true) (t : T) (bs : Hp)
    (hyes : OpenOk bf wb 4 p m w → t = .tup [SO 0 (w.getD 0 0).toNat (w.getD 0 0).toNat 0 false, .v (.int .i64 0)] ∧ bs = SH (gks wf w (w.getD 0 0).toNat) (gvs w (w.getD 0 0).toNat) [])
    (hno : ¬ OpenOk bf wb 4 p m w → t = .tup [SO 0 0 0 0 false, .v (.int .i64 2)] ∧ bs = SH [] [] []) :
    Pure Tryz.prog glR 75 [.agg [.v (.int .i64 4), .v (.int .i64 p), .v (.int .i64 m)], .fl [.u64] q w] t bs := by
  have hm := fitsK hf
  refine pure_wf fun hw => ?_
  obtain ⟨-, ⟨w1, w2⟩, -⟩ := hw
  simp only [List.length_cons, List.length_nil, Nat.zero_add, Nat.mul_one] at w1
  by_cases hq : q = 2 + 4 * m
  rotate_left
  · obtain ⟨rfl, rfl⟩ := hno (fun h => by
      have : OpenOk bf wb 4 p m w := h
      unfold OpenOk at this
      have := this.2.1.1
      omega)
    refine pure_of (C := ctxOtY Tryz.prog bf wf rf) (ctxOtY_good D) Tryz.func75 (c := bodyOf Tryz.f75) (by rfl) (Nat.le_of_ble_eq_true (by rfl)) 4 0 [0, 1, 2, 4, 5, 6, 7, 8, 11, 17, 35] ?_
    conv => whnf
    refine And.intro hf ?_
    conv => whnf
    refine And.intro ⟨rfl, by omega, hf⟩ ?_
    conv => whnf
    refine ifB_ne (fun _ => ?_) (fun h => ?_)
    · conv => whnf
      repeat' (first | exact trivial | exact rfl | (refine And.intro ?_ ?_) | ((conv => whnf); done) | ((conv => whnf); (first | rfl | (refine congrArg (fun b => T.v (Value.bool b)) ?_; first | rfl | exact (decide_eq_true (by omega)).symm | exact (decide_eq_false (by omega)).symm | exact decide_eq_decide.2 (by omega)) | (refine congrArg (fun b => T.v (Value.int _ b)) ?_; first | rfl | omega) | omega)) | (first | rfl | (refine congrArg (fun b => T.v (Value.bool b)) ?_; first | rfl | exact (decide_eq_true (by omega)).symm | exact (decide_eq_false (by omega)).symm | exact decide_eq_decide.2 (by omega)) | (refine congrArg (fun b => T.v (Value.int _ b)) ?_; first | rfl | omega) | omega))
    · exfalso; rw [Int.toNat_natCast] at h; omega
  obtain ⟨n, hn⟩ : ∃ n, min m (w.getD 0 0).toNat = n := ⟨_, rfl⟩
  have hl : (gks wf w n).length = n := gks_len wf w n
  have hl2 : (gvs w n).length = n := gvs_len w n
  cases hr : rightT 4 p m 0 (gks wf w n) (gvs w n) [] false
  · have hno' : ¬ OpenOk bf wb 4 p m w := fun h => by
      have hO := h
      unfold OpenOk at hO
      have := (D.yes hu h).1
      rw [Int.toNat_natCast] at this
      rw [show (w.getD 0 0).toNat = n by have := hO.2.1; omega] at this
      rw [this.right hf] at hr; cases hr
    obtain ⟨rfl, rfl⟩ := hno hno'
    refine pure_of (C := ctxOtN Tryz.prog wf) (ctxOtN_good D) Tryz.func75 (c := bodyOf Tryz.f75) (by rfl) (Nat.le_of_ble_eq_true (by rfl)) 4 0 [0, 1, 2, 4, 5, 6, 7, 8, 11, 17, 35] ?_
    conv => whnf
    refine And.intro hf ?_
    conv => whnf
    refine And.intro ⟨rfl, by omega, hf⟩ ?_
    conv => whnf
    rw [Int.toNat_natCast]
    refine ifB_ne (fun h => absurd (by omega) h) (fun _ => ?_)
    conv => whnf
    refine And.intro ⟨⟨rfl, by omega, by omega, by rw [Int.toNat_natCast]; exact hq⟩, hu⟩ ?_
    conv => whnf
    rw [Int.toNat_natCast, hn]
    refine And.intro ⟨⟨rfl, by omega, by omega⟩, allU_gks D.uw hu n, hf, hr⟩ ?_
    conv => whnf
    repeat' (first | exact trivial | exact rfl | (refine And.intro ?_ ?_) | ((conv => whnf); done) | ((conv => whnf); (first | rfl | (refine congrArg (fun b => T.v (Value.bool b)) ?_; first | rfl | exact (decide_eq_true (by omega)).symm | exact (decide_eq_false (by omega)).symm | exact decide_eq_decide.2 (by omega)) | (refine congrArg (fun b => T.v (Value.int _ b)) ?_; first | rfl | omega) | omega)) | (first | rfl | (refine congrArg (fun b => T.v (Value.bool b)) ?_; first | rfl | exact (decide_eq_true (by omega)).symm | exact (decide_eq_false (by omega)).symm | exact decide_eq_decide.2 (by omega)) | (refine congrArg (fun b => T.v (Value.int _ b)) ?_; first | rfl | omega) | omega))
  · have hV : TabV 4 m (gks wf w n) (gvs w n) := by
      have := (rightT_v hr (allU_gks D.uw hu n) (allU_gvs hu n)).2.2.2.2
      rwa [Int.toNat_natCast] at this
    refine pure_of (C := ctxOtY Tryz.prog bf wf rf) (ctxOtY_good D) Tryz.func75 (c := bodyOf Tryz.f75) (by rfl) (Nat.le_of_ble_eq_true (by rfl)) 4 0 [0, 1, 2, 4, 5, 6, 7, 8, 11, 17, 35] ?_
    conv => whnf
    refine And.intro hf ?_
    conv => whnf
    refine And.intro ⟨rfl, by omega, hf⟩ ?_
    conv => whnf
    rw [Int.toNat_natCast]
    refine ifB_ne (fun h => absurd (by omega) h) (fun _ => ?_)
    conv => whnf
    refine And.intro ⟨⟨rfl, by omega, by omega, by rw [Int.toNat_natCast]; exact hq⟩, hu⟩ ?_
    conv => whnf
    rw [Int.toNat_natCast, hn]
    refine And.intro ⟨⟨rfl, rfl, rfl, rfl⟩, hV, hf, D.ris hV hl⟩ ?_
    conv => whnf
    by_cases hq2 : wordsO bf m n (entK rf (gks wf w n) (gvs w n) n) = w
    · have ho : OpenOk bf wb 4 p m w := D.no hu hf (by omega) (by rw [hn]; exact hV) (by rw [hn]; exact hq2)
      have hO := ho
      unfold OpenOk at hO
      have e : (w.getD 0 0).toNat = n := by have := hO.2.1; omega
      obtain ⟨rfl, rfl⟩ := hyes ho
      rw [decide_eq_true hq2, e]
      conv => whnf
      repeat' (first | exact trivial | exact rfl | (refine And.intro ?_ ?_) | ((conv => whnf); done) | ((conv => whnf); (first | rfl | (refine congrArg (fun b => T.v (Value.bool b)) ?_; first | rfl | exact (decide_eq_true (by omega)).symm | exact (decide_eq_false (by omega)).symm | exact decide_eq_decide.2 (by omega)) | (refine congrArg (fun b => T.v (Value.int _ b)) ?_; first | rfl | omega) | omega)) | (first | rfl | (refine congrArg (fun b => T.v (Value.bool b)) ?_; first | rfl | exact (decide_eq_true (by omega)).symm | exact (decide_eq_false (by omega)).symm | exact decide_eq_decide.2 (by omega)) | (refine congrArg (fun b => T.v (Value.int _ b)) ?_; first | rfl | omega) | omega))
    · have ho : ¬ OpenOk bf wb 4 p m w := fun h => by
        have hO := h
        unfold OpenOk at hO
        have e : (w.getD 0 0).toNat = n := by have := hO.2.1; omega
        have h2 := (D.yes hu h).2
        rw [e] at h2
        have h3 := hO.2.2.2
        rw [e, Int.toNat_natCast, ← h2] at h3
        exact hq2 h3
      obtain ⟨rfl, rfl⟩ := hno ho
      rw [decide_eq_false hq2]
      conv => whnf
      repeat' (first | exact trivial | exact rfl | (refine And.intro ?_ ?_) | ((conv => whnf); done) | ((conv => whnf); (first | rfl | (refine congrArg (fun b => T.v (Value.bool b)) ?_; first | rfl | exact (decide_eq_true (by omega)).symm | exact (decide_eq_false (by omega)).symm | exact decide_eq_decide.2 (by omega)) | (refine congrArg (fun b => T.v (Value.int _ b)) ?_; first | rfl | omega) | omega)) | (first | rfl | (refine congrArg (fun b => T.v (Value.bool b)) ?_; first | rfl | exact (decide_eq_true (by omega)).symm | exact (decide_eq_false (by omega)).symm | exact decide_eq_decide.2 (by omega)) | (refine congrArg (fun b => T.v (Value.int _ b)) ?_; first | rfl | omega) | omega))
def eDecY (bf : Int → Int → Bool) (wf : Int → Int) (wb : Int → Bool) : Entry := ⟨75, 5, fun l => match l with
  | [.agg [.v (.int .i64 k), .v (.int .i64 p), .v (.int .i64 m)], .fl [.u64] q w] => some (some ((k = 4 ∧ fitsB 4 p m = true) ∧ AllU w ∧ OpenOk bf wb 4 p m w), .tup [SO 0 (w.getD 0 0).toNat (w.getD 0 0).toNat 0 false, .v (.int .i64 0)], SH (gks wf w (w.getD 0 0).toNat) (gvs w (w.getD 0 0).toNat) [])
  | _ => none⟩
def eDecN (bf : Int → Int → Bool) (wb : Int → Bool) : Entry := ⟨75, 5, fun l => match l with
  | [.agg [.v (.int .i64 k), .v (.int .i64 p), .v (.int .i64 m)], .fl [.u64] q w] => some (some ((k = 4 ∧ fitsB 4 p m = true) ∧ AllU w ∧ ¬ OpenOk bf wb 4 p m w), .tup [SO 0 0 0 0 false, .v (.int .i64 2)], SH [] [] [])
  | _ => none⟩
theorem eDecY_ok {bf : Int → Int → Bool} {wf : Int → Int} {wb : Int → Bool} {rf : Int → Int} (D : OrdD bf wf wb rf) : (eDecY bf wf wb).ok Tryz.prog glR := ⟨Am.enters_of Tryz.func75 (by kernel_rfl) (by kernel_rfl), by
  intro args c t bs h hc
  simp only [eDecY] at h
  split at h <;> cases h
  rename_i k p m q w
  obtain ⟨⟨rfl, hf⟩, hu, ho⟩ := hc _ rfl
  have hm := fitsK hf
  obtain ⟨m0, rfl⟩ := Int.eq_ofNat_of_zero_le (a := m) (by omega)
  exact dec4_pure D p m0 q w hu hf _ _ (fun _ => ⟨rfl, rfl⟩) (fun h => absurd ho h)⟩
theorem eDecN_ok {bf : Int → Int → Bool} {wf : Int → Int} {wb : Int → Bool} {rf : Int → Int} (D : OrdD bf wf wb rf) : (eDecN bf wb).ok Tryz.prog glR := ⟨Am.enters_of Tryz.func75 (by kernel_rfl) (by kernel_rfl), by
  intro args c t bs h hc
  simp only [eDecN] at h
  split at h <;> cases h
  rename_i k p m q w
  obtain ⟨⟨rfl, hf⟩, hu, ho⟩ := hc _ rfl
  have hm := fitsK hf
  obtain ⟨m0, rfl⟩ := Int.eq_ofNat_of_zero_le (a := m) (by omega)
  exact dec4_pure D p m0 q w hu hf _ _ (fun h => absurd h ho) (fun _ => ⟨rfl, rfl⟩)⟩
/-- Is a configuration one of an Order? -/
def isF (k p m : Int) : Bool := decide (fitsB k p m = true ∧ k = 4)
noncomputable def ctxOtI (P : Program) : Ctx := ctx P glR [eRFits] [] (noEq P) [] (fun _ h => by cases h)
theorem ctxOtI_good : (ctxOtI Tryz.prog).good := ctx_good (by kernel_rfl) (AllOk.mem ⟨eRFits_ok, trivial⟩) glR_two
set_option maxRecDepth 100000 in
theorem is13_pure (k p m : Int) : Pure Tryz.prog glR 37 [.agg [.v (.int .i64 k), .v (.int .i64 p), .v (.int .i64 m)]] (.v (.bool (isF k p m))) := by
  refine pure_of (C := ctxOtI Tryz.prog) ctxOtI_good Tryz.func37 (c := bodyOf Tryz.f37) (by rfl) (Nat.le_of_ble_eq_true (by rfl)) 4 0 [0, 1, 2] ?_
  conv => whnf
  cases hf : fitsB k p m
  · conv => whnf
    exact congrArg (fun b => T.v (Value.bool b)) (by unfold isF; rw [hf]; simp)
  · conv => whnf
    exact congrArg (fun b => T.v (Value.bool b)) (by unfold isF; rw [hf]; simp; rfl)
def eIs13 : Entry := ⟨37, 3, fun l => match l with | [.agg [.v (.int .i64 k), .v (.int .i64 p), .v (.int .i64 m)]] => some (none, .v (.bool (isF k p m)), []) | _ => none⟩
theorem eIs13_ok : eIs13.ok Tryz.prog glR := ⟨Am.enters_of Tryz.func37 (by kernel_rfl) (by kernel_rfl), by
  intro args c t bs h hc
  simp only [eIs13] at h
  split at h <;> cases h
  exact is13_pure _ _ _⟩
noncomputable def ctxOtOY (P : Program) (bf : Int → Int → Bool) (wf : Int → Int) (wb : Int → Bool) : Ctx := ctx P glR [eIs13, eDecY bf wf wb] [] (noEq P) [] (fun _ h => by cases h)
noncomputable def ctxOtON (P : Program) (bf : Int → Int → Bool) (wb : Int → Bool) : Ctx := ctx P glR [eIs13, eDecN bf wb] [] (noEq P) [] (fun _ h => by cases h)
attribute [local irreducible] isF
set_option maxRecDepth 100000 in
theorem open13Y_pure {bf : Int → Int → Bool} {wf : Int → Int} {wb : Int → Bool} {rf : Int → Int} (D : OrdD bf wf wb rf) (k p m : Int) (q : Nat) (w : List Int) (hu : AllU w) (ho : OpenOk bf wb k p m w) :
    Pure Tryz.prog glR 40 [.agg [.v (.int .i64 k), .v (.int .i64 p), .v (.int .i64 m)], .fl [.u64] q w] (.tup [SO 0 (w.getD 0 0).toNat (w.getD 0 0).toNat 0 false, .v (.int .i64 0)]) (SH (gks wf w (w.getD 0 0).toNat) (gvs w (w.getD 0 0).toNat) []) := by
  have good : (ctxOtOY Tryz.prog bf wf wb).good := ctx_good (by kernel_rfl) (AllOk.mem ⟨eIs13_ok, eDecY_ok D, trivial⟩) glR_two
  have hO := ho
  unfold OpenOk at hO
  obtain ⟨hf, rfl⟩ := hO.1
  have hi : isF 4 p m = true := by unfold isF; exact decide_eq_true ⟨hf, rfl⟩
  refine pure_of (C := ctxOtOY Tryz.prog bf wf wb) good Tryz.func40 (c := bodyOf Tryz.f40) (by rfl) (Nat.le_of_ble_eq_true (by rfl)) 4 0 [0, 1, 2, 4, 5, 8] ?_
  conv => whnf
  rw [hi]
  conv => whnf
  refine And.intro ⟨⟨rfl, hf⟩, hu, ho⟩ ?_
  conv => whnf
  repeat' (first | exact trivial | exact rfl | (refine And.intro ?_ ?_) | ((conv => whnf); done) | ((conv => whnf); (first | rfl | (refine congrArg (fun b => T.v (Value.bool b)) ?_; first | rfl | exact (decide_eq_true (by omega)).symm | exact (decide_eq_false (by omega)).symm | exact decide_eq_decide.2 (by omega)) | (refine congrArg (fun b => T.v (Value.int _ b)) ?_; first | rfl | omega) | omega)) | (first | rfl | (refine congrArg (fun b => T.v (Value.bool b)) ?_; first | rfl | exact (decide_eq_true (by omega)).symm | exact (decide_eq_false (by omega)).symm | exact decide_eq_decide.2 (by omega)) | (refine congrArg (fun b => T.v (Value.int _ b)) ?_; first | rfl | omega) | omega))
set_option maxRecDepth 100000 in
theorem open13N_pure {bf : Int → Int → Bool} {wf : Int → Int} {wb : Int → Bool} {rf : Int → Int} (D : OrdD bf wf wb rf) (k p m : Int) (q : Nat) (w : List Int) (hu : AllU w) (ho : ¬ OpenOk bf wb k p m w) :
    Pure Tryz.prog glR 40 [.agg [.v (.int .i64 k), .v (.int .i64 p), .v (.int .i64 m)], .fl [.u64] q w] (.tup [SO 0 0 0 0 false, .v (.int .i64 (openE k p m))]) (SH [] [] []) := by
  have good : (ctxOtON Tryz.prog bf wb).good := ctx_good (by kernel_rfl) (AllOk.mem ⟨eIs13_ok, eDecN_ok D, trivial⟩) glR_two
  refine pure_of (C := ctxOtON Tryz.prog bf wb) good Tryz.func40 (c := bodyOf Tryz.f40) (by rfl) (Nat.le_of_ble_eq_true (by rfl)) 4 0 [0, 1, 2, 4, 5, 8] ?_
  by_cases hf : fitsB k p m = true ∧ k = 4
  · obtain ⟨hf1, rfl⟩ := hf
    have hi : isF 4 p m = true := by unfold isF; exact decide_eq_true ⟨hf1, rfl⟩
    rw [show openE 4 p m = 2 from if_pos ⟨hf1, rfl⟩]
    conv => whnf
    rw [hi]
    conv => whnf
    refine And.intro ⟨⟨rfl, hf1⟩, hu, ho⟩ ?_
    conv => whnf
    repeat' (first | exact trivial | exact rfl | (refine And.intro ?_ ?_) | ((conv => whnf); done) | ((conv => whnf); (first | rfl | (refine congrArg (fun b => T.v (Value.bool b)) ?_; first | rfl | exact (decide_eq_true (by omega)).symm | exact (decide_eq_false (by omega)).symm | exact decide_eq_decide.2 (by omega)) | (refine congrArg (fun b => T.v (Value.int _ b)) ?_; first | rfl | omega) | omega)) | (first | rfl | (refine congrArg (fun b => T.v (Value.bool b)) ?_; first | rfl | exact (decide_eq_true (by omega)).symm | exact (decide_eq_false (by omega)).symm | exact decide_eq_decide.2 (by omega)) | (refine congrArg (fun b => T.v (Value.int _ b)) ?_; first | rfl | omega) | omega))
  · have hi : isF k p m = false := by unfold isF; exact decide_eq_false hf
    rw [show openE k p m = 5 from if_neg hf]
    conv => whnf
    rw [hi]
    conv => whnf
    repeat' (first | exact trivial | exact rfl | (refine And.intro ?_ ?_) | ((conv => whnf); done) | ((conv => whnf); (first | rfl | (refine congrArg (fun b => T.v (Value.bool b)) ?_; first | rfl | exact (decide_eq_true (by omega)).symm | exact (decide_eq_false (by omega)).symm | exact decide_eq_decide.2 (by omega)) | (refine congrArg (fun b => T.v (Value.int _ b)) ?_; first | rfl | omega) | omega)) | (first | rfl | (refine congrArg (fun b => T.v (Value.bool b)) ?_; first | rfl | exact (decide_eq_true (by omega)).symm | exact (decide_eq_false (by omega)).symm | exact decide_eq_decide.2 (by omega)) | (refine congrArg (fun b => T.v (Value.int _ b)) ?_; first | rfl | omega) | omega))
def eOp13Y (bf : Int → Int → Bool) (wf : Int → Int) (wb : Int → Bool) : Entry := ⟨40, 5, fun l => match l with
  | [.agg [.v (.int .i64 k), .v (.int .i64 p), .v (.int .i64 m)], .fl [.u64] q w] => some (some (AllU w ∧ OpenOk bf wb k p m w), .tup [SO 0 (w.getD 0 0).toNat (w.getD 0 0).toNat 0 false, .v (.int .i64 0)], SH (gks wf w (w.getD 0 0).toNat) (gvs w (w.getD 0 0).toNat) [])
  | _ => none⟩
def eOp13N (bf : Int → Int → Bool) (wb : Int → Bool) : Entry := ⟨40, 5, fun l => match l with
  | [.agg [.v (.int .i64 k), .v (.int .i64 p), .v (.int .i64 m)], .fl [.u64] q w] => some (some (AllU w ∧ ¬ OpenOk bf wb k p m w), .tup [SO 0 0 0 0 false, .v (.int .i64 (openE k p m))], SH [] [] [])
  | _ => none⟩
theorem eOp13Y_ok {bf : Int → Int → Bool} {wf : Int → Int} {wb : Int → Bool} {rf : Int → Int} (D : OrdD bf wf wb rf) : (eOp13Y bf wf wb).ok Tryz.prog glR := ⟨Am.enters_of Tryz.func40 (by kernel_rfl) (by kernel_rfl), by
  intro args c t bs h hc
  simp only [eOp13Y] at h
  split at h <;> cases h
  obtain ⟨hu, ho⟩ := hc _ rfl
  exact open13Y_pure D _ _ _ _ _ hu ho⟩
theorem eOp13N_ok {bf : Int → Int → Bool} {wf : Int → Int} {wb : Int → Bool} {rf : Int → Int} (D : OrdD bf wf wb rf) : (eOp13N bf wb).ok Tryz.prog glR := ⟨Am.enters_of Tryz.func40 (by kernel_rfl) (by kernel_rfl), by
  intro args c t bs h hc
  simp only [eOp13N] at h
  split at h <;> cases h
  obtain ⟨hu, ho⟩ := hc _ rfl
  exact open13N_pure D _ _ _ _ _ hu ho⟩
end Go.Proofs.YtlcpcgdecodjfaaGreatDoor
namespace Go.Proofs.YtlcpcgdecodjfaaGreatDoor
open Go.RowKit Go.Proofs.YtlcpcgdecodjfaaGreatDoor.Am
set_option linter.unusedVariables false
set_option linter.unusedSimpArgs false

theorem pairEq : ∀ t, hasN [35] t = true → Tryz.prog.stoodInHeld t = false := HeldOk.mem ⟨by kernel_rfl, trivial⟩
noncomputable def ctxOtL (P : Program) (heq : ∀ t, hasN [35] t = true → P.stoodInHeld t = false) : Ctx := ctx P glR [] [35] heq [] (fun _ h => by cases h)
theorem ctxOtL_good : (ctxOtL Tryz.prog pairEq).good := ctx_good (by kernel_rfl) (fun _ h => by cases h) glR_two
set_option maxRecDepth 100000 in
theorem rlinks_pure (n : Nat) (xs : List Int) (hn : n ≤ 1000) : Pure Tryz.prog glR 103 [.fl [.i64, .i64] n xs, .fl [.i64, .i64] n xs] (.v (.bool true)) := by
  refine pure_wf fun hw => ?_
  obtain ⟨⟨w1, w2⟩, -⟩ := hw
  simp only [List.length_cons, List.length_nil, Nat.zero_add, Nat.mul_one] at w1
  refine pure_of (C := ctxOtL Tryz.prog pairEq) ctxOtL_good Tryz.func103 (c := bodyOf Tryz.f103) (by rfl) (Nat.le_of_ble_eq_true (by rfl)) 4 0 [0, 1, 4, 5, 10, 14, 25] ?_
  conv => whnf
  refine ifB_ne (fun h => absurd rfl h) (fun _ => ?_)
  conv => whnf
  refine TW.loopD ctxOtL_good 0 (base := 0) (lv := [0, 1, 4, 5, 10, 14, 25]) [5] [] [] (fun j : Nat => [.v (.int .i64 j)]) (fun _ => []) (fun j => j ≤ n) (fun j => n - j) ?_
  conv => whnf
  refine ⟨⟨0, ⟨rfl, rfl, rfl⟩, Nat.zero_le _⟩, fun j hj => ?_⟩
  replace hj : j ≤ n := hj
  conv => whnf
  refine ifB_dec (fun h => ?_) (fun h => ?_)
  · conv => whnf
    repeat (refine And.intro (by omega) ?_; conv => whnf)
    refine ifB_f (show (!(xs.getD (0 + (j : Int).toNat * (1 + 1) + 0) 0 == xs.getD (0 + (j : Int).toNat * (1 + 1) + 0) 0 && (xs.getD (0 + (j : Int).toNat * (1 + 1) + (0 + 1)) 0 == xs.getD (0 + (j : Int).toNat * (1 + 1) + (0 + 1)) 0 && true))) = false by simp) ?_
    conv => whnf
    rw [wsucc (n := n) (by omega) w2]
    exact ⟨j + 1, [], ⟨rfl, rfl, rfl⟩, (by omega : j + 1 ≤ n), by (try dsimp only); omega⟩
  · conv => whnf
def eRLinks : Entry := ⟨103, 3, fun l => match l with
  | [.fl [.i64, .i64] n xs, .fl [.i64, .i64] m ys] => some (some ((n ≤ 1000 ∧ m = n) ∧ ys = xs), .v (.bool true), [])
  | _ => none⟩
theorem eRLinks_ok : eRLinks.ok Tryz.prog glR := ⟨Am.enters_of Tryz.func103 (by kernel_rfl) (by kernel_rfl), by
  intro args c t bs h hc
  simp only [eRLinks] at h
  split at h <;> cases h
  obtain ⟨⟨h1, rfl⟩, rfl⟩ := hc _ rfl
  exact rlinks_pure _ _ h1⟩
noncomputable def ctxOtR (P : Program) (bf : Int → Int → Bool) : Ctx := ctx P glR [eRBuildB bf, eRLinks] [] (noEq P) [] (fun _ h => by cases h)
attribute [local irreducible] rootB linksB
set_option maxRecDepth 100000 in
theorem rright_pure {bf : Int → Int → Bool} (hb : (eRBuildB bf).ok Tryz.prog glR) (n : Nat) (xs : List Int) (hn : n ≤ 256) (hr : rises xs) :
    Pure Tryz.prog glR 80 [.fl [.u64] n xs, .v (.int .i64 (rootB bf xs)), .fl [.i64, .i64] n (linksB bf xs)] (.v (.bool true)) := by
  have good : (ctxOtR Tryz.prog bf).good := ctx_good (by kernel_rfl) (AllOk.mem ⟨hb, eRLinks_ok, trivial⟩) glR_two
  refine pure_of (C := ctxOtR Tryz.prog bf) good Tryz.func80 (c := bodyOf Tryz.f80) (by rfl) (Nat.le_of_ble_eq_true (by rfl)) 4 0 [0, 1, 2, 6, 7, 8, 9] ?_
  conv => whnf
  refine And.intro ⟨hn, hr⟩ ?_
  conv => whnf
  refine ifB_t (show (bif true then rootB bf xs == rootB bf xs else false) = true from beq_self_eq_true _) ?_
  conv => whnf
  refine And.intro ⟨⟨by omega, rfl⟩, rfl⟩ ?_
  conv => whnf
  rfl
def eRRight (bf : Int → Int → Bool) : Entry := ⟨80, 3, fun l => match l with
  | [.fl [.u64] n xs, .v (.int .i64 root), .fl [.i64, .i64] m lk] => some (some ((n ≤ 256 ∧ rises xs) ∧ m = n ∧ root = rootB bf xs ∧ lk = linksB bf xs), .v (.bool true), [])
  | _ => none⟩
theorem eRRight_ok {bf : Int → Int → Bool} (hb : (eRBuildB bf).ok Tryz.prog glR) : (eRRight bf).ok Tryz.prog glR := ⟨Am.enters_of Tryz.func80 (by kernel_rfl) (by kernel_rfl), by
  intro args c t bs h hc
  simp only [eRRight] at h
  split at h <;> cases h
  obtain ⟨⟨h1, h2⟩, rfl, rfl, rfl⟩ := hc _ rfl
  exact rright_pure hb _ _ h1 h2⟩
noncomputable def ctxOtP (P : Program) (bf : Int → Int → Bool) : Ctx := ctx P glR [eRRight bf] [] (noEq P) [] (fun _ h => by cases h)
theorem wayF_step (xs lk : List Int) (key : Int) (d : Nat) {t : Nat} (h : ¬ t = 0) : wayF xs lk key (d + 1) t = (t : Int) :: (if xs.getD (t - 1) 0 = key then [] else wayF xs lk key d (lk.getD ((t - 1) * 2 + if key < xs.getD (t - 1) 0 then 0 else 1) 0).toNat) := by simp only [wayF]; rw [if_neg h]
theorem wayF_zero (xs lk : List Int) (key : Int) (d : Nat) : wayF xs lk key d 0 = [] := by cases d <;> simp [wayF]
attribute [local irreducible] wayF wayB
set_option maxRecDepth 100000 in
theorem rpath_pure {bf : Int → Int → Bool} {wt : Int → Int} (hwt : ∀ a b, bf a b = decide (wt b < wt a)) (hb : (eRBuildB bf).ok Tryz.prog glR) (n : Nat) (xs : List Int) (key : Int) (hn : n ≤ 256) (hr : rises xs) :
    Pure Tryz.prog glR 47 [.fl [.u64] n xs, .v (.int .i64 (rootB bf xs)), .fl [.i64, .i64] n (linksB bf xs), .v (.int .u64 key)] (.ow 0 1 (wayB bf xs key).length) [(0, .fl [.i64] (wayB bf xs key))] := by
  have good : (ctxOtP Tryz.prog bf).good := ctx_good (by kernel_rfl) (AllOk.mem ⟨eRRight_ok hb, trivial⟩) glR_two
  refine pure_wf fun hw => ?_
  obtain ⟨⟨w1, w2⟩, -⟩ := hw
  simp only [List.length_cons, List.length_nil, Nat.zero_add, Nat.mul_one] at w1
  have hT := build_tr hwt (xs := xs)
  have hll := linksB_len bf xs
  refine pure_of (C := ctxOtP Tryz.prog bf) good Tryz.func47 (c := bodyOf Tryz.f47) (by rfl) (Nat.le_of_ble_eq_true (by rfl)) 4 1 [0, 1, 2, 3, 8, 9, 10, 15, 18, 23, 37] ?_
  conv => whnf
  refine And.intro ⟨⟨hn, hr⟩, rfl, rfl, rfl⟩ ?_
  conv => whnf
  refine TW.nilOwn 9 5000 1 (.fl [.i64] []) rfl rfl (.inr ⟨_, _, rfl⟩) (by decide) ?_
  rw [rootB_top]
  have hwB : wayF xs (linksB bf xs) key (n - 0) (topB bf xs) = wayB bf xs key := by rw [← w1]; unfold wayB; rfl
  refine TW.loopD good 1 (base := 0) (lv := [0, 1, 2, 3, 8, 9, 10, 15, 18, 23, 37]) [9, 10] [5000] [(5000, 5000)] (fun x : Nat × Nat × Nat × List Int × Nat => [.ow 5000 1 x.2.2.2.2, .v (.int .i64 x.1)]) (fun x => [.fl [.i64] x.2.2.2.1]) (fun x => IsTr wt xs (linksB bf xs) x.2.1 x.2.2.1 x.1 ∧ (x.2.2.1 ≤ n ∧ x.2.2.2.1.length + (x.2.2.1 - x.2.1) ≤ n ∧ x.2.2.2.2 = x.2.2.2.1.length) ∧ x.2.2.2.1 ++ wayF xs (linksB bf xs) key (x.2.2.1 - x.2.1) x.1 = wayB bf xs key) (fun x => x.2.2.1 - x.2.1) ?_
  conv => whnf
  refine ⟨⟨(topB bf xs, 0, n, [], 0), ⟨rfl, rfl, rfl⟩, by rw [← w1]; exact hT, ⟨Nat.le_refl _, by show 0 + (n - 0) ≤ n; omega, rfl⟩, hwB⟩, fun ⟨t, lo, hi, out, c⟩ ⟨i1, ⟨i2, i4, i6⟩, i3⟩ => ?_⟩
  replace i1 : IsTr wt xs (linksB bf xs) lo hi t := i1
  replace i2 : hi ≤ n := i2
  replace i4 : out.length + (hi - lo) ≤ n := i4
  replace i6 : c = out.length := i6
  replace i3 : out ++ wayF xs (linksB bf xs) key (hi - lo) t = wayB bf xs key := i3
  conv => whnf
  refine ifB_ne (fun h => ?_) (fun h => ?_)
  · replace h : ¬ (t : Int) = 0 := h
    cases i1 with
    | nil => exact absurd rfl h
    | node g1 g2 g3 g4 g5 g6 g7 =>
      rename_i l2 r2
      have em : IntKind.i64.wrap ((t : Int) - 1) = ((t - 1 : Nat) : Int) := by rw [wrap64 (by omega) (by omega)]; omega
      have ex : xs.getD (0 + ((t - 1 : Nat) : Int).toNat * (0 + 1)) 0 = xs.getD (t - 1) 0 := by simp
      conv => whnf
      refine And.intro (show c + 1 ≤ 1099511627776 by omega) ?_
      conv => whnf
      repeat (refine And.intro (by first | rfl | omega) ?_; conv => whnf)
      rw [em]
      repeat (refine And.intro (by first | rfl | omega) ?_; conv => whnf)
      rw [ex]
      obtain ⟨d, hd⟩ : ∃ d, hi - lo = d + 1 := ⟨hi - lo - 1, by omega⟩
      rw [hd, wayF_step xs (linksB bf xs) key d (by omega : ¬ t = 0)] at i3
      have hlen : (out ++ [(t : Int)]).length = out.length + 1 := by simp
      have eL : (linksB bf xs).getD (0 + ((t - 1 : Nat) : Int).toNat * (1 + 1)) 0 = (l2 : Int) := by rw [← g4, Int.toNat_natCast]; congr 1; omega
      have eR : (linksB bf xs).getD (0 + 1 + ((t - 1 : Nat) : Int).toNat * (1 + 1)) 0 = (r2 : Int) := by rw [← g5, Int.toNat_natCast]; congr 1; omega
      by_cases c1 : xs.getD (t - 1) 0 > key
      · refine ifB_t (decide_eq_true c1) ?_
        conv => whnf
        rw [em]
        repeat (refine And.intro (by first | rfl | omega) ?_; conv => whnf)
        rw [if_neg (by omega), if_pos (by omega), Nat.add_zero, g4, Int.toNat_natCast, wayF_tr g6 d (t - 1 - lo) (by omega) (Nat.le_refl _)] at i3
        rw [eL]
        exact ⟨(l2, lo, t - 1, out ++ [(t : Int)], c + 1), [(88, 5000)], ⟨rfl, rfl, rfl⟩, ⟨g6, ⟨(by omega : t - 1 ≤ n), (by rw [hlen]; omega : (out ++ [(t : Int)]).length + (t - 1 - lo) ≤ n), (by rw [hlen, i6] : c + 1 = (out ++ [(t : Int)]).length)⟩, by dsimp only; rw [List.append_assoc]; exact i3⟩, by dsimp only; omega⟩
      · refine ifB_f (decide_eq_false c1) ?_
        conv => whnf
        rw [em]
        repeat (refine And.intro (by first | rfl | omega) ?_; conv => whnf)
        rw [ex]
        by_cases c2 : xs.getD (t - 1) 0 < key
        · refine ifB_t (decide_eq_true c2) ?_
          conv => whnf
          rw [em]
          repeat (refine And.intro (by first | rfl | omega) ?_; conv => whnf)
          rw [if_neg (by omega), if_neg (by omega), g5, Int.toNat_natCast, wayF_tr g7 d (hi - t) (by omega) (Nat.le_refl _)] at i3
          rw [eR]
          exact ⟨(r2, t, hi, out ++ [(t : Int)], c + 1), [(88, 5000)], ⟨rfl, rfl, rfl⟩, ⟨g7, ⟨i2, (by rw [hlen]; omega : (out ++ [(t : Int)]).length + (hi - t) ≤ n), (by rw [hlen, i6] : c + 1 = (out ++ [(t : Int)]).length)⟩, by dsimp only; rw [List.append_assoc]; exact i3⟩, by dsimp only; omega⟩
        · refine ifB_f (decide_eq_false c2) ?_
          conv => whnf
          rw [if_pos (by omega)] at i3
          exact ⟨(0, 0, 0, out ++ [(t : Int)], c + 1), [(88, 5000)], ⟨rfl, rfl, rfl⟩, ⟨.nil 0, ⟨(by omega : 0 ≤ n), (by rw [hlen]; omega : (out ++ [(t : Int)]).length + (0 - 0) ≤ n), (by rw [hlen, i6] : c + 1 = (out ++ [(t : Int)]).length)⟩, by dsimp only; rw [wayF_zero, List.append_nil]; exact i3⟩, by dsimp only; omega⟩
  · replace h : (t : Int) = 0 := h
    obtain rfl : t = 0 := by omega
    have i5 : out = wayB bf xs key := by rw [← i3, wayF_zero, List.append_nil]
    conv => whnf
    subst i6
    rw [← i5]
    repeat' (first | exact trivial | exact rfl | (refine And.intro ?_ ?_) | ((conv => whnf); done) | ((conv => whnf); (first | rfl | (refine congrArg (fun b => T.v (Value.bool b)) ?_; first | rfl | exact (decide_eq_true (by omega)).symm | exact (decide_eq_false (by omega)).symm | exact decide_eq_decide.2 (by omega)) | (refine congrArg (fun b => T.v (Value.int _ b)) ?_; first | rfl | omega) | omega)) | (first | rfl | (refine congrArg (fun b => T.v (Value.bool b)) ?_; first | rfl | exact (decide_eq_true (by omega)).symm | exact (decide_eq_false (by omega)).symm | exact decide_eq_decide.2 (by omega)) | (refine congrArg (fun b => T.v (Value.int _ b)) ?_; first | rfl | omega) | omega))
end Go.Proofs.YtlcpcgdecodjfaaGreatDoor
namespace Go.Proofs.YtlcpcgdecodjfaaGreatDoor
open Go.RowKit Go.Proofs.YtlcpcgdecodjfaaGreatDoor.Am
set_option linter.unusedVariables false
set_option linter.unusedSimpArgs false

theorem unp_val (w : List Int) {i n : Nat} (h : i < n) : (unp w n).getD (i * 2 + 1) 0 = w.getD (2 + 4 * i + 1) 0 := by
  induction n with
  | zero => omega
  | succ n ih =>
    simp only [unp]
    by_cases e : i < n
    · rw [getD_app_l (by rw [unp_len]; omega)]; exact ih e
    · obtain rfl : i = n := by omega
      rw [getD_app_r (by rw [unp_len]; omega), unp_len, show i * 2 + 1 - i * 2 = 1 by omega]; rfl
structure OrdS (bf : Int → Int → Bool) (wf : Int → Int) (wb : Int → Bool) (rf : Int → Int) (wt : Int → Int) : Prop where
  D : OrdD bf wf wb rf
  rb : (eRBuildB bf).ok Tryz.prog glR
  rr : (eRRk rf).ok Tryz.prog glR
  hwt : ∀ a b, bf a b = decide (wt b < wt a)
  same : ∀ {m n : Nat} {ks vs : List Int}, TabV 4 m ks vs → ks.length = n → ∀ (code key v : Int), U64 key →
    ordDo wf rf m n (entK rf ks vs n) code key v = ((tabD 4 m ks vs code key v).1.length, entK rf (tabD 4 m ks vs code key v).1 (tabD 4 m ks vs code key v).2.1 (tabD 4 m ks vs code key v).1.length, (tabD 4 m ks vs code key v).2.2.1, (tabD 4 m ks vs code key v).2.2.2)
  ru : ∀ a, U64 a → U64 (rf a)
noncomputable def ctxOtF (P : Program) (bf : Int → Int → Bool) (wf : Int → Int) (wb : Int → Bool) : Ctx := ctx P glR [eOp13Y bf wf wb] [] (noEq P) [] (fun _ h => by cases h)
noncomputable def ctxOtFN (P : Program) (bf : Int → Int → Bool) (wb : Int → Bool) : Ctx := ctx P glR [eOp13N bf wb] [] (noEq P) [] (fun _ h => by cases h)
attribute [local irreducible] gks gvs fitsB rightT wordsO entK OpenOk openE unp tabD ordDo rootB linksB wayB rk rkL
set_option maxRecDepth 100000 in
theorem at13Y_pure {bf : Int → Int → Bool} {wf : Int → Int} {wb : Int → Bool} {rf wt : Int → Int} (S : OrdS bf wf wb rf wt) (k p m : Int) (q n : Nat) (w : List Int) (i : Int) (hu : AllU w) (ho : OpenOk bf wb k p m w) (hn : (w.getD 0 0).toNat = n) :
    Pure Tryz.prog glR 15 [.agg [.v (.int .i64 k), .v (.int .i64 p), .v (.int .i64 m)], .fl [.u64] q w, .v (.int .i64 i)] (.tup [.agg [.v (.int .u64 (atR wf n (unp w n) i).1), .v (.int .u64 (atR wf n (unp w n) i).2.1)], .v (.int .i64 (atR wf n (unp w n) i).2.2)]) := by
  have good : (ctxOtF Tryz.prog bf wf wb).good := ctx_good (by kernel_rfl) (AllOk.mem ⟨eOp13Y_ok S.D, trivial⟩) glR_two
  have hb := fits4' ho
  have hO := ho
  unfold OpenOk at hO
  have hnm : n ≤ 256 := by omega
  refine pure_of (C := ctxOtF Tryz.prog bf wf wb) good Tryz.func15 (c := bodyOf Tryz.f15) (by rfl) (Nat.le_of_ble_eq_true (by rfl)) 4 0 [0, 1, 2, 3, 6, 7, 8, 9, 17, 28] ?_
  conv => whnf
  refine And.intro ⟨hu, ho⟩ ?_
  conv => whnf
  rw [hn]
  by_cases hi : 1 ≤ i ∧ i ≤ n
  · obtain ⟨h1, h2⟩ := hi
    have ei : IntKind.i64.wrap (i - 1) = i - 1 := wrap64 (by omega) (by omega)
    rw [show atR wf n (unp w n) i = (wf ((unp w n).getD ((i.toNat - 1) * 2) 0), (unp w n).getD ((i.toNat - 1) * 2 + 1) 0, 0) from if_pos ⟨h1, h2⟩, unp_getD w (show i.toNat - 1 < n by omega), unp_val w (show i.toNat - 1 < n by omega), ← gks_at wf w (show i.toNat - 1 < n by omega), ← gvs_at w (show i.toNat - 1 < n by omega)]
    refine ifB_f (decide_eq_false (by omega)) ?_
    conv => whnf
    refine ifB_f (show (bif false then true else decide (i > (n : Int))) = false from decide_eq_false (by omega)) ?_
    conv => whnf
    rw [ei]
    have eg : ∀ l : List Int, l.getD (0 + addN 0 (i - 1).toNat * (0 + 1)) 0 = l.getD (i.toNat - 1) 0 := fun l => by rw [addN_eq]; congr 1; omega
    repeat (refine And.intro (by omega) ?_; conv => whnf)
    rw [ei, eg, eg]
    repeat' (first | exact trivial | exact rfl | (refine And.intro ?_ ?_) | ((conv => whnf); done) | ((conv => whnf); (first | rfl | (refine congrArg (fun b => T.v (Value.bool b)) ?_; first | rfl | exact (decide_eq_true (by omega)).symm | exact (decide_eq_false (by omega)).symm | exact decide_eq_decide.2 (by omega)) | (refine congrArg (fun b => T.v (Value.int _ b)) ?_; first | rfl | omega) | omega)) | (first | rfl | (refine congrArg (fun b => T.v (Value.bool b)) ?_; first | rfl | exact (decide_eq_true (by omega)).symm | exact (decide_eq_false (by omega)).symm | exact decide_eq_decide.2 (by omega)) | (refine congrArg (fun b => T.v (Value.int _ b)) ?_; first | rfl | omega) | omega))
  · rw [show atR wf n (unp w n) i = (0, 0, 1) from if_neg hi]
    by_cases h1 : i < 1
    · refine ifB_t (decide_eq_true h1) ?_
      conv => whnf
      repeat' (first | exact trivial | exact rfl | (refine And.intro ?_ ?_) | ((conv => whnf); done) | ((conv => whnf); (first | rfl | (refine congrArg (fun b => T.v (Value.bool b)) ?_; first | rfl | exact (decide_eq_true (by omega)).symm | exact (decide_eq_false (by omega)).symm | exact decide_eq_decide.2 (by omega)) | (refine congrArg (fun b => T.v (Value.int _ b)) ?_; first | rfl | omega) | omega)) | (first | rfl | (refine congrArg (fun b => T.v (Value.bool b)) ?_; first | rfl | exact (decide_eq_true (by omega)).symm | exact (decide_eq_false (by omega)).symm | exact decide_eq_decide.2 (by omega)) | (refine congrArg (fun b => T.v (Value.int _ b)) ?_; first | rfl | omega) | omega))
    · refine ifB_f (decide_eq_false h1) ?_
      conv => whnf
      refine ifB_t (show (bif false then true else decide (i > (n : Int))) = true from decide_eq_true (by omega)) ?_
      conv => whnf
      repeat' (first | exact trivial | exact rfl | (refine And.intro ?_ ?_) | ((conv => whnf); done) | ((conv => whnf); (first | rfl | (refine congrArg (fun b => T.v (Value.bool b)) ?_; first | rfl | exact (decide_eq_true (by omega)).symm | exact (decide_eq_false (by omega)).symm | exact decide_eq_decide.2 (by omega)) | (refine congrArg (fun b => T.v (Value.int _ b)) ?_; first | rfl | omega) | omega)) | (first | rfl | (refine congrArg (fun b => T.v (Value.bool b)) ?_; first | rfl | exact (decide_eq_true (by omega)).symm | exact (decide_eq_false (by omega)).symm | exact decide_eq_decide.2 (by omega)) | (refine congrArg (fun b => T.v (Value.int _ b)) ?_; first | rfl | omega) | omega))
set_option maxRecDepth 100000 in
theorem at13N_pure {bf : Int → Int → Bool} {wf : Int → Int} {wb : Int → Bool} {rf wt : Int → Int} (S : OrdS bf wf wb rf wt) (k p m : Int) (q : Nat) (w : List Int) (i : Int) (hu : AllU w) (ho : ¬ OpenOk bf wb k p m w) (he : openE k p m ≠ 0) :
    Pure Tryz.prog glR 15 [.agg [.v (.int .i64 k), .v (.int .i64 p), .v (.int .i64 m)], .fl [.u64] q w, .v (.int .i64 i)] (.tup [.agg [.v (.int .u64 0), .v (.int .u64 0)], .v (.int .i64 (openE k p m))]) := by
  have good : (ctxOtFN Tryz.prog bf wb).good := ctx_good (by kernel_rfl) (AllOk.mem ⟨eOp13N_ok S.D, trivial⟩) glR_two
  refine pure_of (C := ctxOtFN Tryz.prog bf wb) good Tryz.func15 (c := bodyOf Tryz.f15) (by rfl) (Nat.le_of_ble_eq_true (by rfl)) 4 0 [0, 1, 2, 3, 6, 7, 8, 9, 17, 28] ?_
  conv => whnf
  refine And.intro ⟨hu, ho⟩ ?_
  conv => whnf
  refine ifB_ne (fun _ => ?_) (fun h => absurd h he)
  conv => whnf
  repeat' (first | exact trivial | exact rfl | (refine And.intro ?_ ?_) | ((conv => whnf); done) | ((conv => whnf); (first | rfl | (refine congrArg (fun b => T.v (Value.bool b)) ?_; first | rfl | exact (decide_eq_true (by omega)).symm | exact (decide_eq_false (by omega)).symm | exact decide_eq_decide.2 (by omega)) | (refine congrArg (fun b => T.v (Value.int _ b)) ?_; first | rfl | omega) | omega)) | (first | rfl | (refine congrArg (fun b => T.v (Value.bool b)) ?_; first | rfl | exact (decide_eq_true (by omega)).symm | exact (decide_eq_false (by omega)).symm | exact decide_eq_decide.2 (by omega)) | (refine congrArg (fun b => T.v (Value.int _ b)) ?_; first | rfl | omega) | omega))
def eRPath (bf : Int → Int → Bool) : Entry := ⟨47, 4, fun l => match l with
  | [.fl [.u64] n xs, .v (.int .i64 root), .fl [.i64, .i64] m lk, .v (.int .u64 key)] => some (some ((n ≤ 256 ∧ rises xs) ∧ m = n ∧ rootB bf xs = root ∧ linksB bf xs = lk), .ow 0 1 (wayB bf xs key).length, [(0, .fl [.i64] (wayB bf xs key))])
  | _ => none⟩
theorem eRPath_ok {bf : Int → Int → Bool} {wt : Int → Int} (hwt : ∀ a b, bf a b = decide (wt b < wt a)) (hb : (eRBuildB bf).ok Tryz.prog glR) : (eRPath bf).ok Tryz.prog glR := ⟨Am.enters_of Tryz.func47 (by kernel_rfl) (by kernel_rfl), by
  intro args c t bs h hc
  simp only [eRPath] at h
  split at h <;> cases h
  obtain ⟨⟨h1, h2⟩, rfl, rfl, rfl⟩ := hc _ rfl
  exact rpath_pure hwt hb _ _ _ h1 h2⟩
noncomputable def ctxOtW (P : Program) (bf : Int → Int → Bool) (wf : Int → Int) (wb : Int → Bool) (rf : Int → Int) : Ctx := ctx P glR [eOp13Y bf wf wb, eRRk rf, eRBuildB bf, eRPath bf] [] (noEq P) [] (fun _ h => by cases h)
set_option maxRecDepth 100000 in
theorem way13Y_pure {bf : Int → Int → Bool} {wf : Int → Int} {wb : Int → Bool} {rf wt : Int → Int} (S : OrdS bf wf wb rf wt) (k p m : Int) (q n : Nat) (w : List Int) (key : Int) (hu : AllU w) (ho : OpenOk bf wb k p m w) (hn : (w.getD 0 0).toNat = n) (hk : U64 key) :
    Pure Tryz.prog glR 17 [.agg [.v (.int .i64 k), .v (.int .i64 p), .v (.int .i64 m)], .fl [.u64] q w, .v (.int .u64 key)] (.tup [.ow 0 1 (wayB bf (rk (unp w n) n) (rf key)).length, .v (.int .i64 0)]) [(0, .fl [.i64] (wayB bf (rk (unp w n) n) (rf key)))] := by
  have good : (ctxOtW Tryz.prog bf wf wb rf).good := ctx_good (by kernel_rfl) (AllOk.mem ⟨eOp13Y_ok S.D, S.rr, S.rb, eRPath_ok S.hwt S.rb, trivial⟩) glR_two
  have hb := fits4' ho
  have hO := ho
  unfold OpenOk at hO
  obtain ⟨hf, rfl⟩ := hO.1
  have hnm : n ≤ 256 := by omega
  obtain ⟨hV, hE⟩ := S.D.yes hu ho
  rw [hn] at hV hE
  have hri := S.D.ris hV (gks_len wf w n)
  have hug := allU_gks S.D.uw hu n
  rw [← hE, rkL_ent]
  refine pure_of (C := ctxOtW Tryz.prog bf wf wb rf) good Tryz.func17 (c := bodyOf Tryz.f17) (by rfl) (Nat.le_of_ble_eq_true (by rfl)) 4 0 [0, 1, 2, 3, 6, 7, 8, 9, 10, 11, 12, 13, 22, 28] ?_
  conv => whnf
  refine And.intro ⟨hu, ho⟩ ?_
  conv => whnf
  rw [hn]
  refine TW.nilOwn 10 5000 1 (.fl [.u64] []) rfl rfl (.inr ⟨_, _, rfl⟩) (by decide) ?_
  refine TW.loopD good 0 (base := 0) (lv := [0, 1, 2, 3, 6, 7, 8, 9, 10, 11, 12, 13, 22, 28]) [10, 11] [5000] [(5000, 5000)] (fun x : Nat × List Int => [.ow 5000 1 x.1, .v (.int .i64 x.1)]) (fun x => [.fl [.u64] x.2]) (fun x => x.1 ≤ n ∧ x.2 = rkL rf (gks wf w n) x.1) (fun x => n - x.1) ?_
  conv => whnf
  refine ⟨⟨(0, []), ⟨rfl, rfl, rfl⟩, Nat.zero_le _, by unfold rkL; rfl⟩, fun ⟨j, l⟩ ⟨hj, hl⟩ => ?_⟩
  replace hj : j ≤ n := hj
  replace hl : l = rkL rf (gks wf w n) j := hl
  conv => whnf
  have e0 : ∀ (l : List Int), l.getD (0 + addN 0 (j : Int).toNat * (0 + 1)) 0 = l.getD j 0 := fun l => by simp [addN_eq]
  refine ifB_dec (fun h => ?_) (fun h => ?_)
  · conv => whnf
    refine And.intro (by omega) ?_
    conv => whnf
    rw [e0]
    refine And.intro (allU_getD hug _) ?_
    conv => whnf
    repeat (refine And.intro (by omega) ?_; conv => whnf)
    rw [wsucc (n := n) (by omega) (by omega)]
    exact ⟨(j + 1, l ++ [rf ((gks wf w n).getD j 0)]), [(156, 5000)], ⟨rfl, rfl, rfl⟩, ⟨(by omega : j + 1 ≤ n), (show l ++ [rf ((gks wf w n).getD j 0)] = rkL rf (gks wf w n) (j + 1) by rw [hl, rkL_succ])⟩, by dsimp only; omega⟩
  · obtain rfl : j = n := by omega
    subst hl
    conv => whnf
    refine And.intro ⟨hnm, hri⟩ ?_
    conv => whnf
    refine And.intro hk ?_
    conv => whnf
    refine And.intro ⟨⟨hnm, hri⟩, rfl, rfl, rfl⟩ ?_
    conv => whnf
    repeat' (first | exact trivial | exact rfl | (refine And.intro ?_ ?_) | ((conv => whnf); done) | ((conv => whnf); (first | rfl | (refine congrArg (fun b => T.v (Value.bool b)) ?_; first | rfl | exact (decide_eq_true (by omega)).symm | exact (decide_eq_false (by omega)).symm | exact decide_eq_decide.2 (by omega)) | (refine congrArg (fun b => T.v (Value.int _ b)) ?_; first | rfl | omega) | omega)) | (first | rfl | (refine congrArg (fun b => T.v (Value.bool b)) ?_; first | rfl | exact (decide_eq_true (by omega)).symm | exact (decide_eq_false (by omega)).symm | exact decide_eq_decide.2 (by omega)) | (refine congrArg (fun b => T.v (Value.int _ b)) ?_; first | rfl | omega) | omega))
set_option maxRecDepth 100000 in
theorem way13N_pure {bf : Int → Int → Bool} {wf : Int → Int} {wb : Int → Bool} {rf wt : Int → Int} (S : OrdS bf wf wb rf wt) (k p m : Int) (q : Nat) (w : List Int) (key : Int) (hu : AllU w) (ho : ¬ OpenOk bf wb k p m w) (he : openE k p m ≠ 0) :
    Pure Tryz.prog glR 17 [.agg [.v (.int .i64 k), .v (.int .i64 p), .v (.int .i64 m)], .fl [.u64] q w, .v (.int .u64 key)] (.tup [.ow 0 1 0, .v (.int .i64 (openE k p m))]) [(0, .fl [.i64] [])] := by
  have good : (ctxOtFN Tryz.prog bf wb).good := ctx_good (by kernel_rfl) (AllOk.mem ⟨eOp13N_ok S.D, trivial⟩) glR_two
  refine pure_of (C := ctxOtFN Tryz.prog bf wb) good Tryz.func17 (c := bodyOf Tryz.f17) (by rfl) (Nat.le_of_ble_eq_true (by rfl)) 4 0 [0, 1, 2, 3, 6, 7, 8, 9, 10, 11, 12, 13, 22, 28] ?_
  conv => whnf
  refine And.intro ⟨hu, ho⟩ ?_
  conv => whnf
  refine ifB_ne (fun _ => ?_) (fun h => absurd h he)
  conv => whnf
  repeat' (first | exact trivial | exact rfl | (refine And.intro ?_ ?_) | ((conv => whnf); done) | ((conv => whnf); (first | rfl | (refine congrArg (fun b => T.v (Value.bool b)) ?_; first | rfl | exact (decide_eq_true (by omega)).symm | exact (decide_eq_false (by omega)).symm | exact decide_eq_decide.2 (by omega)) | (refine congrArg (fun b => T.v (Value.int _ b)) ?_; first | rfl | omega) | omega)) | (first | rfl | (refine congrArg (fun b => T.v (Value.bool b)) ?_; first | rfl | exact (decide_eq_true (by omega)).symm | exact (decide_eq_false (by omega)).symm | exact decide_eq_decide.2 (by omega)) | (refine congrArg (fun b => T.v (Value.int _ b)) ?_; first | rfl | omega) | omega))
noncomputable def ctxOtA (P : Program) (bf : Int → Int → Bool) (wf : Int → Int) (wb : Int → Bool) (rf : Int → Int) : Ctx := ctx P glR [eOp13Y bf wf wb, eDoK, eEnc4 bf rf] [] (noEq P) [] (fun _ h => by cases h)
set_option maxRecDepth 100000 in
theorem app13Y_pure {bf : Int → Int → Bool} {wf : Int → Int} {wb : Int → Bool} {rf wt : Int → Int} (S : OrdS bf wf wb rf wt) (p : Int) (m q n : Nat) (w : List Int) (code key v : Int) (hu : AllU w) (ho : OpenOk bf wb 4 p m w) (hn : (w.getD 0 0).toNat = n) (hk : U64 key) (hv : U64 v) :
    Pure Tryz.prog glR 21 [.agg [.v (.int .i64 4), .v (.int .i64 p), .v (.int .i64 m)], .fl [.u64] q w, .agg [.v (.int .i64 code), .v (.int .u64 key), .v (.int .u64 v)]] (ordT bf m (ordDo wf rf m n (unp w n) code key v)) (ordB bf m (ordDo wf rf m n (unp w n) code key v)) := by
  have good : (ctxOtA Tryz.prog bf wf wb rf).good := ctx_good (by kernel_rfl) (AllOk.mem ⟨eOp13Y_ok S.D, eDoK_ok, S.D.enc, trivial⟩) glR_two
  have hO := ho
  unfold OpenOk at hO
  obtain ⟨hf, -⟩ := hO.1
  obtain ⟨hV, hE⟩ := S.D.yes hu ho
  rw [hn, Int.toNat_natCast] at hV
  rw [hn] at hE
  rw [← hE, S.same hV (gks_len wf w n) code key v hk]
  have hV2 := tabD_v (code := code) hV hk hv
  refine pure_of (C := ctxOtA Tryz.prog bf wf wb rf) good Tryz.func21 (c := bodyOf Tryz.f21) (by rfl) (Nat.le_of_ble_eq_true (by rfl)) 4 0 [0, 1, 2, 3, 5, 6, 7, 8, 9, 10, 11, 12, 14, 23] ?_
  conv => whnf
  refine And.intro ⟨hu, ho⟩ ?_
  conv => whnf
  rw [hn]
  refine And.intro ⟨.inr (.inr rfl), hf, (by rw [Int.toNat_natCast]; exact hV), ⟨rfl, rfl, rfl⟩, hk, hv⟩ ?_
  conv => whnf
  refine And.intro ⟨⟨rfl, rfl, rfl, rfl⟩, (by rw [Int.toNat_natCast]; exact hV2), hf, S.D.ris hV2 rfl⟩ ?_
  conv => whnf
  rw [Int.toNat_natCast]
  repeat' (first | exact trivial | exact rfl | (refine And.intro ?_ ?_) | ((conv => whnf); done) | ((conv => whnf); (first | rfl | (refine congrArg (fun b => T.v (Value.bool b)) ?_; first | rfl | exact (decide_eq_true (by omega)).symm | exact (decide_eq_false (by omega)).symm | exact decide_eq_decide.2 (by omega)) | (refine congrArg (fun b => T.v (Value.int _ b)) ?_; first | rfl | omega) | omega)) | (first | rfl | (refine congrArg (fun b => T.v (Value.bool b)) ?_; first | rfl | exact (decide_eq_true (by omega)).symm | exact (decide_eq_false (by omega)).symm | exact decide_eq_decide.2 (by omega)) | (refine congrArg (fun b => T.v (Value.int _ b)) ?_; first | rfl | omega) | omega))
set_option maxRecDepth 100000 in
theorem app13N_pure {bf : Int → Int → Bool} {wf : Int → Int} {wb : Int → Bool} {rf wt : Int → Int} (S : OrdS bf wf wb rf wt) (k p m : Int) (q : Nat) (w : List Int) (code key v : Int) (hu : AllU w) (ho : ¬ OpenOk bf wb k p m w) (he : openE k p m ≠ 0) :
    Pure Tryz.prog glR 21 [.agg [.v (.int .i64 k), .v (.int .i64 p), .v (.int .i64 m)], .fl [.u64] q w, .agg [.v (.int .i64 code), .v (.int .u64 key), .v (.int .u64 v)]] (.tup [.ow 0 1 0, .agg [.v (.int .i64 0), .v (.int .u64 0)], .v (.int .i64 (openE k p m))]) [(0, .fl [.u64] [])] := by
  have good : (ctxOtFN Tryz.prog bf wb).good := ctx_good (by kernel_rfl) (AllOk.mem ⟨eOp13N_ok S.D, trivial⟩) glR_two
  refine pure_of (C := ctxOtFN Tryz.prog bf wb) good Tryz.func21 (c := bodyOf Tryz.f21) (by rfl) (Nat.le_of_ble_eq_true (by rfl)) 4 0 [0, 1, 2, 3, 5, 6, 7, 8, 9, 10, 11, 12, 14, 23] ?_
  conv => whnf
  refine And.intro ⟨hu, ho⟩ ?_
  conv => whnf
  refine ifB_ne (fun _ => ?_) (fun h => absurd h he)
  conv => whnf
  repeat' (first | exact trivial | exact rfl | (refine And.intro ?_ ?_) | ((conv => whnf); done) | ((conv => whnf); (first | rfl | (refine congrArg (fun b => T.v (Value.bool b)) ?_; first | rfl | exact (decide_eq_true (by omega)).symm | exact (decide_eq_false (by omega)).symm | exact decide_eq_decide.2 (by omega)) | (refine congrArg (fun b => T.v (Value.int _ b)) ?_; first | rfl | omega) | omega)) | (first | rfl | (refine congrArg (fun b => T.v (Value.bool b)) ?_; first | rfl | exact (decide_eq_true (by omega)).symm | exact (decide_eq_false (by omega)).symm | exact decide_eq_decide.2 (by omega)) | (refine congrArg (fun b => T.v (Value.int _ b)) ?_; first | rfl | omega) | omega))
end Go.Proofs.YtlcpcgdecodjfaaGreatDoor
namespace Go.Proofs.YtlcpcgdecodjfaaGreatDoor
open Go.RowKit Go.Proofs.YtlcpcgdecodjfaaGreatDoor.Am
set_option linter.unusedVariables false
set_option linter.unusedSimpArgs false

/-- Keys and values behind so many pairs; the error. -/
def ldK (m : Nat) (l : List Int) : Nat → List Int × List Int × Int × Int
  | 0 => ([], [], 0, 0)
  | j + 1 => if (ldK m l j).2.2.1 = 0 then tabD 4 m (ldK m l j).1 (ldK m l j).2.1 11 (l.getD (j * 2) 0) (l.getD (j * 2 + 1) 0) else ldK m l j
theorem ldK_succ {m : Nat} {l : List Int} {j : Nat} (h : (ldK m l j).2.2.1 = 0) : ldK m l (j + 1) = tabD 4 m (ldK m l j).1 (ldK m l j).2.1 11 (l.getD (j * 2) 0) (l.getD (j * 2 + 1) 0) := by
  show (if _ then _ else _) = _
  rw [if_pos h]
theorem ldK_v {m : Nat} {l : List Int} (hl : AllU l) : ∀ j, TabV 4 m (ldK m l j).1 (ldK m l j).2.1
  | 0 => tabV_nil 4 m
  | j + 1 => by
    simp only [ldK]
    split
    · exact tabD_v (ldK_v hl j) (allU_getD hl _) (allU_getD hl _)
    · exact ldK_v hl j
theorem ldK_same {bf : Int → Int → Bool} {wf : Int → Int} {wb : Int → Bool} {rf wt : Int → Int} (S : OrdS bf wf wb rf wt) {m : Nat} {l : List Int} (hl : AllU l) : ∀ j, ldS rf m l j = ((ldK m l j).1.length, entK rf (ldK m l j).1 (ldK m l j).2.1 (ldK m l j).1.length, (ldK m l j).2.2.1, (ldK m l j).2.2.2)
  | 0 => rfl
  | j + 1 => by
    have ih := ldK_same (m := m) S hl j
    simp only [ldS, ldK]
    rw [ih]
    dsimp only
    by_cases h : (ldK m l j).2.2.1 = 0
    · rw [if_pos h, if_pos h, put_wf (fun x => x) wf, S.same (ldK_v hl j) rfl _ _ _ (allU_getD hl _)]
    · rw [if_neg h, if_neg h]
theorem ldK_err {m : Nat} {l : List Int} {j q : Nat} (hj : j ≤ q) (h : (ldK m l j).2.2.1 ≠ 0) : ldK m l q = ldK m l j := by
  induction q with
  | zero => obtain rfl : j = 0 := by omega
            rfl
  | succ q ih =>
    by_cases e : j = q + 1
    · rw [e]
    · have := ih (by omega)
      show (if (ldK m l q).2.2.1 = 0 then _ else ldK m l q) = _
      rw [this, if_neg h]
noncomputable def ctxOtL2 (P : Program) (bf : Int → Int → Bool) (rf : Int → Int) : Ctx := ctx P glR [eIs13, eDoK, eEnc4 bf rf] [] (noEq P) [] (fun _ h => by cases h)
attribute [local irreducible] fitsB wordsO entK tabD ldK ldR isF
set_option maxRecDepth 100000 in
theorem load13_pure {bf : Int → Int → Bool} {wf : Int → Int} {wb : Int → Bool} {rf wt : Int → Int} (S : OrdS bf wf wb rf wt) (p : Int) (m q : Nat) (l : List Int) (hl : AllU l) (hf : fitsB 4 p m = true) (t : T) (bs : Hp)
    (hyes : (ldK m l q).2.2.1 = 0 → t = .tup [.ow 0 1 (2 + 4 * m), .v (.int .i64 0)] ∧ bs = [(0, .fl [.u64] (wordsO bf m (ldK m l q).1.length (entK rf (ldK m l q).1 (ldK m l q).2.1 (ldK m l q).1.length)))])
    (hno : (ldK m l q).2.2.1 ≠ 0 → t = .tup [.ow 0 1 0, .v (.int .i64 11)] ∧ bs = [(0, .fl [.u64] [])]) :
    Pure Tryz.prog glR 12 [.agg [.v (.int .i64 4), .v (.int .i64 p), .v (.int .i64 m)], .fl [.u64, .u64] q l] t bs := by
  have good : (ctxOtL2 Tryz.prog bf rf).good := ctx_good (by kernel_rfl) (AllOk.mem ⟨eIs13_ok, eDoK_ok, S.D.enc, trivial⟩) glR_two
  have hi : isF 4 p m = true := by unfold isF; exact decide_eq_true ⟨hf, rfl⟩
  refine pure_wf fun hw => ?_
  obtain ⟨-, ⟨w1, w2⟩, -⟩ := hw
  simp only [List.length_cons, List.length_nil, Nat.zero_add, Nat.mul_one] at w1
  refine pure_of (C := ctxOtL2 Tryz.prog bf rf) good Tryz.func12 (c := bodyOf Tryz.f12) (by rfl) (Nat.le_of_ble_eq_true (by rfl)) 4 0 [0, 1, 2, 4, 5, 6, 7, 8, 9, 13, 18, 41] ?_
  conv => whnf
  rw [hi]
  conv => whnf
  refine TW.nilOwnB 24 1 5000 1 _ (.fl [.u64] []) rfl rfl rfl (.inr ⟨_, _, rfl⟩) (by decide) ?_
  refine TW.nilOwnB 24 2 5001 1 _ (.fl [.u64] []) rfl rfl rfl (.inr ⟨_, _, rfl⟩) (by decide) ?_
  refine TW.nilOwnB 24 3 5002 1 _ (.fl [.i64] []) rfl rfl rfl (.inr ⟨_, _, rfl⟩) (by decide) ?_
  refine TW.loopD good 0 (base := 0) (lv := [0, 1, 2, 4, 5, 6, 7, 8, 9, 13, 18, 41]) [7] [24, 5000, 5001, 5002] [(24, 24), (5000, 5000), (5001, 5001), (5002, 5002)] (fun x : Nat × List Int × List Int => [.v (.int .i64 x.1)]) (fun x => [.cs [.v (.int .u64 0), .ow 5000 1 x.2.1.length, .ow 5001 1 x.2.2.length, .ow 5002 1 0, .v (.bool false)], .fl [.u64] x.2.1, .fl [.u64] x.2.2, .fl [.i64] []]) (fun x => x.1 ≤ q ∧ x.2.1 = (ldK m l x.1).1 ∧ x.2.2 = (ldK m l x.1).2.1 ∧ (ldK m l x.1).2.2.1 = 0) (fun x => q - x.1) ?_
  conv => whnf
  refine ⟨⟨(0, [], []), ⟨rfl, rfl, rfl⟩, Nat.zero_le _, by unfold ldK; rfl, by unfold ldK; rfl, by unfold ldK; rfl⟩, fun ⟨j, ks, vs⟩ ⟨hj, h1, h2, h3⟩ => ?_⟩
  replace hj : j ≤ q := hj
  replace h1 : ks = (ldK m l j).1 := h1
  replace h2 : vs = (ldK m l j).2.1 := h2
  replace h3 : (ldK m l j).2.2.1 = 0 := h3
  have hV := ldK_v (m := m) hl j
  rw [← h1, ← h2] at hV
  conv => whnf
  refine ifB_dec (fun h => ?_) (fun h => ?_)
  · replace h : (j : Int) < q := h
    have hs := ldK_succ h3
    rw [← h1, ← h2] at hs
    have i0 : 0 + (j : Int).toNat * (1 + 1) + 0 = j * 2 := by omega
    have i1 : 0 + (j : Int).toNat * (1 + 1) + (0 + 1) = j * 2 + 1 := by omega
    conv => whnf
    repeat (refine And.intro (by omega) ?_; conv => whnf)
    refine And.intro ⟨.inr (.inr rfl), hf, (by rw [Int.toNat_natCast]; exact hV), ⟨rfl, rfl, rfl⟩, allU_getD hl _, allU_getD hl _⟩ ?_
    conv => whnf
    obtain ⟨R, hR⟩ : ∃ R, ldK m l (j + 1) = R := ⟨_, rfl⟩
    have hR2 : tabD 4 m ks vs 11 (l.getD (0 + (j : Int).toNat * (1 + 1)) 0) (l.getD (0 + 1 + (j : Int).toNat * (1 + 1)) 0) = R := by
      rw [← hR, hs, show 0 + (j : Int).toNat * (1 + 1) = j * 2 by omega, show 0 + 1 + (j : Int).toNat * (1 + 1) = j * 2 + 1 by omega]
    rw [show tabD 4 (m : Int) ((j, ks, vs) : Nat × List Int × List Int).2.1 ((j, ks, vs) : Nat × List Int × List Int).2.2 11 (l.getD (0 + (((j, ks, vs) : Nat × List Int × List Int).1 : Int).toNat * (1 + 1)) 0) (l.getD (0 + 1 + (((j, ks, vs) : Nat × List Int × List Int).1 : Int).toNat * (1 + 1)) 0) = R from hR2]
    by_cases he : R.2.2.1 = 0
    · refine ifB_f (show (R.2.2.1 != 0) = false by rw [he]; rfl) ?_
      conv => whnf
      have ewi : IntKind.i64.wrap ((((j, ks, vs) : Nat × List Int × List Int).1 : Int) + 1) = ((j + 1 : Nat) : Int) := wrap64 (by dsimp only; omega) (by dsimp only; omega)
      rw [ewi]
      exact ⟨(j + 1, R.1, R.2.1), [(24, 24), (140, 5000), (141, 5001), (142, 5002)], ⟨rfl, rfl, rfl⟩, ⟨(by omega : j + 1 ≤ q), by dsimp only; rw [hR], by dsimp only; rw [hR], by dsimp only; rw [hR]; exact he⟩, by dsimp only; omega⟩
    · obtain ⟨rfl, rfl⟩ := hno (by rw [ldK_err (j := j + 1) (by omega) (by rw [hR]; exact he), hR]; exact he)
      refine ifB_t (show (R.2.2.1 != 0) = true from bne_iff_ne.2 he) ?_
      conv => whnf
      repeat' (first | exact trivial | exact rfl | (refine And.intro ?_ ?_) | ((conv => whnf); done) | ((conv => whnf); (first | rfl | (refine congrArg (fun b => T.v (Value.bool b)) ?_; first | rfl | exact (decide_eq_true (by omega)).symm | exact (decide_eq_false (by omega)).symm | exact decide_eq_decide.2 (by omega)) | (refine congrArg (fun b => T.v (Value.int _ b)) ?_; first | rfl | omega) | omega)) | (first | rfl | (refine congrArg (fun b => T.v (Value.bool b)) ?_; first | rfl | exact (decide_eq_true (by omega)).symm | exact (decide_eq_false (by omega)).symm | exact decide_eq_decide.2 (by omega)) | (refine congrArg (fun b => T.v (Value.int _ b)) ?_; first | rfl | omega) | omega))
  · obtain rfl : j = q := by omega
    obtain ⟨rfl, rfl⟩ := hyes h3
    subst h1
    subst h2
    conv => whnf
    refine And.intro ⟨⟨rfl, rfl, rfl, rfl⟩, (by rw [Int.toNat_natCast]; exact hV), hf, S.D.ris hV rfl⟩ ?_
    conv => whnf
    rw [Int.toNat_natCast]
    repeat' (first | exact trivial | exact rfl | (refine And.intro ?_ ?_) | ((conv => whnf); done) | ((conv => whnf); (first | rfl | (refine congrArg (fun b => T.v (Value.bool b)) ?_; first | rfl | exact (decide_eq_true (by omega)).symm | exact (decide_eq_false (by omega)).symm | exact decide_eq_decide.2 (by omega)) | (refine congrArg (fun b => T.v (Value.int _ b)) ?_; first | rfl | omega) | omega)) | (first | rfl | (refine congrArg (fun b => T.v (Value.bool b)) ?_; first | rfl | exact (decide_eq_true (by omega)).symm | exact (decide_eq_false (by omega)).symm | exact decide_eq_decide.2 (by omega)) | (refine congrArg (fun b => T.v (Value.int _ b)) ?_; first | rfl | omega) | omega))
set_option maxRecDepth 100000 in
theorem load13F_pure {bf : Int → Int → Bool} {wf : Int → Int} {wb : Int → Bool} {rf wt : Int → Int} (S : OrdS bf wf wb rf wt) (k p m : Int) (q : Nat) (l : List Int) (hf : ¬ (fitsB k p m = true ∧ k = 4)) :
    Pure Tryz.prog glR 12 [.agg [.v (.int .i64 k), .v (.int .i64 p), .v (.int .i64 m)], .fl [.u64, .u64] q l] (.tup [.ow 0 1 0, .v (.int .i64 5)]) [(0, .fl [.u64] [])] := by
  have good : (ctxOtL2 Tryz.prog bf rf).good := ctx_good (by kernel_rfl) (AllOk.mem ⟨eIs13_ok, eDoK_ok, S.D.enc, trivial⟩) glR_two
  have hi : isF k p m = false := by unfold isF; exact decide_eq_false hf
  refine pure_of (C := ctxOtL2 Tryz.prog bf rf) good Tryz.func12 (c := bodyOf Tryz.f12) (by rfl) (Nat.le_of_ble_eq_true (by rfl)) 4 0 [0, 1, 2, 4, 5, 6, 7, 8, 9, 13, 18, 41] ?_
  conv => whnf
  rw [hi]
  conv => whnf
  repeat' (first | exact trivial | exact rfl | (refine And.intro ?_ ?_) | ((conv => whnf); done) | ((conv => whnf); (first | rfl | (refine congrArg (fun b => T.v (Value.bool b)) ?_; first | rfl | exact (decide_eq_true (by omega)).symm | exact (decide_eq_false (by omega)).symm | exact decide_eq_decide.2 (by omega)) | (refine congrArg (fun b => T.v (Value.int _ b)) ?_; first | rfl | omega) | omega)) | (first | rfl | (refine congrArg (fun b => T.v (Value.bool b)) ?_; first | rfl | exact (decide_eq_true (by omega)).symm | exact (decide_eq_false (by omega)).symm | exact decide_eq_decide.2 (by omega)) | (refine congrArg (fun b => T.v (Value.int _ b)) ?_; first | rfl | omega) | omega))
def eLoad13 (bf : Int → Int → Bool) (rf : Int → Int) : Entry := ⟨12, 7, fun l => match l with
  | [.agg [.v (.int .i64 k), .v (.int .i64 p), .v (.int .i64 m)], .fl [.u64, .u64] q l] => some (some (AllU l), .tup [.ow 0 1 (ldR bf rf k p m l q).1.length, .v (.int .i64 (ldR bf rf k p m l q).2)], [(0, .fl [.u64] (ldR bf rf k p m l q).1)])
  | _ => none⟩
theorem eLoad13_ok {bf : Int → Int → Bool} {wf : Int → Int} {wb : Int → Bool} {rf wt : Int → Int} (S : OrdS bf wf wb rf wt) : (eLoad13 bf rf).ok Tryz.prog glR := ⟨Am.enters_of Tryz.func12 (by kernel_rfl) (by kernel_rfl), by
  intro args c t bs h hc
  simp only [eLoad13] at h
  split at h <;> cases h
  rename_i k p m q l
  have hx := hc _ rfl
  by_cases hf : fitsB k p m = true ∧ k = 4
  · obtain ⟨h1, rfl⟩ := hf
    have hm := fitsK h1
    obtain ⟨m0, rfl⟩ := Int.eq_ofNat_of_zero_le (a := m) (by omega)
    have hs := ldK_same S (m := m0) hx q
    have hV := ldK_v (m := m0) hx q
    refine load13_pure S p m0 q l hx h1 _ _ (fun he => ?_) (fun he => ?_)
    · have e : ldR bf rf 4 p m0 l q = (wordsO bf m0 (ldK m0 l q).1.length (entK rf (ldK m0 l q).1 (ldK m0 l q).2.1 (ldK m0 l q).1.length), 0) := by
        unfold ldR; rw [if_pos ⟨h1, rfl⟩, Int.toNat_natCast, hs, if_pos he]
      rw [e]
      dsimp only
      rw [wordsO_len hV.len]
      exact ⟨rfl, rfl⟩
    · have e : ldR bf rf 4 p m0 l q = ([], 11) := by
        unfold ldR; rw [if_pos ⟨h1, rfl⟩, Int.toNat_natCast, hs, if_neg he]
      rw [e]
      exact ⟨rfl, rfl⟩
  · rw [show ldR bf rf k p m l q = ([], 5) by unfold ldR; rw [if_neg hf]]
    exact load13F_pure S k p m q l hf⟩
attribute [local irreducible] atR OpenOk openE unp ordDo wayB rk
noncomputable def eApply13 (bf : Int → Int → Bool) (wf : Int → Int) (wb : Int → Bool) (rf : Int → Int) : Entry := ⟨21, 7, fun l => match l with
  | [.agg [.v (.int .i64 k), .v (.int .i64 p), .v (.int .i64 m)], .fl [.u64] q w, .agg [.v (.int .i64 code), .v (.int .u64 key), .v (.int .u64 v)]] => some (some (AllU w ∧ U64 key ∧ U64 v),
      .tup [.ow 0 1 (appR bf wf wb rf k p m w code key v).1.length, .agg [.v (.int .i64 (appR bf wf wb rf k p m w code key v).2.1), .v (.int .u64 (appR bf wf wb rf k p m w code key v).2.2.1)], .v (.int .i64 (appR bf wf wb rf k p m w code key v).2.2.2)], [(0, .fl [.u64] (appR bf wf wb rf k p m w code key v).1)])
  | _ => none⟩
theorem eApply13_ok {bf : Int → Int → Bool} {wf : Int → Int} {wb : Int → Bool} {rf wt : Int → Int} (S : OrdS bf wf wb rf wt) (H : OrdH bf wf wb rf) : (eApply13 bf wf wb rf).ok Tryz.prog glR := ⟨Am.enters_of Tryz.func21 (by kernel_rfl) (by kernel_rfl), by
  intro args c t bs h hc
  simp only [eApply13] at h
  split at h <;> cases h
  rename_i k p m q w code key v
  obtain ⟨hx, hk, hv⟩ := hc _ rfl
  by_cases ho : OpenOk bf wb k p m w
  · have hV := openOk_v hx ho
    have hW := ordDo_v (wf := wf) H.ru H.wr (code := code) hV hk hv
    rw [show appR bf wf wb rf k p m w code key v = _ from if_pos ho]
    have hO := ho
    unfold OpenOk at hO
    obtain ⟨h1, rfl⟩ := hO.1
    have hm := fits4 h1
    obtain ⟨m0, rfl⟩ := Int.eq_ofNat_of_zero_le (a := m) (by omega)
    dsimp only
    rw [Int.toNat_natCast] at hW ⊢
    rw [wordsO_len hW.room]
    exact app13Y_pure S p m0 q _ w code key v hx ho rfl hk hv
  · rw [show appR bf wf wb rf k p m w code key v = _ from if_neg ho]
    exact app13N_pure S k p m q w code key v hx ho (openE_ne _ _ _)⟩
noncomputable def eAt13 (bf : Int → Int → Bool) (wf : Int → Int) (wb : Int → Bool) : Entry := ⟨15, 7, fun l => match l with
  | [.agg [.v (.int .i64 k), .v (.int .i64 p), .v (.int .i64 m)], .fl [.u64] q w, .v (.int .i64 i)] => some (some (AllU w), .tup [.agg [.v (.int .u64 (atRR bf wf wb k p m w i).1), .v (.int .u64 (atRR bf wf wb k p m w i).2.1)], .v (.int .i64 (atRR bf wf wb k p m w i).2.2)], [])
  | _ => none⟩
theorem eAt13_ok {bf : Int → Int → Bool} {wf : Int → Int} {wb : Int → Bool} {rf wt : Int → Int} (S : OrdS bf wf wb rf wt) : (eAt13 bf wf wb).ok Tryz.prog glR := ⟨Am.enters_of Tryz.func15 (by kernel_rfl) (by kernel_rfl), by
  intro args c t bs h hc
  simp only [eAt13] at h
  split at h <;> cases h
  rename_i k p m q w i
  have hx := hc _ rfl
  by_cases ho : OpenOk bf wb k p m w
  · rw [show atRR bf wf wb k p m w i = _ from if_pos ho]
    exact at13Y_pure S k p m q _ w i hx ho rfl
  · rw [show atRR bf wf wb k p m w i = _ from if_neg ho]
    exact at13N_pure S k p m q w i hx ho (openE_ne _ _ _)⟩
noncomputable def eWay13 (bf : Int → Int → Bool) (wb : Int → Bool) (rf : Int → Int) : Entry := ⟨17, 7, fun l => match l with
  | [.agg [.v (.int .i64 k), .v (.int .i64 p), .v (.int .i64 m)], .fl [.u64] q w, .v (.int .u64 key)] => some (some (AllU w ∧ U64 key), .tup [.ow 0 1 (wayR bf wb rf k p m w key).1.length, .v (.int .i64 (wayR bf wb rf k p m w key).2)], [(0, .fl [.i64] (wayR bf wb rf k p m w key).1)])
  | _ => none⟩
theorem eWay13_ok {bf : Int → Int → Bool} {wf : Int → Int} {wb : Int → Bool} {rf wt : Int → Int} (S : OrdS bf wf wb rf wt) : (eWay13 bf wb rf).ok Tryz.prog glR := ⟨Am.enters_of Tryz.func17 (by kernel_rfl) (by kernel_rfl), by
  intro args c t bs h hc
  simp only [eWay13] at h
  split at h <;> cases h
  rename_i k p m q w key
  obtain ⟨hx, hk⟩ := hc _ rfl
  by_cases ho : OpenOk bf wb k p m w
  · rw [show wayR bf wb rf k p m w key = _ from if_pos ho]
    exact way13Y_pure S k p m q _ w key hx ho rfl hk
  · rw [show wayR bf wb rf k p m w key = _ from if_neg ho]
    exact way13N_pure S k p m q w key hx ho (openE_ne _ _ _)⟩
end Go.Proofs.YtlcpcgdecodjfaaGreatDoor
namespace Go.Proofs.YtlcpcgdecodjfaaGreatDoor
open Go.RowKit Go.Proofs.YtlcpcgdecodjfaaGreatDoor.Am
set_option linter.unusedVariables false
set_option linter.unusedSimpArgs false

theorem tellEq : ∀ t, hasN [59, 37] t = true → Tryz.prog.stoodInHeld t = false := HeldOk.mem ⟨by kernel_rfl, by kernel_rfl, trivial⟩
noncomputable def ctxOtH (P : Program) (heq : ∀ t, hasN [59, 37] t = true → P.stoodInHeld t = false) (bf : Int → Int → Bool) (wf : Int → Int) (wb : Int → Bool) (rf : Int → Int) : Ctx := ctx P glM [eAwk13, eConf13, eKey13, ePick13, eStateK, eEnc4 bf rf, eLoadO bf rf, eLoad13 bf rf, eWords, eAtO bf wf wb, eAt13 bf wf wb, eWayO bf wb rf, eWay13 bf wb rf, eInts, eOpG, eApplyO bf wf wb rf, eApply13 bf wf wb rf] [59, 37] heq [] (fun _ h => by cases h)
theorem ctxOtH_good {bf : Int → Int → Bool} {wf : Int → Int} {wb : Int → Bool} {rf wt : Int → Int} {ls : Int → Int → Bool} (F : OrdF bf wf wb rf ls) (S : OrdS bf wf wb rf wt) : (ctxOtH Tryz.prog tellEq bf wf wb rf).good :=
  ctx_good (by kernel_rfl) (AllOk.mem ⟨eAwk13_ok F.H S.hwt F.K, entry_lift eConf13_ok, entry_lift eKey13_ok, entry_lift ePick13_ok, entry_lift eStateK_ok, entry_lift F.enc, eLoadO_ok F.H, entry_lift (eLoad13_ok S), entry_lift eWords_ok, eAtO_ok F.H S.hwt, entry_lift (eAt13_ok S), eWayO_ok F.H S.hwt, entry_lift (eWay13_ok S), entry_lift eInts_ok, entry_lift eOpG_ok, eApplyO_ok F.H, entry_lift (eApply13_ok S F.H), trivial⟩) glM_two
theorem allU_cut {xs : List Int} (h : AllU xs) (s : Nat) (lo hi : Option Int) : AllU (cutN s lo hi xs) := by
  intro x hx
  unfold cutN at hx
  split at hx
  · exact h x hx
  · exact h x (List.mem_of_mem_drop hx)
  · exact h x (List.mem_of_mem_take hx)
  · exact h x (List.mem_of_mem_take (List.mem_of_mem_drop hx))
theorem notSame (b : List Int) : (bif false then true else !decide (b = b)) = false := by simp
end Go.Proofs.YtlcpcgdecodjfaaGreatDoor
namespace Go.Proofs.YtlcpcgdecodjfaaGreatDoor
open Go.RowKit Go.Proofs.YtlcpcgdecodjfaaGreatDoor.Am
set_option linter.unusedVariables false
set_option linter.unusedSimpArgs false

attribute [local irreducible] appR atRR wayR ldR keyW ipick wordsO ordDo stK entK rkL fitsB codeG keyG valG
set_option maxRecDepth 100000 in
set_option maxHeartbeats 8000000 in
theorem orderTells_purea {bf : Int → Int → Bool} {wf : Int → Int} {wb : Int → Bool} {rf wt : Int → Int} {ls : Int → Int → Bool} (F : OrdF bf wf wb rf ls) (S : OrdS bf wf wb rf wt) (room : Int) (hr : I64 room) (ok op on : Int) (hok : I64 ok ∧ I64 op ∧ I64 on) (n1 : Nat) (raw : List Int) (hraw : AllI raw) (n2 : Nat) (lp : List Int) (hlp : AllU lp) (q : Nat) (st : List Int) (hst : AllI st) (n3 : Nat) (w : List Int) (hw : AllU w) (at_ : Int) (hat : I64 at_) (x : Int) (hx : U64 x) (k1 k2 k3 : Int) (hk : I64 k1 ∧ I64 k2 ∧ I64 k3) (oc okey ov : Int) (hop : I64 oc ∧ U64 okey ∧ U64 ov) (h20 : ¬ on > 20) :
    Pure Tryz.prog glM 3 [.v (.int .i64 room), .agg [.v (.int .i64 ok), .v (.int .i64 op), .v (.int .i64 on)], .fl [.i64, .i64] n1 raw, .fl [.u64, .u64] n2 lp, .fl [.i64, .i64, .i64] q st, .fl [.u64] n3 w, .v (.int .i64 at_), .v (.int .u64 x), .agg [.v (.int .i64 k1), .v (.int .i64 k2), .v (.int .i64 k3)], .agg [.v (.int .i64 oc), .v (.int .u64 okey), .v (.int .u64 ov)]] (.v (.bool true)) := by
  have good := ctxOtH_good F S
  refine pure_wf fun hwf => ?_
  obtain ⟨-, -, ⟨w1, w2⟩, ⟨w3, w4⟩, -, ⟨w5, w6⟩, -⟩ := hwf
  simp only [List.length_cons, List.length_nil, Nat.zero_add, Nat.mul_one] at w1 w3 w5
  obtain ⟨b1, b2⟩ := ipick_bounds room (n := 12) (by omega)
  obtain ⟨m, hm⟩ : ∃ m : Nat, (m : Int) = 1 + ipick room 12 := ⟨(1 + ipick room 12).toNat, by omega⟩
  have hf : fitsB 4 1 m = true := by unfold fitsB; exact decide_eq_true (by omega)
  have hV := stK_v 4 m st (min q 30) (by omega)
  obtain ⟨ks, hks⟩ : ∃ ks, (stK 4 m st (min q 30)).1 = ks := ⟨_, rfl⟩
  obtain ⟨vs, hvs⟩ : ∃ vs, (stK 4 m st (min q 30)).2 = vs := ⟨_, rfl⟩
  rw [hks, hvs] at hV
  obtain ⟨n, hn⟩ : ∃ n, ks.length = n := ⟨_, rfl⟩
  obtain ⟨hO, hri⟩ := F.ord hV hn
  obtain ⟨xs, hxs⟩ : ∃ xs, entK rf ks vs n = xs := ⟨_, rfl⟩
  rw [hxs] at hO
  have aw := (open_words (bf := bf) hf hO).2.1
  have hwl := wordsO_len (bf := bf) (xs := xs) hO.room
  obtain ⟨L, hL⟩ : ∃ L, wordsO bf m n xs = L := ⟨_, rfl⟩
  rw [hL] at aw hwl
  refine pure_of (C := ctxOtH Tryz.prog tellEq bf wf wb rf) good Tryz.func3 (c := bodyOf Tryz.f3) (by rfl) (Nat.le_of_ble_eq_true (by rfl)) 4 0 [0, 1, 2, 3, 4, 5, 6, 7, 8, 9, 11, 18, 19, 20, 21, 22, 23, 24, 25, 27, 29, 31, 32, 33, 34, 35, 37, 39, 40, 41, 42, 43, 45, 46, 47, 48, 49, 51, 52, 53, 54, 55, 56, 57, 68, 77, 116, 117, 118, 119, 128, 129, 130, 131, 154, 163, 164, 165, 166, 172, 173, 174, 175, 199, 205, 206, 207, 208, 233, 240, 241, 242, 243, 275] ?_
  conv => whnf
  refine And.intro hr ?_
  conv => whnf
  rw [← hm]
  refine ifB_f (decide_eq_false h20) ?_
  conv => whnf
  (refine TW.nilOwn 23 5000 2 (.fl [.u64, .u64] []) rfl rfl (.inr ⟨_, _, rfl⟩) (by decide) ?_
   refine TW.loopD good 0 (base := 0) (lv := [0, 1, 2, 3, 4, 5, 6, 7, 8, 9, 11, 18, 19, 20, 21, 22, 23, 24, 25, 27, 29, 31, 32, 33, 34, 35, 37, 39, 40, 41, 42, 43, 45, 46, 47, 48, 49, 51, 52, 53, 54, 55, 56, 57, 68, 77, 116, 117, 118, 119, 128, 129, 130, 131, 154, 163, 164, 165, 166, 172, 173, 174, 175, 199, 205, 206, 207, 208, 233, 240, 241, 242, 243, 275]) [23, 24] [5000] [(5000, 5000)] (fun x : Nat × List Int => [.ow 5000 2 x.1, .v (.int .i64 x.1)]) (fun x => [.fl [.u64, .u64] x.2]) (fun x => (x.1 ≤ n1 ∧ x.1 ≤ 12) ∧ AllU x.2) (fun x => n1 - x.1) ?_
   conv => whnf
   refine ⟨⟨(0, []), ⟨rfl, rfl, rfl⟩, ⟨by omega, by omega⟩, fun x hx => by cases hx⟩, fun ⟨j, pl⟩ ⟨⟨hj, hj2⟩, hpl⟩ => ?_⟩
   replace hj : j ≤ n1 := hj
   replace hj2 : j ≤ 12 := hj2
   replace hpl : AllU pl := hpl
   conv => whnf
   by_cases hgo : j < n1 ∧ j < 12
   · refine ifB_t (show decide ((((j, pl) : Nat × List Int).1 : Int) < n1) = true from decide_eq_true (by dsimp only; omega)) ?_
     conv => whnf
     refine ifB_t (show (bif true then decide ((((j, pl) : Nat × List Int).1 : Int) < 12) else false) = true from decide_eq_true (by dsimp only; omega)) ?_
     conv => whnf
     repeat (refine And.intro (by omega) ?_; conv => whnf)
     refine And.intro (allI_getD hraw _) ?_
     conv => whnf
     repeat (refine And.intro (by omega) ?_; conv => whnf)
     refine And.intro ⟨allI_getD hraw _, by omega, by omega⟩ ?_
     conv => whnf
     repeat (refine And.intro (by omega) ?_; conv => whnf)
     rw [show IntKind.i64.wrap ((((j, pl) : Nat × List Int).1 : Int) + 1) = ((j + 1 : Nat) : Int) from wrap64 (by dsimp only; omega) (by dsimp only; omega)]
     refine ⟨(j + 1, pl ++ [keyW (raw.getD (0 + (j : Int).toNat * (1 + 1)) 0), IntKind.u64.wrap (ipick (raw.getD (0 + 1 + (j : Int).toNat * (1 + 1)) 0) 1000)]), [(384, 5000)], ⟨rfl, rfl, rfl⟩, ⟨⟨(by omega : j + 1 ≤ n1), (by omega : j + 1 ≤ 12)⟩, ?_⟩, by dsimp only; omega⟩
     intro y hy
     rcases List.mem_append.1 hy with hy | hy
     · exact hpl y hy
     · simp only [List.mem_cons, List.not_mem_nil, or_false] at hy
       rcases hy with rfl | rfl
       · exact u64_keyW _
       · exact u64_wrap _
   · by_cases hjn : j < n1
     · refine ifB_t (show decide ((((j, pl) : Nat × List Int).1 : Int) < n1) = true from decide_eq_true (by dsimp only; omega)) ?_
       conv => whnf
       refine ifB_f (show (bif true then decide ((((j, pl) : Nat × List Int).1 : Int) < 12) else false) = false from decide_eq_false (by dsimp only; omega)) ?_
       conv => whnf
       (refine And.intro ⟨.inr (.inr rfl), hf, hst⟩ ?_
        conv => whnf
        rw [Int.toNat_natCast, hks, hvs, hn]
        refine And.intro ⟨⟨rfl, rfl, rfl, rfl⟩, hV, hf, hri⟩ ?_
        conv => whnf
        rw [hxs, hL]
        repeat (refine And.intro (by first | omega | (show (2 + 4 * m) * 8 ≤ 140737488355328; omega)) ?_; conv => whnf)
        refine And.intro ⟨hat, by omega, by omega⟩ ?_
        conv => whnf
        obtain ⟨c1, c2⟩ := ipick_bounds at_ (n := ((2 + 4 * m : Nat) : Int)) (by omega)
        repeat (refine And.intro (by omega) ?_; conv => whnf)
        have hT : AllU (L.set (0 + addN 0 (ipick at_ ((2 + 4 * m : Nat) : Int)).toNat * (0 + 1) + 0) x) := allU_set aw _ hx
        refine TW.loopD good 0 (base := 0) (lv := [0, 1, 2, 3, 4, 5, 6, 7, 8, 9, 11, 18, 19, 20, 21, 22, 23, 24, 25, 27, 29, 31, 32, 33, 34, 35, 37, 39, 40, 41, 42, 43, 45, 46, 47, 48, 49, 51, 52, 53, 54, 55, 56, 57, 68, 77, 116, 117, 118, 119, 128, 129, 130, 131, 154, 163, 164, 165, 166, 172, 173, 174, 175, 199, 205, 206, 207, 208, 233, 240, 241, 242, 243, 275]) [118] [] [] (fun d : Nat => [.v (.int .i64 d)]) (fun _ => []) (fun d => d ≤ 2) (fun d => 2 - d) ?_
        conv => whnf
        refine ⟨⟨0, ⟨rfl, rfl, rfl⟩, by omega⟩, fun d hd => ?_⟩
        replace hd : d ≤ 2 := hd
        conv => whnf
        refine ifB_dec (fun hd2 => ?_) (fun hd2 => ?_)
        · replace hd2 : (d : Int) < 2 := hd2
          conv => whnf
          refine And.intro (by omega) ?_
          conv => whnf
          refine And.intro (by split <;> omega) ?_
          conv => whnf
          refine TW.loopD good 0 (base := 0) (lv := [0, 1, 2, 3, 4, 5, 6, 7, 8, 9, 11, 18, 19, 20, 21, 22, 23, 24, 25, 27, 29, 31, 32, 33, 34, 35, 37, 39, 40, 41, 42, 43, 45, 46, 47, 48, 49, 51, 52, 53, 54, 55, 56, 57, 68, 77, 116, 117, 118, 119, 128, 129, 130, 131, 154, 163, 164, 165, 166, 172, 173, 174, 175, 199, 205, 206, 207, 208, 233, 240, 241, 242, 243, 275]) [130] [] [] (fun z : Nat => [.v (.int .i64 z)]) (fun _ => []) (fun z => z ≤ 2) (fun z => 2 - z) ?_
          conv => whnf
          refine ⟨⟨0, ⟨rfl, rfl, rfl⟩, by omega⟩, fun z hz => ?_⟩
          replace hz : z ≤ 2 := hz
          conv => whnf
          refine ifB_dec (fun hz2 => ?_) (fun hz2 => ?_)
          · replace hz2 : (z : Int) < 2 := hz2
            have hz3 : z = 0 ∨ z = 1 := by omega
            rcases hz3 with rfl | rfl
            · conv => whnf
              refine And.intro (by omega) ?_
              conv => whnf
              refine And.intro hpl ?_
              conv => whnf
              refine And.intro hpl ?_
              conv => whnf
              refine ifB_ne (fun h9 => (h9 rfl).elim) (fun _ => ?_)
              conv => whnf
              refine ifB_f (notSame _) ?_
              conv => whnf
              exact ⟨1, [], ⟨rfl, rfl, rfl⟩, by omega, by dsimp only; omega⟩
            · conv => whnf
              refine And.intro (by omega) ?_
              conv => whnf
              refine And.intro (allU_cut hlp _ _ _) ?_
              conv => whnf
              refine And.intro (allU_cut hlp _ _ _) ?_
              conv => whnf
              refine ifB_ne (fun h9 => (h9 rfl).elim) (fun _ => ?_)
              conv => whnf
              refine ifB_f (notSame _) ?_
              conv => whnf
              exact ⟨2, [], ⟨rfl, rfl, rfl⟩, by omega, by dsimp only; omega⟩
          · conv => whnf
            refine And.intro (by split <;> omega) ?_
            conv => whnf
            refine TW.loopD good 0 (base := 0) (lv := [0, 1, 2, 3, 4, 5, 6, 7, 8, 9, 11, 18, 19, 20, 21, 22, 23, 24, 25, 27, 29, 31, 32, 33, 34, 35, 37, 39, 40, 41, 42, 43, 45, 46, 47, 48, 49, 51, 52, 53, 54, 55, 56, 57, 68, 77, 116, 117, 118, 119, 128, 129, 130, 131, 154, 163, 164, 165, 166, 172, 173, 174, 175, 199, 205, 206, 207, 208, 233, 240, 241, 242, 243, 275]) [165] [] [] (fun y : Nat => [.v (.int .i64 y)]) (fun _ => []) (fun y => y ≤ 3) (fun y => 3 - y) ?_
            conv => whnf
            refine ⟨⟨0, ⟨rfl, rfl, rfl⟩, by omega⟩, fun y hy => ?_⟩
            replace hy : y ≤ 3 := hy
            conv => whnf
            refine ifB_dec (fun hy2 => ?_) (fun hy2 => ?_)
            · replace hy2 : (y : Int) < 3 := hy2
              have hy3 : y = 0 ∨ y = 1 ∨ y = 2 := by omega
              rcases hy3 with rfl | rfl | rfl
              · (conv => whnf
                 refine And.intro (by omega) ?_
                 conv => whnf
                 refine And.intro ⟨hat, by omega, by omega⟩ ?_
                 conv => whnf
                 refine TW.loopD good 0 (base := 0) (lv := [0, 1, 2, 3, 4, 5, 6, 7, 8, 9, 11, 18, 19, 20, 21, 22, 23, 24, 25, 27, 29, 31, 32, 33, 34, 35, 37, 39, 40, 41, 42, 43, 45, 46, 47, 48, 49, 51, 52, 53, 54, 55, 56, 57, 68, 77, 116, 117, 118, 119, 128, 129, 130, 131, 154, 163, 164, 165, 166, 172, 173, 174, 175, 199, 205, 206, 207, 208, 233, 240, 241, 242, 243, 275]) [174] [] [] (fun i : Nat => [.v (.int .i64 i)]) (fun _ => []) (fun i => i ≤ 2) (fun i => 2 - i) ?_
                 conv => whnf
                 refine ⟨⟨0, ⟨rfl, rfl, rfl⟩, by omega⟩, fun i hi => ?_⟩
                 replace hi : i ≤ 2 := hi
                 conv => whnf
                 refine ifB_dec (fun hi2 => ?_) (fun hi2 => ?_)
                 · replace hi2 : (i : Int) < 2 := hi2
                   conv => whnf
                   refine And.intro (by omega) ?_
                   conv => whnf
                   refine And.intro aw ?_
                   conv => whnf
                   refine And.intro aw ?_
                   conv => whnf
                   refine ifB_ne (fun h9 => (h9 rfl).elim) (fun _ => ?_)
                   conv => whnf
                   refine ifB_f (by simp) ?_
                   conv => whnf
                   rw [show IntKind.i64.wrap ((i : Int) + 1) = ((i + 1 : Nat) : Int) from wrap64 (by omega) (by omega)]
                   exact ⟨i + 1, [], ⟨rfl, rfl, rfl⟩, (by omega : i + 1 ≤ 2), by dsimp only; omega⟩
                 · conv => whnf
                   refine And.intro (by omega) ?_
                   conv => whnf
                   refine And.intro (show I64 k2 from hk.2.1) ?_
                   conv => whnf
                   have hkey : ∀ i : Nat, U64 (([x, keyW k2] : List Int).getD i 0) := allU_getD (fun y hy => by
                     simp only [List.mem_cons, List.not_mem_nil, or_false] at hy
                     rcases hy with rfl | rfl
                     · exact hx
                     · exact u64_keyW _)
                   refine TW.loopD good 0 (base := 0) (lv := [0, 1, 2, 3, 4, 5, 6, 7, 8, 9, 11, 18, 19, 20, 21, 22, 23, 24, 25, 27, 29, 31, 32, 33, 34, 35, 37, 39, 40, 41, 42, 43, 45, 46, 47, 48, 49, 51, 52, 53, 54, 55, 56, 57, 68, 77, 116, 117, 118, 119, 128, 129, 130, 131, 154, 163, 164, 165, 166, 172, 173, 174, 175, 199, 205, 206, 207, 208, 233, 240, 241, 242, 243, 275]) [207] [] [] (fun i : Nat => [.v (.int .i64 i)]) (fun _ => []) (fun i => i ≤ 2) (fun i => 2 - i) ?_
                   conv => whnf
                   refine ⟨⟨0, ⟨rfl, rfl, rfl⟩, by omega⟩, fun i hi => ?_⟩
                   replace hi : i ≤ 2 := hi
                   conv => whnf
                   refine ifB_dec (fun hi2 => ?_) (fun hi2 => ?_)
                   · replace hi2 : (i : Int) < 2 := hi2
                     conv => whnf
                     refine And.intro (by omega) ?_
                     conv => whnf
                     refine And.intro ⟨aw, hkey _⟩ ?_
                     conv => whnf
                     refine And.intro ⟨aw, hkey _⟩ ?_
                     conv => whnf
                     refine ifB_ne (fun h9 => (h9 rfl).elim) (fun _ => ?_)
                     conv => whnf
                     refine ifB_f (notSame _) ?_
                     conv => whnf
                     rw [show IntKind.i64.wrap ((i : Int) + 1) = ((i + 1 : Nat) : Int) from wrap64 (by omega) (by omega)]
                     exact ⟨i + 1, [], ⟨rfl, rfl, rfl⟩, (by omega : i + 1 ≤ 2), by dsimp only; omega⟩
                   · conv => whnf
                     refine And.intro ⟨by omega, hk.1, hk.2.1, hk.2.2⟩ ?_
                     conv => whnf
                     refine TW.loopD good 0 (base := 0) (lv := [0, 1, 2, 3, 4, 5, 6, 7, 8, 9, 11, 18, 19, 20, 21, 22, 23, 24, 25, 27, 29, 31, 32, 33, 34, 35, 37, 39, 40, 41, 42, 43, 45, 46, 47, 48, 49, 51, 52, 53, 54, 55, 56, 57, 68, 77, 116, 117, 118, 119, 128, 129, 130, 131, 154, 163, 164, 165, 166, 172, 173, 174, 175, 199, 205, 206, 207, 208, 233, 240, 241, 242, 243, 275]) [242] [] [] (fun i : Nat => [.v (.int .i64 i)]) (fun _ => []) (fun i => i ≤ 2) (fun i => 2 - i) ?_
                     conv => whnf
                     refine ⟨⟨0, ⟨rfl, rfl, rfl⟩, by omega⟩, fun i hi => ?_⟩
                     replace hi : i ≤ 2 := hi
                     conv => whnf
                     refine ifB_dec (fun hi2 => ?_) (fun hi2 => ?_)
                     · replace hi2 : (i : Int) < 2 := hi2
                       have hi3 : i = 0 ∨ i = 1 := by omega
                       conv => whnf
                       refine And.intro (by omega) ?_
                       conv => whnf
                       refine And.intro ⟨aw, (by rcases hi3 with rfl | rfl; exact hop.2.1; exact (u64_keyG hx : U64 (keyG 4 k2 x))), (by rcases hi3 with rfl | rfl; exact hop.2.2; exact (u64_valG hx : U64 (valG 4 k1 k3 x)))⟩ ?_
                       conv => whnf
                       refine And.intro ⟨aw, (by rcases hi3 with rfl | rfl; exact hop.2.1; exact (u64_keyG hx : U64 (keyG 4 k2 x))), (by rcases hi3 with rfl | rfl; exact hop.2.2; exact (u64_valG hx : U64 (valG 4 k1 k3 x)))⟩ ?_
                       conv => whnf
                       refine ifB_ne (fun h9 => (h9 rfl).elim) (fun _ => ?_)
                       conv => whnf
                       refine ifB_f (by simp) ?_
                       conv => whnf
                       refine ifB_f (notSame _) ?_
                       conv => whnf
                       rw [show IntKind.i64.wrap ((i : Int) + 1) = ((i + 1 : Nat) : Int) from wrap64 (by omega) (by omega)]
                       exact ⟨i + 1, [], ⟨rfl, rfl, rfl⟩, (by omega : i + 1 ≤ 2), by dsimp only; omega⟩
                     · conv => whnf
                       exact ⟨1, [], ⟨rfl, rfl, rfl⟩, by omega, by dsimp only; omega⟩)
              · (conv => whnf
                 refine And.intro (by omega) ?_
                 conv => whnf
                 refine And.intro ⟨hat, by omega, by omega⟩ ?_
                 conv => whnf
                 refine TW.loopD good 0 (base := 0) (lv := [0, 1, 2, 3, 4, 5, 6, 7, 8, 9, 11, 18, 19, 20, 21, 22, 23, 24, 25, 27, 29, 31, 32, 33, 34, 35, 37, 39, 40, 41, 42, 43, 45, 46, 47, 48, 49, 51, 52, 53, 54, 55, 56, 57, 68, 77, 116, 117, 118, 119, 128, 129, 130, 131, 154, 163, 164, 165, 166, 172, 173, 174, 175, 199, 205, 206, 207, 208, 233, 240, 241, 242, 243, 275]) [174] [] [] (fun i : Nat => [.v (.int .i64 i)]) (fun _ => []) (fun i => i ≤ 2) (fun i => 2 - i) ?_
                 conv => whnf
                 refine ⟨⟨0, ⟨rfl, rfl, rfl⟩, by omega⟩, fun i hi => ?_⟩
                 replace hi : i ≤ 2 := hi
                 conv => whnf
                 refine ifB_dec (fun hi2 => ?_) (fun hi2 => ?_)
                 · replace hi2 : (i : Int) < 2 := hi2
                   conv => whnf
                   refine And.intro (by omega) ?_
                   conv => whnf
                   refine And.intro hT ?_
                   conv => whnf
                   refine And.intro hT ?_
                   conv => whnf
                   refine ifB_ne (fun h9 => (h9 rfl).elim) (fun _ => ?_)
                   conv => whnf
                   refine ifB_f (by simp) ?_
                   conv => whnf
                   rw [show IntKind.i64.wrap ((i : Int) + 1) = ((i + 1 : Nat) : Int) from wrap64 (by omega) (by omega)]
                   exact ⟨i + 1, [], ⟨rfl, rfl, rfl⟩, (by omega : i + 1 ≤ 2), by dsimp only; omega⟩
                 · conv => whnf
                   refine And.intro (by omega) ?_
                   conv => whnf
                   refine And.intro (show I64 k2 from hk.2.1) ?_
                   conv => whnf
                   have hkey : ∀ i : Nat, U64 (([x, keyW k2] : List Int).getD i 0) := allU_getD (fun y hy => by
                     simp only [List.mem_cons, List.not_mem_nil, or_false] at hy
                     rcases hy with rfl | rfl
                     · exact hx
                     · exact u64_keyW _)
                   refine TW.loopD good 0 (base := 0) (lv := [0, 1, 2, 3, 4, 5, 6, 7, 8, 9, 11, 18, 19, 20, 21, 22, 23, 24, 25, 27, 29, 31, 32, 33, 34, 35, 37, 39, 40, 41, 42, 43, 45, 46, 47, 48, 49, 51, 52, 53, 54, 55, 56, 57, 68, 77, 116, 117, 118, 119, 128, 129, 130, 131, 154, 163, 164, 165, 166, 172, 173, 174, 175, 199, 205, 206, 207, 208, 233, 240, 241, 242, 243, 275]) [207] [] [] (fun i : Nat => [.v (.int .i64 i)]) (fun _ => []) (fun i => i ≤ 2) (fun i => 2 - i) ?_
                   conv => whnf
                   refine ⟨⟨0, ⟨rfl, rfl, rfl⟩, by omega⟩, fun i hi => ?_⟩
                   replace hi : i ≤ 2 := hi
                   conv => whnf
                   refine ifB_dec (fun hi2 => ?_) (fun hi2 => ?_)
                   · replace hi2 : (i : Int) < 2 := hi2
                     conv => whnf
                     refine And.intro (by omega) ?_
                     conv => whnf
                     refine And.intro ⟨hT, hkey _⟩ ?_
                     conv => whnf
                     refine And.intro ⟨hT, hkey _⟩ ?_
                     conv => whnf
                     refine ifB_ne (fun h9 => (h9 rfl).elim) (fun _ => ?_)
                     conv => whnf
                     refine ifB_f (notSame _) ?_
                     conv => whnf
                     rw [show IntKind.i64.wrap ((i : Int) + 1) = ((i + 1 : Nat) : Int) from wrap64 (by omega) (by omega)]
                     exact ⟨i + 1, [], ⟨rfl, rfl, rfl⟩, (by omega : i + 1 ≤ 2), by dsimp only; omega⟩
                   · conv => whnf
                     refine And.intro ⟨by omega, hk.1, hk.2.1, hk.2.2⟩ ?_
                     conv => whnf
                     refine TW.loopD good 0 (base := 0) (lv := [0, 1, 2, 3, 4, 5, 6, 7, 8, 9, 11, 18, 19, 20, 21, 22, 23, 24, 25, 27, 29, 31, 32, 33, 34, 35, 37, 39, 40, 41, 42, 43, 45, 46, 47, 48, 49, 51, 52, 53, 54, 55, 56, 57, 68, 77, 116, 117, 118, 119, 128, 129, 130, 131, 154, 163, 164, 165, 166, 172, 173, 174, 175, 199, 205, 206, 207, 208, 233, 240, 241, 242, 243, 275]) [242] [] [] (fun i : Nat => [.v (.int .i64 i)]) (fun _ => []) (fun i => i ≤ 2) (fun i => 2 - i) ?_
                     conv => whnf
                     refine ⟨⟨0, ⟨rfl, rfl, rfl⟩, by omega⟩, fun i hi => ?_⟩
                     replace hi : i ≤ 2 := hi
                     conv => whnf
                     refine ifB_dec (fun hi2 => ?_) (fun hi2 => ?_)
                     · replace hi2 : (i : Int) < 2 := hi2
                       have hi3 : i = 0 ∨ i = 1 := by omega
                       conv => whnf
                       refine And.intro (by omega) ?_
                       conv => whnf
                       refine And.intro ⟨hT, (by rcases hi3 with rfl | rfl; exact hop.2.1; exact (u64_keyG hx : U64 (keyG 4 k2 x))), (by rcases hi3 with rfl | rfl; exact hop.2.2; exact (u64_valG hx : U64 (valG 4 k1 k3 x)))⟩ ?_
                       conv => whnf
                       refine And.intro ⟨hT, (by rcases hi3 with rfl | rfl; exact hop.2.1; exact (u64_keyG hx : U64 (keyG 4 k2 x))), (by rcases hi3 with rfl | rfl; exact hop.2.2; exact (u64_valG hx : U64 (valG 4 k1 k3 x)))⟩ ?_
                       conv => whnf
                       refine ifB_ne (fun h9 => (h9 rfl).elim) (fun _ => ?_)
                       conv => whnf
                       refine ifB_f (by simp) ?_
                       conv => whnf
                       refine ifB_f (notSame _) ?_
                       conv => whnf
                       rw [show IntKind.i64.wrap ((i : Int) + 1) = ((i + 1 : Nat) : Int) from wrap64 (by omega) (by omega)]
                       exact ⟨i + 1, [], ⟨rfl, rfl, rfl⟩, (by omega : i + 1 ≤ 2), by dsimp only; omega⟩
                     · conv => whnf
                       exact ⟨2, [], ⟨rfl, rfl, rfl⟩, by omega, by dsimp only; omega⟩)
              · (conv => whnf
                 refine And.intro (by omega) ?_
                 conv => whnf
                 refine And.intro ⟨hat, by omega, by omega⟩ ?_
                 conv => whnf
                 refine TW.loopD good 0 (base := 0) (lv := [0, 1, 2, 3, 4, 5, 6, 7, 8, 9, 11, 18, 19, 20, 21, 22, 23, 24, 25, 27, 29, 31, 32, 33, 34, 35, 37, 39, 40, 41, 42, 43, 45, 46, 47, 48, 49, 51, 52, 53, 54, 55, 56, 57, 68, 77, 116, 117, 118, 119, 128, 129, 130, 131, 154, 163, 164, 165, 166, 172, 173, 174, 175, 199, 205, 206, 207, 208, 233, 240, 241, 242, 243, 275]) [174] [] [] (fun i : Nat => [.v (.int .i64 i)]) (fun _ => []) (fun i => i ≤ 2) (fun i => 2 - i) ?_
                 conv => whnf
                 refine ⟨⟨0, ⟨rfl, rfl, rfl⟩, by omega⟩, fun i hi => ?_⟩
                 replace hi : i ≤ 2 := hi
                 conv => whnf
                 refine ifB_dec (fun hi2 => ?_) (fun hi2 => ?_)
                 · replace hi2 : (i : Int) < 2 := hi2
                   conv => whnf
                   refine And.intro (by omega) ?_
                   conv => whnf
                   refine And.intro (allU_cut hw _ _ _) ?_
                   conv => whnf
                   refine And.intro (allU_cut hw _ _ _) ?_
                   conv => whnf
                   refine ifB_ne (fun h9 => (h9 rfl).elim) (fun _ => ?_)
                   conv => whnf
                   refine ifB_f (by simp) ?_
                   conv => whnf
                   rw [show IntKind.i64.wrap ((i : Int) + 1) = ((i + 1 : Nat) : Int) from wrap64 (by omega) (by omega)]
                   exact ⟨i + 1, [], ⟨rfl, rfl, rfl⟩, (by omega : i + 1 ≤ 2), by dsimp only; omega⟩
                 · conv => whnf
                   refine And.intro (by omega) ?_
                   conv => whnf
                   refine And.intro (show I64 k2 from hk.2.1) ?_
                   conv => whnf
                   have hkey : ∀ i : Nat, U64 (([x, keyW k2] : List Int).getD i 0) := allU_getD (fun y hy => by
                     simp only [List.mem_cons, List.not_mem_nil, or_false] at hy
                     rcases hy with rfl | rfl
                     · exact hx
                     · exact u64_keyW _)
                   refine TW.loopD good 0 (base := 0) (lv := [0, 1, 2, 3, 4, 5, 6, 7, 8, 9, 11, 18, 19, 20, 21, 22, 23, 24, 25, 27, 29, 31, 32, 33, 34, 35, 37, 39, 40, 41, 42, 43, 45, 46, 47, 48, 49, 51, 52, 53, 54, 55, 56, 57, 68, 77, 116, 117, 118, 119, 128, 129, 130, 131, 154, 163, 164, 165, 166, 172, 173, 174, 175, 199, 205, 206, 207, 208, 233, 240, 241, 242, 243, 275]) [207] [] [] (fun i : Nat => [.v (.int .i64 i)]) (fun _ => []) (fun i => i ≤ 2) (fun i => 2 - i) ?_
                   conv => whnf
                   refine ⟨⟨0, ⟨rfl, rfl, rfl⟩, by omega⟩, fun i hi => ?_⟩
                   replace hi : i ≤ 2 := hi
                   conv => whnf
                   refine ifB_dec (fun hi2 => ?_) (fun hi2 => ?_)
                   · replace hi2 : (i : Int) < 2 := hi2
                     conv => whnf
                     refine And.intro (by omega) ?_
                     conv => whnf
                     refine And.intro ⟨(allU_cut hw _ _ _), hkey _⟩ ?_
                     conv => whnf
                     refine And.intro ⟨(allU_cut hw _ _ _), hkey _⟩ ?_
                     conv => whnf
                     refine ifB_ne (fun h9 => (h9 rfl).elim) (fun _ => ?_)
                     conv => whnf
                     refine ifB_f (notSame _) ?_
                     conv => whnf
                     rw [show IntKind.i64.wrap ((i : Int) + 1) = ((i + 1 : Nat) : Int) from wrap64 (by omega) (by omega)]
                     exact ⟨i + 1, [], ⟨rfl, rfl, rfl⟩, (by omega : i + 1 ≤ 2), by dsimp only; omega⟩
                   · conv => whnf
                     refine And.intro ⟨by omega, hk.1, hk.2.1, hk.2.2⟩ ?_
                     conv => whnf
                     refine TW.loopD good 0 (base := 0) (lv := [0, 1, 2, 3, 4, 5, 6, 7, 8, 9, 11, 18, 19, 20, 21, 22, 23, 24, 25, 27, 29, 31, 32, 33, 34, 35, 37, 39, 40, 41, 42, 43, 45, 46, 47, 48, 49, 51, 52, 53, 54, 55, 56, 57, 68, 77, 116, 117, 118, 119, 128, 129, 130, 131, 154, 163, 164, 165, 166, 172, 173, 174, 175, 199, 205, 206, 207, 208, 233, 240, 241, 242, 243, 275]) [242] [] [] (fun i : Nat => [.v (.int .i64 i)]) (fun _ => []) (fun i => i ≤ 2) (fun i => 2 - i) ?_
                     conv => whnf
                     refine ⟨⟨0, ⟨rfl, rfl, rfl⟩, by omega⟩, fun i hi => ?_⟩
                     replace hi : i ≤ 2 := hi
                     conv => whnf
                     refine ifB_dec (fun hi2 => ?_) (fun hi2 => ?_)
                     · replace hi2 : (i : Int) < 2 := hi2
                       have hi3 : i = 0 ∨ i = 1 := by omega
                       conv => whnf
                       refine And.intro (by omega) ?_
                       conv => whnf
                       refine And.intro ⟨(allU_cut hw _ _ _), (by rcases hi3 with rfl | rfl; exact hop.2.1; exact (u64_keyG hx : U64 (keyG 4 k2 x))), (by rcases hi3 with rfl | rfl; exact hop.2.2; exact (u64_valG hx : U64 (valG 4 k1 k3 x)))⟩ ?_
                       conv => whnf
                       refine And.intro ⟨(allU_cut hw _ _ _), (by rcases hi3 with rfl | rfl; exact hop.2.1; exact (u64_keyG hx : U64 (keyG 4 k2 x))), (by rcases hi3 with rfl | rfl; exact hop.2.2; exact (u64_valG hx : U64 (valG 4 k1 k3 x)))⟩ ?_
                       conv => whnf
                       refine ifB_ne (fun h9 => (h9 rfl).elim) (fun _ => ?_)
                       conv => whnf
                       refine ifB_f (by simp) ?_
                       conv => whnf
                       refine ifB_f (notSame _) ?_
                       conv => whnf
                       rw [show IntKind.i64.wrap ((i : Int) + 1) = ((i + 1 : Nat) : Int) from wrap64 (by omega) (by omega)]
                       exact ⟨i + 1, [], ⟨rfl, rfl, rfl⟩, (by omega : i + 1 ≤ 2), by dsimp only; omega⟩
                     · conv => whnf
                       exact ⟨3, [], ⟨rfl, rfl, rfl⟩, by omega, by dsimp only; omega⟩)
            · conv => whnf
              rw [show IntKind.i64.wrap ((d : Int) + 1) = ((d + 1 : Nat) : Int) from wrap64 (by omega) (by omega)]
              exact ⟨d + 1, [], ⟨rfl, rfl, rfl⟩, (by omega : d + 1 ≤ 2), by dsimp only; omega⟩
        · conv => whnf)
     · refine ifB_f (show decide ((((j, pl) : Nat × List Int).1 : Int) < n1) = false from decide_eq_false (by dsimp only; omega)) ?_
       conv => whnf
       (refine And.intro ⟨.inr (.inr rfl), hf, hst⟩ ?_
        conv => whnf
        rw [Int.toNat_natCast, hks, hvs, hn]
        refine And.intro ⟨⟨rfl, rfl, rfl, rfl⟩, hV, hf, hri⟩ ?_
        conv => whnf
        rw [hxs, hL]
        repeat (refine And.intro (by first | omega | (show (2 + 4 * m) * 8 ≤ 140737488355328; omega)) ?_; conv => whnf)
        refine And.intro ⟨hat, by omega, by omega⟩ ?_
        conv => whnf
        obtain ⟨c1, c2⟩ := ipick_bounds at_ (n := ((2 + 4 * m : Nat) : Int)) (by omega)
        repeat (refine And.intro (by omega) ?_; conv => whnf)
        have hT : AllU (L.set (0 + addN 0 (ipick at_ ((2 + 4 * m : Nat) : Int)).toNat * (0 + 1) + 0) x) := allU_set aw _ hx
        refine TW.loopD good 0 (base := 0) (lv := [0, 1, 2, 3, 4, 5, 6, 7, 8, 9, 11, 18, 19, 20, 21, 22, 23, 24, 25, 27, 29, 31, 32, 33, 34, 35, 37, 39, 40, 41, 42, 43, 45, 46, 47, 48, 49, 51, 52, 53, 54, 55, 56, 57, 68, 77, 116, 117, 118, 119, 128, 129, 130, 131, 154, 163, 164, 165, 166, 172, 173, 174, 175, 199, 205, 206, 207, 208, 233, 240, 241, 242, 243, 275]) [118] [] [] (fun d : Nat => [.v (.int .i64 d)]) (fun _ => []) (fun d => d ≤ 2) (fun d => 2 - d) ?_
        conv => whnf
        refine ⟨⟨0, ⟨rfl, rfl, rfl⟩, by omega⟩, fun d hd => ?_⟩
        replace hd : d ≤ 2 := hd
        conv => whnf
        refine ifB_dec (fun hd2 => ?_) (fun hd2 => ?_)
        · replace hd2 : (d : Int) < 2 := hd2
          conv => whnf
          refine And.intro (by omega) ?_
          conv => whnf
          refine And.intro (by split <;> omega) ?_
          conv => whnf
          refine TW.loopD good 0 (base := 0) (lv := [0, 1, 2, 3, 4, 5, 6, 7, 8, 9, 11, 18, 19, 20, 21, 22, 23, 24, 25, 27, 29, 31, 32, 33, 34, 35, 37, 39, 40, 41, 42, 43, 45, 46, 47, 48, 49, 51, 52, 53, 54, 55, 56, 57, 68, 77, 116, 117, 118, 119, 128, 129, 130, 131, 154, 163, 164, 165, 166, 172, 173, 174, 175, 199, 205, 206, 207, 208, 233, 240, 241, 242, 243, 275]) [130] [] [] (fun z : Nat => [.v (.int .i64 z)]) (fun _ => []) (fun z => z ≤ 2) (fun z => 2 - z) ?_
          conv => whnf
          refine ⟨⟨0, ⟨rfl, rfl, rfl⟩, by omega⟩, fun z hz => ?_⟩
          replace hz : z ≤ 2 := hz
          conv => whnf
          refine ifB_dec (fun hz2 => ?_) (fun hz2 => ?_)
          · replace hz2 : (z : Int) < 2 := hz2
            have hz3 : z = 0 ∨ z = 1 := by omega
            rcases hz3 with rfl | rfl
            · conv => whnf
              refine And.intro (by omega) ?_
              conv => whnf
              refine And.intro hpl ?_
              conv => whnf
              refine And.intro hpl ?_
              conv => whnf
              refine ifB_ne (fun h9 => (h9 rfl).elim) (fun _ => ?_)
              conv => whnf
              refine ifB_f (notSame _) ?_
              conv => whnf
              exact ⟨1, [], ⟨rfl, rfl, rfl⟩, by omega, by dsimp only; omega⟩
            · conv => whnf
              refine And.intro (by omega) ?_
              conv => whnf
              refine And.intro (allU_cut hlp _ _ _) ?_
              conv => whnf
              refine And.intro (allU_cut hlp _ _ _) ?_
              conv => whnf
              refine ifB_ne (fun h9 => (h9 rfl).elim) (fun _ => ?_)
              conv => whnf
              refine ifB_f (notSame _) ?_
              conv => whnf
              exact ⟨2, [], ⟨rfl, rfl, rfl⟩, by omega, by dsimp only; omega⟩
          · conv => whnf
            refine And.intro (by split <;> omega) ?_
            conv => whnf
            refine TW.loopD good 0 (base := 0) (lv := [0, 1, 2, 3, 4, 5, 6, 7, 8, 9, 11, 18, 19, 20, 21, 22, 23, 24, 25, 27, 29, 31, 32, 33, 34, 35, 37, 39, 40, 41, 42, 43, 45, 46, 47, 48, 49, 51, 52, 53, 54, 55, 56, 57, 68, 77, 116, 117, 118, 119, 128, 129, 130, 131, 154, 163, 164, 165, 166, 172, 173, 174, 175, 199, 205, 206, 207, 208, 233, 240, 241, 242, 243, 275]) [165] [] [] (fun y : Nat => [.v (.int .i64 y)]) (fun _ => []) (fun y => y ≤ 3) (fun y => 3 - y) ?_
            conv => whnf
            refine ⟨⟨0, ⟨rfl, rfl, rfl⟩, by omega⟩, fun y hy => ?_⟩
            replace hy : y ≤ 3 := hy
            conv => whnf
            refine ifB_dec (fun hy2 => ?_) (fun hy2 => ?_)
            · replace hy2 : (y : Int) < 3 := hy2
              have hy3 : y = 0 ∨ y = 1 ∨ y = 2 := by omega
              rcases hy3 with rfl | rfl | rfl
              · (conv => whnf
                 refine And.intro (by omega) ?_
                 conv => whnf
                 refine And.intro ⟨hat, by omega, by omega⟩ ?_
                 conv => whnf
                 refine TW.loopD good 0 (base := 0) (lv := [0, 1, 2, 3, 4, 5, 6, 7, 8, 9, 11, 18, 19, 20, 21, 22, 23, 24, 25, 27, 29, 31, 32, 33, 34, 35, 37, 39, 40, 41, 42, 43, 45, 46, 47, 48, 49, 51, 52, 53, 54, 55, 56, 57, 68, 77, 116, 117, 118, 119, 128, 129, 130, 131, 154, 163, 164, 165, 166, 172, 173, 174, 175, 199, 205, 206, 207, 208, 233, 240, 241, 242, 243, 275]) [174] [] [] (fun i : Nat => [.v (.int .i64 i)]) (fun _ => []) (fun i => i ≤ 2) (fun i => 2 - i) ?_
                 conv => whnf
                 refine ⟨⟨0, ⟨rfl, rfl, rfl⟩, by omega⟩, fun i hi => ?_⟩
                 replace hi : i ≤ 2 := hi
                 conv => whnf
                 refine ifB_dec (fun hi2 => ?_) (fun hi2 => ?_)
                 · replace hi2 : (i : Int) < 2 := hi2
                   conv => whnf
                   refine And.intro (by omega) ?_
                   conv => whnf
                   refine And.intro aw ?_
                   conv => whnf
                   refine And.intro aw ?_
                   conv => whnf
                   refine ifB_ne (fun h9 => (h9 rfl).elim) (fun _ => ?_)
                   conv => whnf
                   refine ifB_f (by simp) ?_
                   conv => whnf
                   rw [show IntKind.i64.wrap ((i : Int) + 1) = ((i + 1 : Nat) : Int) from wrap64 (by omega) (by omega)]
                   exact ⟨i + 1, [], ⟨rfl, rfl, rfl⟩, (by omega : i + 1 ≤ 2), by dsimp only; omega⟩
                 · conv => whnf
                   refine And.intro (by omega) ?_
                   conv => whnf
                   refine And.intro (show I64 k2 from hk.2.1) ?_
                   conv => whnf
                   have hkey : ∀ i : Nat, U64 (([x, keyW k2] : List Int).getD i 0) := allU_getD (fun y hy => by
                     simp only [List.mem_cons, List.not_mem_nil, or_false] at hy
                     rcases hy with rfl | rfl
                     · exact hx
                     · exact u64_keyW _)
                   refine TW.loopD good 0 (base := 0) (lv := [0, 1, 2, 3, 4, 5, 6, 7, 8, 9, 11, 18, 19, 20, 21, 22, 23, 24, 25, 27, 29, 31, 32, 33, 34, 35, 37, 39, 40, 41, 42, 43, 45, 46, 47, 48, 49, 51, 52, 53, 54, 55, 56, 57, 68, 77, 116, 117, 118, 119, 128, 129, 130, 131, 154, 163, 164, 165, 166, 172, 173, 174, 175, 199, 205, 206, 207, 208, 233, 240, 241, 242, 243, 275]) [207] [] [] (fun i : Nat => [.v (.int .i64 i)]) (fun _ => []) (fun i => i ≤ 2) (fun i => 2 - i) ?_
                   conv => whnf
                   refine ⟨⟨0, ⟨rfl, rfl, rfl⟩, by omega⟩, fun i hi => ?_⟩
                   replace hi : i ≤ 2 := hi
                   conv => whnf
                   refine ifB_dec (fun hi2 => ?_) (fun hi2 => ?_)
                   · replace hi2 : (i : Int) < 2 := hi2
                     conv => whnf
                     refine And.intro (by omega) ?_
                     conv => whnf
                     refine And.intro ⟨aw, hkey _⟩ ?_
                     conv => whnf
                     refine And.intro ⟨aw, hkey _⟩ ?_
                     conv => whnf
                     refine ifB_ne (fun h9 => (h9 rfl).elim) (fun _ => ?_)
                     conv => whnf
                     refine ifB_f (notSame _) ?_
                     conv => whnf
                     rw [show IntKind.i64.wrap ((i : Int) + 1) = ((i + 1 : Nat) : Int) from wrap64 (by omega) (by omega)]
                     exact ⟨i + 1, [], ⟨rfl, rfl, rfl⟩, (by omega : i + 1 ≤ 2), by dsimp only; omega⟩
                   · conv => whnf
                     refine And.intro ⟨by omega, hk.1, hk.2.1, hk.2.2⟩ ?_
                     conv => whnf
                     refine TW.loopD good 0 (base := 0) (lv := [0, 1, 2, 3, 4, 5, 6, 7, 8, 9, 11, 18, 19, 20, 21, 22, 23, 24, 25, 27, 29, 31, 32, 33, 34, 35, 37, 39, 40, 41, 42, 43, 45, 46, 47, 48, 49, 51, 52, 53, 54, 55, 56, 57, 68, 77, 116, 117, 118, 119, 128, 129, 130, 131, 154, 163, 164, 165, 166, 172, 173, 174, 175, 199, 205, 206, 207, 208, 233, 240, 241, 242, 243, 275]) [242] [] [] (fun i : Nat => [.v (.int .i64 i)]) (fun _ => []) (fun i => i ≤ 2) (fun i => 2 - i) ?_
                     conv => whnf
                     refine ⟨⟨0, ⟨rfl, rfl, rfl⟩, by omega⟩, fun i hi => ?_⟩
                     replace hi : i ≤ 2 := hi
                     conv => whnf
                     refine ifB_dec (fun hi2 => ?_) (fun hi2 => ?_)
                     · replace hi2 : (i : Int) < 2 := hi2
                       have hi3 : i = 0 ∨ i = 1 := by omega
                       conv => whnf
                       refine And.intro (by omega) ?_
                       conv => whnf
                       refine And.intro ⟨aw, (by rcases hi3 with rfl | rfl; exact hop.2.1; exact (u64_keyG hx : U64 (keyG 4 k2 x))), (by rcases hi3 with rfl | rfl; exact hop.2.2; exact (u64_valG hx : U64 (valG 4 k1 k3 x)))⟩ ?_
                       conv => whnf
                       refine And.intro ⟨aw, (by rcases hi3 with rfl | rfl; exact hop.2.1; exact (u64_keyG hx : U64 (keyG 4 k2 x))), (by rcases hi3 with rfl | rfl; exact hop.2.2; exact (u64_valG hx : U64 (valG 4 k1 k3 x)))⟩ ?_
                       conv => whnf
                       refine ifB_ne (fun h9 => (h9 rfl).elim) (fun _ => ?_)
                       conv => whnf
                       refine ifB_f (by simp) ?_
                       conv => whnf
                       refine ifB_f (notSame _) ?_
                       conv => whnf
                       rw [show IntKind.i64.wrap ((i : Int) + 1) = ((i + 1 : Nat) : Int) from wrap64 (by omega) (by omega)]
                       exact ⟨i + 1, [], ⟨rfl, rfl, rfl⟩, (by omega : i + 1 ≤ 2), by dsimp only; omega⟩
                     · conv => whnf
                       exact ⟨1, [], ⟨rfl, rfl, rfl⟩, by omega, by dsimp only; omega⟩)
              · (conv => whnf
                 refine And.intro (by omega) ?_
                 conv => whnf
                 refine And.intro ⟨hat, by omega, by omega⟩ ?_
                 conv => whnf
                 refine TW.loopD good 0 (base := 0) (lv := [0, 1, 2, 3, 4, 5, 6, 7, 8, 9, 11, 18, 19, 20, 21, 22, 23, 24, 25, 27, 29, 31, 32, 33, 34, 35, 37, 39, 40, 41, 42, 43, 45, 46, 47, 48, 49, 51, 52, 53, 54, 55, 56, 57, 68, 77, 116, 117, 118, 119, 128, 129, 130, 131, 154, 163, 164, 165, 166, 172, 173, 174, 175, 199, 205, 206, 207, 208, 233, 240, 241, 242, 243, 275]) [174] [] [] (fun i : Nat => [.v (.int .i64 i)]) (fun _ => []) (fun i => i ≤ 2) (fun i => 2 - i) ?_
                 conv => whnf
                 refine ⟨⟨0, ⟨rfl, rfl, rfl⟩, by omega⟩, fun i hi => ?_⟩
                 replace hi : i ≤ 2 := hi
                 conv => whnf
                 refine ifB_dec (fun hi2 => ?_) (fun hi2 => ?_)
                 · replace hi2 : (i : Int) < 2 := hi2
                   conv => whnf
                   refine And.intro (by omega) ?_
                   conv => whnf
                   refine And.intro hT ?_
                   conv => whnf
                   refine And.intro hT ?_
                   conv => whnf
                   refine ifB_ne (fun h9 => (h9 rfl).elim) (fun _ => ?_)
                   conv => whnf
                   refine ifB_f (by simp) ?_
                   conv => whnf
                   rw [show IntKind.i64.wrap ((i : Int) + 1) = ((i + 1 : Nat) : Int) from wrap64 (by omega) (by omega)]
                   exact ⟨i + 1, [], ⟨rfl, rfl, rfl⟩, (by omega : i + 1 ≤ 2), by dsimp only; omega⟩
                 · conv => whnf
                   refine And.intro (by omega) ?_
                   conv => whnf
                   refine And.intro (show I64 k2 from hk.2.1) ?_
                   conv => whnf
                   have hkey : ∀ i : Nat, U64 (([x, keyW k2] : List Int).getD i 0) := allU_getD (fun y hy => by
                     simp only [List.mem_cons, List.not_mem_nil, or_false] at hy
                     rcases hy with rfl | rfl
                     · exact hx
                     · exact u64_keyW _)
                   refine TW.loopD good 0 (base := 0) (lv := [0, 1, 2, 3, 4, 5, 6, 7, 8, 9, 11, 18, 19, 20, 21, 22, 23, 24, 25, 27, 29, 31, 32, 33, 34, 35, 37, 39, 40, 41, 42, 43, 45, 46, 47, 48, 49, 51, 52, 53, 54, 55, 56, 57, 68, 77, 116, 117, 118, 119, 128, 129, 130, 131, 154, 163, 164, 165, 166, 172, 173, 174, 175, 199, 205, 206, 207, 208, 233, 240, 241, 242, 243, 275]) [207] [] [] (fun i : Nat => [.v (.int .i64 i)]) (fun _ => []) (fun i => i ≤ 2) (fun i => 2 - i) ?_
                   conv => whnf
                   refine ⟨⟨0, ⟨rfl, rfl, rfl⟩, by omega⟩, fun i hi => ?_⟩
                   replace hi : i ≤ 2 := hi
                   conv => whnf
                   refine ifB_dec (fun hi2 => ?_) (fun hi2 => ?_)
                   · replace hi2 : (i : Int) < 2 := hi2
                     conv => whnf
                     refine And.intro (by omega) ?_
                     conv => whnf
                     refine And.intro ⟨hT, hkey _⟩ ?_
                     conv => whnf
                     refine And.intro ⟨hT, hkey _⟩ ?_
                     conv => whnf
                     refine ifB_ne (fun h9 => (h9 rfl).elim) (fun _ => ?_)
                     conv => whnf
                     refine ifB_f (notSame _) ?_
                     conv => whnf
                     rw [show IntKind.i64.wrap ((i : Int) + 1) = ((i + 1 : Nat) : Int) from wrap64 (by omega) (by omega)]
                     exact ⟨i + 1, [], ⟨rfl, rfl, rfl⟩, (by omega : i + 1 ≤ 2), by dsimp only; omega⟩
                   · conv => whnf
                     refine And.intro ⟨by omega, hk.1, hk.2.1, hk.2.2⟩ ?_
                     conv => whnf
                     refine TW.loopD good 0 (base := 0) (lv := [0, 1, 2, 3, 4, 5, 6, 7, 8, 9, 11, 18, 19, 20, 21, 22, 23, 24, 25, 27, 29, 31, 32, 33, 34, 35, 37, 39, 40, 41, 42, 43, 45, 46, 47, 48, 49, 51, 52, 53, 54, 55, 56, 57, 68, 77, 116, 117, 118, 119, 128, 129, 130, 131, 154, 163, 164, 165, 166, 172, 173, 174, 175, 199, 205, 206, 207, 208, 233, 240, 241, 242, 243, 275]) [242] [] [] (fun i : Nat => [.v (.int .i64 i)]) (fun _ => []) (fun i => i ≤ 2) (fun i => 2 - i) ?_
                     conv => whnf
                     refine ⟨⟨0, ⟨rfl, rfl, rfl⟩, by omega⟩, fun i hi => ?_⟩
                     replace hi : i ≤ 2 := hi
                     conv => whnf
                     refine ifB_dec (fun hi2 => ?_) (fun hi2 => ?_)
                     · replace hi2 : (i : Int) < 2 := hi2
                       have hi3 : i = 0 ∨ i = 1 := by omega
                       conv => whnf
                       refine And.intro (by omega) ?_
                       conv => whnf
                       refine And.intro ⟨hT, (by rcases hi3 with rfl | rfl; exact hop.2.1; exact (u64_keyG hx : U64 (keyG 4 k2 x))), (by rcases hi3 with rfl | rfl; exact hop.2.2; exact (u64_valG hx : U64 (valG 4 k1 k3 x)))⟩ ?_
                       conv => whnf
                       refine And.intro ⟨hT, (by rcases hi3 with rfl | rfl; exact hop.2.1; exact (u64_keyG hx : U64 (keyG 4 k2 x))), (by rcases hi3 with rfl | rfl; exact hop.2.2; exact (u64_valG hx : U64 (valG 4 k1 k3 x)))⟩ ?_
                       conv => whnf
                       refine ifB_ne (fun h9 => (h9 rfl).elim) (fun _ => ?_)
                       conv => whnf
                       refine ifB_f (by simp) ?_
                       conv => whnf
                       refine ifB_f (notSame _) ?_
                       conv => whnf
                       rw [show IntKind.i64.wrap ((i : Int) + 1) = ((i + 1 : Nat) : Int) from wrap64 (by omega) (by omega)]
                       exact ⟨i + 1, [], ⟨rfl, rfl, rfl⟩, (by omega : i + 1 ≤ 2), by dsimp only; omega⟩
                     · conv => whnf
                       exact ⟨2, [], ⟨rfl, rfl, rfl⟩, by omega, by dsimp only; omega⟩)
              · (conv => whnf
                 refine And.intro (by omega) ?_
                 conv => whnf
                 refine And.intro ⟨hat, by omega, by omega⟩ ?_
                 conv => whnf
                 refine TW.loopD good 0 (base := 0) (lv := [0, 1, 2, 3, 4, 5, 6, 7, 8, 9, 11, 18, 19, 20, 21, 22, 23, 24, 25, 27, 29, 31, 32, 33, 34, 35, 37, 39, 40, 41, 42, 43, 45, 46, 47, 48, 49, 51, 52, 53, 54, 55, 56, 57, 68, 77, 116, 117, 118, 119, 128, 129, 130, 131, 154, 163, 164, 165, 166, 172, 173, 174, 175, 199, 205, 206, 207, 208, 233, 240, 241, 242, 243, 275]) [174] [] [] (fun i : Nat => [.v (.int .i64 i)]) (fun _ => []) (fun i => i ≤ 2) (fun i => 2 - i) ?_
                 conv => whnf
                 refine ⟨⟨0, ⟨rfl, rfl, rfl⟩, by omega⟩, fun i hi => ?_⟩
                 replace hi : i ≤ 2 := hi
                 conv => whnf
                 refine ifB_dec (fun hi2 => ?_) (fun hi2 => ?_)
                 · replace hi2 : (i : Int) < 2 := hi2
                   conv => whnf
                   refine And.intro (by omega) ?_
                   conv => whnf
                   refine And.intro (allU_cut hw _ _ _) ?_
                   conv => whnf
                   refine And.intro (allU_cut hw _ _ _) ?_
                   conv => whnf
                   refine ifB_ne (fun h9 => (h9 rfl).elim) (fun _ => ?_)
                   conv => whnf
                   refine ifB_f (by simp) ?_
                   conv => whnf
                   rw [show IntKind.i64.wrap ((i : Int) + 1) = ((i + 1 : Nat) : Int) from wrap64 (by omega) (by omega)]
                   exact ⟨i + 1, [], ⟨rfl, rfl, rfl⟩, (by omega : i + 1 ≤ 2), by dsimp only; omega⟩
                 · conv => whnf
                   refine And.intro (by omega) ?_
                   conv => whnf
                   refine And.intro (show I64 k2 from hk.2.1) ?_
                   conv => whnf
                   have hkey : ∀ i : Nat, U64 (([x, keyW k2] : List Int).getD i 0) := allU_getD (fun y hy => by
                     simp only [List.mem_cons, List.not_mem_nil, or_false] at hy
                     rcases hy with rfl | rfl
                     · exact hx
                     · exact u64_keyW _)
                   refine TW.loopD good 0 (base := 0) (lv := [0, 1, 2, 3, 4, 5, 6, 7, 8, 9, 11, 18, 19, 20, 21, 22, 23, 24, 25, 27, 29, 31, 32, 33, 34, 35, 37, 39, 40, 41, 42, 43, 45, 46, 47, 48, 49, 51, 52, 53, 54, 55, 56, 57, 68, 77, 116, 117, 118, 119, 128, 129, 130, 131, 154, 163, 164, 165, 166, 172, 173, 174, 175, 199, 205, 206, 207, 208, 233, 240, 241, 242, 243, 275]) [207] [] [] (fun i : Nat => [.v (.int .i64 i)]) (fun _ => []) (fun i => i ≤ 2) (fun i => 2 - i) ?_
                   conv => whnf
                   refine ⟨⟨0, ⟨rfl, rfl, rfl⟩, by omega⟩, fun i hi => ?_⟩
                   replace hi : i ≤ 2 := hi
                   conv => whnf
                   refine ifB_dec (fun hi2 => ?_) (fun hi2 => ?_)
                   · replace hi2 : (i : Int) < 2 := hi2
                     conv => whnf
                     refine And.intro (by omega) ?_
                     conv => whnf
                     refine And.intro ⟨(allU_cut hw _ _ _), hkey _⟩ ?_
                     conv => whnf
                     refine And.intro ⟨(allU_cut hw _ _ _), hkey _⟩ ?_
                     conv => whnf
                     refine ifB_ne (fun h9 => (h9 rfl).elim) (fun _ => ?_)
                     conv => whnf
                     refine ifB_f (notSame _) ?_
                     conv => whnf
                     rw [show IntKind.i64.wrap ((i : Int) + 1) = ((i + 1 : Nat) : Int) from wrap64 (by omega) (by omega)]
                     exact ⟨i + 1, [], ⟨rfl, rfl, rfl⟩, (by omega : i + 1 ≤ 2), by dsimp only; omega⟩
                   · conv => whnf
                     refine And.intro ⟨by omega, hk.1, hk.2.1, hk.2.2⟩ ?_
                     conv => whnf
                     refine TW.loopD good 0 (base := 0) (lv := [0, 1, 2, 3, 4, 5, 6, 7, 8, 9, 11, 18, 19, 20, 21, 22, 23, 24, 25, 27, 29, 31, 32, 33, 34, 35, 37, 39, 40, 41, 42, 43, 45, 46, 47, 48, 49, 51, 52, 53, 54, 55, 56, 57, 68, 77, 116, 117, 118, 119, 128, 129, 130, 131, 154, 163, 164, 165, 166, 172, 173, 174, 175, 199, 205, 206, 207, 208, 233, 240, 241, 242, 243, 275]) [242] [] [] (fun i : Nat => [.v (.int .i64 i)]) (fun _ => []) (fun i => i ≤ 2) (fun i => 2 - i) ?_
                     conv => whnf
                     refine ⟨⟨0, ⟨rfl, rfl, rfl⟩, by omega⟩, fun i hi => ?_⟩
                     replace hi : i ≤ 2 := hi
                     conv => whnf
                     refine ifB_dec (fun hi2 => ?_) (fun hi2 => ?_)
                     · replace hi2 : (i : Int) < 2 := hi2
                       have hi3 : i = 0 ∨ i = 1 := by omega
                       conv => whnf
                       refine And.intro (by omega) ?_
                       conv => whnf
                       refine And.intro ⟨(allU_cut hw _ _ _), (by rcases hi3 with rfl | rfl; exact hop.2.1; exact (u64_keyG hx : U64 (keyG 4 k2 x))), (by rcases hi3 with rfl | rfl; exact hop.2.2; exact (u64_valG hx : U64 (valG 4 k1 k3 x)))⟩ ?_
                       conv => whnf
                       refine And.intro ⟨(allU_cut hw _ _ _), (by rcases hi3 with rfl | rfl; exact hop.2.1; exact (u64_keyG hx : U64 (keyG 4 k2 x))), (by rcases hi3 with rfl | rfl; exact hop.2.2; exact (u64_valG hx : U64 (valG 4 k1 k3 x)))⟩ ?_
                       conv => whnf
                       refine ifB_ne (fun h9 => (h9 rfl).elim) (fun _ => ?_)
                       conv => whnf
                       refine ifB_f (by simp) ?_
                       conv => whnf
                       refine ifB_f (notSame _) ?_
                       conv => whnf
                       rw [show IntKind.i64.wrap ((i : Int) + 1) = ((i + 1 : Nat) : Int) from wrap64 (by omega) (by omega)]
                       exact ⟨i + 1, [], ⟨rfl, rfl, rfl⟩, (by omega : i + 1 ≤ 2), by dsimp only; omega⟩
                     · conv => whnf
                       exact ⟨3, [], ⟨rfl, rfl, rfl⟩, by omega, by dsimp only; omega⟩)
            · conv => whnf
              rw [show IntKind.i64.wrap ((d : Int) + 1) = ((d + 1 : Nat) : Int) from wrap64 (by omega) (by omega)]
              exact ⟨d + 1, [], ⟨rfl, rfl, rfl⟩, (by omega : d + 1 ≤ 2), by dsimp only; omega⟩
        · conv => whnf))
end Go.Proofs.YtlcpcgdecodjfaaGreatDoor
namespace Go.Proofs.YtlcpcgdecodjfaaGreatDoor
open Go.RowKit Go.Proofs.YtlcpcgdecodjfaaGreatDoor.Am
set_option linter.unusedVariables false
set_option linter.unusedSimpArgs false

attribute [local irreducible] appR atRR wayR ldR keyW ipick wordsO ordDo stK entK rkL fitsB codeG keyG valG
set_option maxRecDepth 100000 in
set_option maxHeartbeats 8000000 in
theorem orderTells_pureb {bf : Int → Int → Bool} {wf : Int → Int} {wb : Int → Bool} {rf wt : Int → Int} {ls : Int → Int → Bool} (F : OrdF bf wf wb rf ls) (S : OrdS bf wf wb rf wt) (room : Int) (hr : I64 room) (ok op on : Int) (hok : I64 ok ∧ I64 op ∧ I64 on) (n1 : Nat) (raw : List Int) (hraw : AllI raw) (n2 : Nat) (lp : List Int) (hlp : AllU lp) (q : Nat) (st : List Int) (hst : AllI st) (n3 : Nat) (w : List Int) (hw : AllU w) (at_ : Int) (hat : I64 at_) (x : Int) (hx : U64 x) (k1 k2 k3 : Int) (hk : I64 k1 ∧ I64 k2 ∧ I64 k3) (oc okey ov : Int) (hop : I64 oc ∧ U64 okey ∧ U64 ov) (h20 : on > 20) (h256 : on ≤ 256) :
    Pure Tryz.prog glM 3 [.v (.int .i64 room), .agg [.v (.int .i64 ok), .v (.int .i64 op), .v (.int .i64 on)], .fl [.i64, .i64] n1 raw, .fl [.u64, .u64] n2 lp, .fl [.i64, .i64, .i64] q st, .fl [.u64] n3 w, .v (.int .i64 at_), .v (.int .u64 x), .agg [.v (.int .i64 k1), .v (.int .i64 k2), .v (.int .i64 k3)], .agg [.v (.int .i64 oc), .v (.int .u64 okey), .v (.int .u64 ov)]] (.v (.bool true)) := by
  have good := ctxOtH_good F S
  refine pure_wf fun hwf => ?_
  obtain ⟨-, -, ⟨w1, w2⟩, ⟨w3, w4⟩, -, ⟨w5, w6⟩, -⟩ := hwf
  simp only [List.length_cons, List.length_nil, Nat.zero_add, Nat.mul_one] at w1 w3 w5
  obtain ⟨b1, b2⟩ := ipick_bounds room (n := 12) (by omega)
  obtain ⟨m, hm⟩ : ∃ m : Nat, (m : Int) = 1 + ipick room 12 := ⟨(1 + ipick room 12).toNat, by omega⟩
  have hf : fitsB 4 1 m = true := by unfold fitsB; exact decide_eq_true (by omega)
  have hV := stK_v 4 m st (min q 30) (by omega)
  obtain ⟨ks, hks⟩ : ∃ ks, (stK 4 m st (min q 30)).1 = ks := ⟨_, rfl⟩
  obtain ⟨vs, hvs⟩ : ∃ vs, (stK 4 m st (min q 30)).2 = vs := ⟨_, rfl⟩
  rw [hks, hvs] at hV
  obtain ⟨n, hn⟩ : ∃ n, ks.length = n := ⟨_, rfl⟩
  obtain ⟨hO, hri⟩ := F.ord hV hn
  obtain ⟨xs, hxs⟩ : ∃ xs, entK rf ks vs n = xs := ⟨_, rfl⟩
  rw [hxs] at hO
  have aw := (open_words (bf := bf) hf hO).2.1
  have hwl := wordsO_len (bf := bf) (xs := xs) hO.room
  obtain ⟨L, hL⟩ : ∃ L, wordsO bf m n xs = L := ⟨_, rfl⟩
  rw [hL] at aw hwl
  refine pure_of (C := ctxOtH Tryz.prog tellEq bf wf wb rf) good Tryz.func3 (c := bodyOf Tryz.f3) (by rfl) (Nat.le_of_ble_eq_true (by rfl)) 4 0 [0, 1, 2, 3, 4, 5, 6, 7, 8, 9, 11, 18, 19, 20, 21, 22, 23, 24, 25, 27, 29, 31, 32, 33, 34, 35, 37, 39, 40, 41, 42, 43, 45, 46, 47, 48, 49, 51, 52, 53, 54, 55, 56, 57, 68, 77, 116, 117, 118, 119, 128, 129, 130, 131, 154, 163, 164, 165, 166, 172, 173, 174, 175, 199, 205, 206, 207, 208, 233, 240, 241, 242, 243, 275] ?_
  conv => whnf
  refine And.intro hr ?_
  conv => whnf
  rw [← hm]
  refine ifB_t (decide_eq_true h20) ?_
  conv => whnf
  refine ifB_t (show (bif true then decide (on ≤ 256) else false) = true from decide_eq_true h256) ?_
  conv => whnf
  (refine TW.nilOwn 23 5000 2 (.fl [.u64, .u64] []) rfl rfl (.inr ⟨_, _, rfl⟩) (by decide) ?_
   refine TW.loopD good 0 (base := 0) (lv := [0, 1, 2, 3, 4, 5, 6, 7, 8, 9, 11, 18, 19, 20, 21, 22, 23, 24, 25, 27, 29, 31, 32, 33, 34, 35, 37, 39, 40, 41, 42, 43, 45, 46, 47, 48, 49, 51, 52, 53, 54, 55, 56, 57, 68, 77, 116, 117, 118, 119, 128, 129, 130, 131, 154, 163, 164, 165, 166, 172, 173, 174, 175, 199, 205, 206, 207, 208, 233, 240, 241, 242, 243, 275]) [23, 24] [5000] [(5000, 5000)] (fun x : Nat × List Int => [.ow 5000 2 x.1, .v (.int .i64 x.1)]) (fun x => [.fl [.u64, .u64] x.2]) (fun x => (x.1 ≤ n1 ∧ x.1 ≤ 12) ∧ AllU x.2) (fun x => n1 - x.1) ?_
   conv => whnf
   refine ⟨⟨(0, []), ⟨rfl, rfl, rfl⟩, ⟨by omega, by omega⟩, fun x hx => by cases hx⟩, fun ⟨j, pl⟩ ⟨⟨hj, hj2⟩, hpl⟩ => ?_⟩
   replace hj : j ≤ n1 := hj
   replace hj2 : j ≤ 12 := hj2
   replace hpl : AllU pl := hpl
   conv => whnf
   by_cases hgo : j < n1 ∧ j < 12
   · refine ifB_t (show decide ((((j, pl) : Nat × List Int).1 : Int) < n1) = true from decide_eq_true (by dsimp only; omega)) ?_
     conv => whnf
     refine ifB_t (show (bif true then decide ((((j, pl) : Nat × List Int).1 : Int) < 12) else false) = true from decide_eq_true (by dsimp only; omega)) ?_
     conv => whnf
     repeat (refine And.intro (by omega) ?_; conv => whnf)
     refine And.intro (allI_getD hraw _) ?_
     conv => whnf
     repeat (refine And.intro (by omega) ?_; conv => whnf)
     refine And.intro ⟨allI_getD hraw _, by omega, by omega⟩ ?_
     conv => whnf
     repeat (refine And.intro (by omega) ?_; conv => whnf)
     rw [show IntKind.i64.wrap ((((j, pl) : Nat × List Int).1 : Int) + 1) = ((j + 1 : Nat) : Int) from wrap64 (by dsimp only; omega) (by dsimp only; omega)]
     refine ⟨(j + 1, pl ++ [keyW (raw.getD (0 + (j : Int).toNat * (1 + 1)) 0), IntKind.u64.wrap (ipick (raw.getD (0 + 1 + (j : Int).toNat * (1 + 1)) 0) 1000)]), [(384, 5000)], ⟨rfl, rfl, rfl⟩, ⟨⟨(by omega : j + 1 ≤ n1), (by omega : j + 1 ≤ 12)⟩, ?_⟩, by dsimp only; omega⟩
     intro y hy
     rcases List.mem_append.1 hy with hy | hy
     · exact hpl y hy
     · simp only [List.mem_cons, List.not_mem_nil, or_false] at hy
       rcases hy with rfl | rfl
       · exact u64_keyW _
       · exact u64_wrap _
   · by_cases hjn : j < n1
     · refine ifB_t (show decide ((((j, pl) : Nat × List Int).1 : Int) < n1) = true from decide_eq_true (by dsimp only; omega)) ?_
       conv => whnf
       refine ifB_f (show (bif true then decide ((((j, pl) : Nat × List Int).1 : Int) < 12) else false) = false from decide_eq_false (by dsimp only; omega)) ?_
       conv => whnf
       (refine And.intro ⟨.inr (.inr rfl), hf, hst⟩ ?_
        conv => whnf
        rw [Int.toNat_natCast, hks, hvs, hn]
        refine And.intro ⟨⟨rfl, rfl, rfl, rfl⟩, hV, hf, hri⟩ ?_
        conv => whnf
        rw [hxs, hL]
        repeat (refine And.intro (by first | omega | (show (2 + 4 * m) * 8 ≤ 140737488355328; omega)) ?_; conv => whnf)
        refine And.intro ⟨hat, by omega, by omega⟩ ?_
        conv => whnf
        obtain ⟨c1, c2⟩ := ipick_bounds at_ (n := ((2 + 4 * m : Nat) : Int)) (by omega)
        repeat (refine And.intro (by omega) ?_; conv => whnf)
        have hT : AllU (L.set (0 + addN 0 (ipick at_ ((2 + 4 * m : Nat) : Int)).toNat * (0 + 1) + 0) x) := allU_set aw _ hx
        refine TW.loopD good 0 (base := 0) (lv := [0, 1, 2, 3, 4, 5, 6, 7, 8, 9, 11, 18, 19, 20, 21, 22, 23, 24, 25, 27, 29, 31, 32, 33, 34, 35, 37, 39, 40, 41, 42, 43, 45, 46, 47, 48, 49, 51, 52, 53, 54, 55, 56, 57, 68, 77, 116, 117, 118, 119, 128, 129, 130, 131, 154, 163, 164, 165, 166, 172, 173, 174, 175, 199, 205, 206, 207, 208, 233, 240, 241, 242, 243, 275]) [118] [] [] (fun d : Nat => [.v (.int .i64 d)]) (fun _ => []) (fun d => d ≤ 2) (fun d => 2 - d) ?_
        conv => whnf
        refine ⟨⟨0, ⟨rfl, rfl, rfl⟩, by omega⟩, fun d hd => ?_⟩
        replace hd : d ≤ 2 := hd
        conv => whnf
        refine ifB_dec (fun hd2 => ?_) (fun hd2 => ?_)
        · replace hd2 : (d : Int) < 2 := hd2
          conv => whnf
          refine And.intro (by omega) ?_
          conv => whnf
          refine And.intro (by split <;> omega) ?_
          conv => whnf
          refine TW.loopD good 0 (base := 0) (lv := [0, 1, 2, 3, 4, 5, 6, 7, 8, 9, 11, 18, 19, 20, 21, 22, 23, 24, 25, 27, 29, 31, 32, 33, 34, 35, 37, 39, 40, 41, 42, 43, 45, 46, 47, 48, 49, 51, 52, 53, 54, 55, 56, 57, 68, 77, 116, 117, 118, 119, 128, 129, 130, 131, 154, 163, 164, 165, 166, 172, 173, 174, 175, 199, 205, 206, 207, 208, 233, 240, 241, 242, 243, 275]) [130] [] [] (fun z : Nat => [.v (.int .i64 z)]) (fun _ => []) (fun z => z ≤ 2) (fun z => 2 - z) ?_
          conv => whnf
          refine ⟨⟨0, ⟨rfl, rfl, rfl⟩, by omega⟩, fun z hz => ?_⟩
          replace hz : z ≤ 2 := hz
          conv => whnf
          refine ifB_dec (fun hz2 => ?_) (fun hz2 => ?_)
          · replace hz2 : (z : Int) < 2 := hz2
            have hz3 : z = 0 ∨ z = 1 := by omega
            rcases hz3 with rfl | rfl
            · conv => whnf
              refine And.intro (by omega) ?_
              conv => whnf
              refine And.intro hpl ?_
              conv => whnf
              refine And.intro hpl ?_
              conv => whnf
              refine ifB_ne (fun h9 => (h9 rfl).elim) (fun _ => ?_)
              conv => whnf
              refine ifB_f (notSame _) ?_
              conv => whnf
              exact ⟨1, [], ⟨rfl, rfl, rfl⟩, by omega, by dsimp only; omega⟩
            · conv => whnf
              refine And.intro (by omega) ?_
              conv => whnf
              refine And.intro (allU_cut hlp _ _ _) ?_
              conv => whnf
              refine And.intro (allU_cut hlp _ _ _) ?_
              conv => whnf
              refine ifB_ne (fun h9 => (h9 rfl).elim) (fun _ => ?_)
              conv => whnf
              refine ifB_f (notSame _) ?_
              conv => whnf
              exact ⟨2, [], ⟨rfl, rfl, rfl⟩, by omega, by dsimp only; omega⟩
          · conv => whnf
            refine And.intro (by split <;> omega) ?_
            conv => whnf
            refine TW.loopD good 0 (base := 0) (lv := [0, 1, 2, 3, 4, 5, 6, 7, 8, 9, 11, 18, 19, 20, 21, 22, 23, 24, 25, 27, 29, 31, 32, 33, 34, 35, 37, 39, 40, 41, 42, 43, 45, 46, 47, 48, 49, 51, 52, 53, 54, 55, 56, 57, 68, 77, 116, 117, 118, 119, 128, 129, 130, 131, 154, 163, 164, 165, 166, 172, 173, 174, 175, 199, 205, 206, 207, 208, 233, 240, 241, 242, 243, 275]) [165] [] [] (fun y : Nat => [.v (.int .i64 y)]) (fun _ => []) (fun y => y ≤ 3) (fun y => 3 - y) ?_
            conv => whnf
            refine ⟨⟨0, ⟨rfl, rfl, rfl⟩, by omega⟩, fun y hy => ?_⟩
            replace hy : y ≤ 3 := hy
            conv => whnf
            refine ifB_dec (fun hy2 => ?_) (fun hy2 => ?_)
            · replace hy2 : (y : Int) < 3 := hy2
              have hy3 : y = 0 ∨ y = 1 ∨ y = 2 := by omega
              rcases hy3 with rfl | rfl | rfl
              · (conv => whnf
                 refine And.intro (by omega) ?_
                 conv => whnf
                 refine And.intro ⟨hat, by omega, by omega⟩ ?_
                 conv => whnf
                 refine TW.loopD good 0 (base := 0) (lv := [0, 1, 2, 3, 4, 5, 6, 7, 8, 9, 11, 18, 19, 20, 21, 22, 23, 24, 25, 27, 29, 31, 32, 33, 34, 35, 37, 39, 40, 41, 42, 43, 45, 46, 47, 48, 49, 51, 52, 53, 54, 55, 56, 57, 68, 77, 116, 117, 118, 119, 128, 129, 130, 131, 154, 163, 164, 165, 166, 172, 173, 174, 175, 199, 205, 206, 207, 208, 233, 240, 241, 242, 243, 275]) [174] [] [] (fun i : Nat => [.v (.int .i64 i)]) (fun _ => []) (fun i => i ≤ 2) (fun i => 2 - i) ?_
                 conv => whnf
                 refine ⟨⟨0, ⟨rfl, rfl, rfl⟩, by omega⟩, fun i hi => ?_⟩
                 replace hi : i ≤ 2 := hi
                 conv => whnf
                 refine ifB_dec (fun hi2 => ?_) (fun hi2 => ?_)
                 · replace hi2 : (i : Int) < 2 := hi2
                   conv => whnf
                   refine And.intro (by omega) ?_
                   conv => whnf
                   refine And.intro aw ?_
                   conv => whnf
                   refine And.intro aw ?_
                   conv => whnf
                   refine ifB_ne (fun h9 => (h9 rfl).elim) (fun _ => ?_)
                   conv => whnf
                   refine ifB_f (by simp) ?_
                   conv => whnf
                   rw [show IntKind.i64.wrap ((i : Int) + 1) = ((i + 1 : Nat) : Int) from wrap64 (by omega) (by omega)]
                   exact ⟨i + 1, [], ⟨rfl, rfl, rfl⟩, (by omega : i + 1 ≤ 2), by dsimp only; omega⟩
                 · conv => whnf
                   refine And.intro (by omega) ?_
                   conv => whnf
                   refine And.intro (show I64 k2 from hk.2.1) ?_
                   conv => whnf
                   have hkey : ∀ i : Nat, U64 (([x, keyW k2] : List Int).getD i 0) := allU_getD (fun y hy => by
                     simp only [List.mem_cons, List.not_mem_nil, or_false] at hy
                     rcases hy with rfl | rfl
                     · exact hx
                     · exact u64_keyW _)
                   refine TW.loopD good 0 (base := 0) (lv := [0, 1, 2, 3, 4, 5, 6, 7, 8, 9, 11, 18, 19, 20, 21, 22, 23, 24, 25, 27, 29, 31, 32, 33, 34, 35, 37, 39, 40, 41, 42, 43, 45, 46, 47, 48, 49, 51, 52, 53, 54, 55, 56, 57, 68, 77, 116, 117, 118, 119, 128, 129, 130, 131, 154, 163, 164, 165, 166, 172, 173, 174, 175, 199, 205, 206, 207, 208, 233, 240, 241, 242, 243, 275]) [207] [] [] (fun i : Nat => [.v (.int .i64 i)]) (fun _ => []) (fun i => i ≤ 2) (fun i => 2 - i) ?_
                   conv => whnf
                   refine ⟨⟨0, ⟨rfl, rfl, rfl⟩, by omega⟩, fun i hi => ?_⟩
                   replace hi : i ≤ 2 := hi
                   conv => whnf
                   refine ifB_dec (fun hi2 => ?_) (fun hi2 => ?_)
                   · replace hi2 : (i : Int) < 2 := hi2
                     conv => whnf
                     refine And.intro (by omega) ?_
                     conv => whnf
                     refine And.intro ⟨aw, hkey _⟩ ?_
                     conv => whnf
                     refine And.intro ⟨aw, hkey _⟩ ?_
                     conv => whnf
                     refine ifB_ne (fun h9 => (h9 rfl).elim) (fun _ => ?_)
                     conv => whnf
                     refine ifB_f (notSame _) ?_
                     conv => whnf
                     rw [show IntKind.i64.wrap ((i : Int) + 1) = ((i + 1 : Nat) : Int) from wrap64 (by omega) (by omega)]
                     exact ⟨i + 1, [], ⟨rfl, rfl, rfl⟩, (by omega : i + 1 ≤ 2), by dsimp only; omega⟩
                   · conv => whnf
                     refine And.intro ⟨by omega, hk.1, hk.2.1, hk.2.2⟩ ?_
                     conv => whnf
                     refine TW.loopD good 0 (base := 0) (lv := [0, 1, 2, 3, 4, 5, 6, 7, 8, 9, 11, 18, 19, 20, 21, 22, 23, 24, 25, 27, 29, 31, 32, 33, 34, 35, 37, 39, 40, 41, 42, 43, 45, 46, 47, 48, 49, 51, 52, 53, 54, 55, 56, 57, 68, 77, 116, 117, 118, 119, 128, 129, 130, 131, 154, 163, 164, 165, 166, 172, 173, 174, 175, 199, 205, 206, 207, 208, 233, 240, 241, 242, 243, 275]) [242] [] [] (fun i : Nat => [.v (.int .i64 i)]) (fun _ => []) (fun i => i ≤ 2) (fun i => 2 - i) ?_
                     conv => whnf
                     refine ⟨⟨0, ⟨rfl, rfl, rfl⟩, by omega⟩, fun i hi => ?_⟩
                     replace hi : i ≤ 2 := hi
                     conv => whnf
                     refine ifB_dec (fun hi2 => ?_) (fun hi2 => ?_)
                     · replace hi2 : (i : Int) < 2 := hi2
                       have hi3 : i = 0 ∨ i = 1 := by omega
                       conv => whnf
                       refine And.intro (by omega) ?_
                       conv => whnf
                       refine And.intro ⟨aw, (by rcases hi3 with rfl | rfl; exact hop.2.1; exact (u64_keyG hx : U64 (keyG 4 k2 x))), (by rcases hi3 with rfl | rfl; exact hop.2.2; exact (u64_valG hx : U64 (valG 4 k1 k3 x)))⟩ ?_
                       conv => whnf
                       refine And.intro ⟨aw, (by rcases hi3 with rfl | rfl; exact hop.2.1; exact (u64_keyG hx : U64 (keyG 4 k2 x))), (by rcases hi3 with rfl | rfl; exact hop.2.2; exact (u64_valG hx : U64 (valG 4 k1 k3 x)))⟩ ?_
                       conv => whnf
                       refine ifB_ne (fun h9 => (h9 rfl).elim) (fun _ => ?_)
                       conv => whnf
                       refine ifB_f (by simp) ?_
                       conv => whnf
                       refine ifB_f (notSame _) ?_
                       conv => whnf
                       rw [show IntKind.i64.wrap ((i : Int) + 1) = ((i + 1 : Nat) : Int) from wrap64 (by omega) (by omega)]
                       exact ⟨i + 1, [], ⟨rfl, rfl, rfl⟩, (by omega : i + 1 ≤ 2), by dsimp only; omega⟩
                     · conv => whnf
                       exact ⟨1, [], ⟨rfl, rfl, rfl⟩, by omega, by dsimp only; omega⟩)
              · (conv => whnf
                 refine And.intro (by omega) ?_
                 conv => whnf
                 refine And.intro ⟨hat, by omega, by omega⟩ ?_
                 conv => whnf
                 refine TW.loopD good 0 (base := 0) (lv := [0, 1, 2, 3, 4, 5, 6, 7, 8, 9, 11, 18, 19, 20, 21, 22, 23, 24, 25, 27, 29, 31, 32, 33, 34, 35, 37, 39, 40, 41, 42, 43, 45, 46, 47, 48, 49, 51, 52, 53, 54, 55, 56, 57, 68, 77, 116, 117, 118, 119, 128, 129, 130, 131, 154, 163, 164, 165, 166, 172, 173, 174, 175, 199, 205, 206, 207, 208, 233, 240, 241, 242, 243, 275]) [174] [] [] (fun i : Nat => [.v (.int .i64 i)]) (fun _ => []) (fun i => i ≤ 2) (fun i => 2 - i) ?_
                 conv => whnf
                 refine ⟨⟨0, ⟨rfl, rfl, rfl⟩, by omega⟩, fun i hi => ?_⟩
                 replace hi : i ≤ 2 := hi
                 conv => whnf
                 refine ifB_dec (fun hi2 => ?_) (fun hi2 => ?_)
                 · replace hi2 : (i : Int) < 2 := hi2
                   conv => whnf
                   refine And.intro (by omega) ?_
                   conv => whnf
                   refine And.intro hT ?_
                   conv => whnf
                   refine And.intro hT ?_
                   conv => whnf
                   refine ifB_ne (fun h9 => (h9 rfl).elim) (fun _ => ?_)
                   conv => whnf
                   refine ifB_f (by simp) ?_
                   conv => whnf
                   rw [show IntKind.i64.wrap ((i : Int) + 1) = ((i + 1 : Nat) : Int) from wrap64 (by omega) (by omega)]
                   exact ⟨i + 1, [], ⟨rfl, rfl, rfl⟩, (by omega : i + 1 ≤ 2), by dsimp only; omega⟩
                 · conv => whnf
                   refine And.intro (by omega) ?_
                   conv => whnf
                   refine And.intro (show I64 k2 from hk.2.1) ?_
                   conv => whnf
                   have hkey : ∀ i : Nat, U64 (([x, keyW k2] : List Int).getD i 0) := allU_getD (fun y hy => by
                     simp only [List.mem_cons, List.not_mem_nil, or_false] at hy
                     rcases hy with rfl | rfl
                     · exact hx
                     · exact u64_keyW _)
                   refine TW.loopD good 0 (base := 0) (lv := [0, 1, 2, 3, 4, 5, 6, 7, 8, 9, 11, 18, 19, 20, 21, 22, 23, 24, 25, 27, 29, 31, 32, 33, 34, 35, 37, 39, 40, 41, 42, 43, 45, 46, 47, 48, 49, 51, 52, 53, 54, 55, 56, 57, 68, 77, 116, 117, 118, 119, 128, 129, 130, 131, 154, 163, 164, 165, 166, 172, 173, 174, 175, 199, 205, 206, 207, 208, 233, 240, 241, 242, 243, 275]) [207] [] [] (fun i : Nat => [.v (.int .i64 i)]) (fun _ => []) (fun i => i ≤ 2) (fun i => 2 - i) ?_
                   conv => whnf
                   refine ⟨⟨0, ⟨rfl, rfl, rfl⟩, by omega⟩, fun i hi => ?_⟩
                   replace hi : i ≤ 2 := hi
                   conv => whnf
                   refine ifB_dec (fun hi2 => ?_) (fun hi2 => ?_)
                   · replace hi2 : (i : Int) < 2 := hi2
                     conv => whnf
                     refine And.intro (by omega) ?_
                     conv => whnf
                     refine And.intro ⟨hT, hkey _⟩ ?_
                     conv => whnf
                     refine And.intro ⟨hT, hkey _⟩ ?_
                     conv => whnf
                     refine ifB_ne (fun h9 => (h9 rfl).elim) (fun _ => ?_)
                     conv => whnf
                     refine ifB_f (notSame _) ?_
                     conv => whnf
                     rw [show IntKind.i64.wrap ((i : Int) + 1) = ((i + 1 : Nat) : Int) from wrap64 (by omega) (by omega)]
                     exact ⟨i + 1, [], ⟨rfl, rfl, rfl⟩, (by omega : i + 1 ≤ 2), by dsimp only; omega⟩
                   · conv => whnf
                     refine And.intro ⟨by omega, hk.1, hk.2.1, hk.2.2⟩ ?_
                     conv => whnf
                     refine TW.loopD good 0 (base := 0) (lv := [0, 1, 2, 3, 4, 5, 6, 7, 8, 9, 11, 18, 19, 20, 21, 22, 23, 24, 25, 27, 29, 31, 32, 33, 34, 35, 37, 39, 40, 41, 42, 43, 45, 46, 47, 48, 49, 51, 52, 53, 54, 55, 56, 57, 68, 77, 116, 117, 118, 119, 128, 129, 130, 131, 154, 163, 164, 165, 166, 172, 173, 174, 175, 199, 205, 206, 207, 208, 233, 240, 241, 242, 243, 275]) [242] [] [] (fun i : Nat => [.v (.int .i64 i)]) (fun _ => []) (fun i => i ≤ 2) (fun i => 2 - i) ?_
                     conv => whnf
                     refine ⟨⟨0, ⟨rfl, rfl, rfl⟩, by omega⟩, fun i hi => ?_⟩
                     replace hi : i ≤ 2 := hi
                     conv => whnf
                     refine ifB_dec (fun hi2 => ?_) (fun hi2 => ?_)
                     · replace hi2 : (i : Int) < 2 := hi2
                       have hi3 : i = 0 ∨ i = 1 := by omega
                       conv => whnf
                       refine And.intro (by omega) ?_
                       conv => whnf
                       refine And.intro ⟨hT, (by rcases hi3 with rfl | rfl; exact hop.2.1; exact (u64_keyG hx : U64 (keyG 4 k2 x))), (by rcases hi3 with rfl | rfl; exact hop.2.2; exact (u64_valG hx : U64 (valG 4 k1 k3 x)))⟩ ?_
                       conv => whnf
                       refine And.intro ⟨hT, (by rcases hi3 with rfl | rfl; exact hop.2.1; exact (u64_keyG hx : U64 (keyG 4 k2 x))), (by rcases hi3 with rfl | rfl; exact hop.2.2; exact (u64_valG hx : U64 (valG 4 k1 k3 x)))⟩ ?_
                       conv => whnf
                       refine ifB_ne (fun h9 => (h9 rfl).elim) (fun _ => ?_)
                       conv => whnf
                       refine ifB_f (by simp) ?_
                       conv => whnf
                       refine ifB_f (notSame _) ?_
                       conv => whnf
                       rw [show IntKind.i64.wrap ((i : Int) + 1) = ((i + 1 : Nat) : Int) from wrap64 (by omega) (by omega)]
                       exact ⟨i + 1, [], ⟨rfl, rfl, rfl⟩, (by omega : i + 1 ≤ 2), by dsimp only; omega⟩
                     · conv => whnf
                       exact ⟨2, [], ⟨rfl, rfl, rfl⟩, by omega, by dsimp only; omega⟩)
              · (conv => whnf
                 refine And.intro (by omega) ?_
                 conv => whnf
                 refine And.intro ⟨hat, by omega, by omega⟩ ?_
                 conv => whnf
                 refine TW.loopD good 0 (base := 0) (lv := [0, 1, 2, 3, 4, 5, 6, 7, 8, 9, 11, 18, 19, 20, 21, 22, 23, 24, 25, 27, 29, 31, 32, 33, 34, 35, 37, 39, 40, 41, 42, 43, 45, 46, 47, 48, 49, 51, 52, 53, 54, 55, 56, 57, 68, 77, 116, 117, 118, 119, 128, 129, 130, 131, 154, 163, 164, 165, 166, 172, 173, 174, 175, 199, 205, 206, 207, 208, 233, 240, 241, 242, 243, 275]) [174] [] [] (fun i : Nat => [.v (.int .i64 i)]) (fun _ => []) (fun i => i ≤ 2) (fun i => 2 - i) ?_
                 conv => whnf
                 refine ⟨⟨0, ⟨rfl, rfl, rfl⟩, by omega⟩, fun i hi => ?_⟩
                 replace hi : i ≤ 2 := hi
                 conv => whnf
                 refine ifB_dec (fun hi2 => ?_) (fun hi2 => ?_)
                 · replace hi2 : (i : Int) < 2 := hi2
                   conv => whnf
                   refine And.intro (by omega) ?_
                   conv => whnf
                   refine And.intro (allU_cut hw _ _ _) ?_
                   conv => whnf
                   refine And.intro (allU_cut hw _ _ _) ?_
                   conv => whnf
                   refine ifB_ne (fun h9 => (h9 rfl).elim) (fun _ => ?_)
                   conv => whnf
                   refine ifB_f (by simp) ?_
                   conv => whnf
                   rw [show IntKind.i64.wrap ((i : Int) + 1) = ((i + 1 : Nat) : Int) from wrap64 (by omega) (by omega)]
                   exact ⟨i + 1, [], ⟨rfl, rfl, rfl⟩, (by omega : i + 1 ≤ 2), by dsimp only; omega⟩
                 · conv => whnf
                   refine And.intro (by omega) ?_
                   conv => whnf
                   refine And.intro (show I64 k2 from hk.2.1) ?_
                   conv => whnf
                   have hkey : ∀ i : Nat, U64 (([x, keyW k2] : List Int).getD i 0) := allU_getD (fun y hy => by
                     simp only [List.mem_cons, List.not_mem_nil, or_false] at hy
                     rcases hy with rfl | rfl
                     · exact hx
                     · exact u64_keyW _)
                   refine TW.loopD good 0 (base := 0) (lv := [0, 1, 2, 3, 4, 5, 6, 7, 8, 9, 11, 18, 19, 20, 21, 22, 23, 24, 25, 27, 29, 31, 32, 33, 34, 35, 37, 39, 40, 41, 42, 43, 45, 46, 47, 48, 49, 51, 52, 53, 54, 55, 56, 57, 68, 77, 116, 117, 118, 119, 128, 129, 130, 131, 154, 163, 164, 165, 166, 172, 173, 174, 175, 199, 205, 206, 207, 208, 233, 240, 241, 242, 243, 275]) [207] [] [] (fun i : Nat => [.v (.int .i64 i)]) (fun _ => []) (fun i => i ≤ 2) (fun i => 2 - i) ?_
                   conv => whnf
                   refine ⟨⟨0, ⟨rfl, rfl, rfl⟩, by omega⟩, fun i hi => ?_⟩
                   replace hi : i ≤ 2 := hi
                   conv => whnf
                   refine ifB_dec (fun hi2 => ?_) (fun hi2 => ?_)
                   · replace hi2 : (i : Int) < 2 := hi2
                     conv => whnf
                     refine And.intro (by omega) ?_
                     conv => whnf
                     refine And.intro ⟨(allU_cut hw _ _ _), hkey _⟩ ?_
                     conv => whnf
                     refine And.intro ⟨(allU_cut hw _ _ _), hkey _⟩ ?_
                     conv => whnf
                     refine ifB_ne (fun h9 => (h9 rfl).elim) (fun _ => ?_)
                     conv => whnf
                     refine ifB_f (notSame _) ?_
                     conv => whnf
                     rw [show IntKind.i64.wrap ((i : Int) + 1) = ((i + 1 : Nat) : Int) from wrap64 (by omega) (by omega)]
                     exact ⟨i + 1, [], ⟨rfl, rfl, rfl⟩, (by omega : i + 1 ≤ 2), by dsimp only; omega⟩
                   · conv => whnf
                     refine And.intro ⟨by omega, hk.1, hk.2.1, hk.2.2⟩ ?_
                     conv => whnf
                     refine TW.loopD good 0 (base := 0) (lv := [0, 1, 2, 3, 4, 5, 6, 7, 8, 9, 11, 18, 19, 20, 21, 22, 23, 24, 25, 27, 29, 31, 32, 33, 34, 35, 37, 39, 40, 41, 42, 43, 45, 46, 47, 48, 49, 51, 52, 53, 54, 55, 56, 57, 68, 77, 116, 117, 118, 119, 128, 129, 130, 131, 154, 163, 164, 165, 166, 172, 173, 174, 175, 199, 205, 206, 207, 208, 233, 240, 241, 242, 243, 275]) [242] [] [] (fun i : Nat => [.v (.int .i64 i)]) (fun _ => []) (fun i => i ≤ 2) (fun i => 2 - i) ?_
                     conv => whnf
                     refine ⟨⟨0, ⟨rfl, rfl, rfl⟩, by omega⟩, fun i hi => ?_⟩
                     replace hi : i ≤ 2 := hi
                     conv => whnf
                     refine ifB_dec (fun hi2 => ?_) (fun hi2 => ?_)
                     · replace hi2 : (i : Int) < 2 := hi2
                       have hi3 : i = 0 ∨ i = 1 := by omega
                       conv => whnf
                       refine And.intro (by omega) ?_
                       conv => whnf
                       refine And.intro ⟨(allU_cut hw _ _ _), (by rcases hi3 with rfl | rfl; exact hop.2.1; exact (u64_keyG hx : U64 (keyG 4 k2 x))), (by rcases hi3 with rfl | rfl; exact hop.2.2; exact (u64_valG hx : U64 (valG 4 k1 k3 x)))⟩ ?_
                       conv => whnf
                       refine And.intro ⟨(allU_cut hw _ _ _), (by rcases hi3 with rfl | rfl; exact hop.2.1; exact (u64_keyG hx : U64 (keyG 4 k2 x))), (by rcases hi3 with rfl | rfl; exact hop.2.2; exact (u64_valG hx : U64 (valG 4 k1 k3 x)))⟩ ?_
                       conv => whnf
                       refine ifB_ne (fun h9 => (h9 rfl).elim) (fun _ => ?_)
                       conv => whnf
                       refine ifB_f (by simp) ?_
                       conv => whnf
                       refine ifB_f (notSame _) ?_
                       conv => whnf
                       rw [show IntKind.i64.wrap ((i : Int) + 1) = ((i + 1 : Nat) : Int) from wrap64 (by omega) (by omega)]
                       exact ⟨i + 1, [], ⟨rfl, rfl, rfl⟩, (by omega : i + 1 ≤ 2), by dsimp only; omega⟩
                     · conv => whnf
                       exact ⟨3, [], ⟨rfl, rfl, rfl⟩, by omega, by dsimp only; omega⟩)
            · conv => whnf
              rw [show IntKind.i64.wrap ((d : Int) + 1) = ((d + 1 : Nat) : Int) from wrap64 (by omega) (by omega)]
              exact ⟨d + 1, [], ⟨rfl, rfl, rfl⟩, (by omega : d + 1 ≤ 2), by dsimp only; omega⟩
        · conv => whnf)
     · refine ifB_f (show decide ((((j, pl) : Nat × List Int).1 : Int) < n1) = false from decide_eq_false (by dsimp only; omega)) ?_
       conv => whnf
       (refine And.intro ⟨.inr (.inr rfl), hf, hst⟩ ?_
        conv => whnf
        rw [Int.toNat_natCast, hks, hvs, hn]
        refine And.intro ⟨⟨rfl, rfl, rfl, rfl⟩, hV, hf, hri⟩ ?_
        conv => whnf
        rw [hxs, hL]
        repeat (refine And.intro (by first | omega | (show (2 + 4 * m) * 8 ≤ 140737488355328; omega)) ?_; conv => whnf)
        refine And.intro ⟨hat, by omega, by omega⟩ ?_
        conv => whnf
        obtain ⟨c1, c2⟩ := ipick_bounds at_ (n := ((2 + 4 * m : Nat) : Int)) (by omega)
        repeat (refine And.intro (by omega) ?_; conv => whnf)
        have hT : AllU (L.set (0 + addN 0 (ipick at_ ((2 + 4 * m : Nat) : Int)).toNat * (0 + 1) + 0) x) := allU_set aw _ hx
        refine TW.loopD good 0 (base := 0) (lv := [0, 1, 2, 3, 4, 5, 6, 7, 8, 9, 11, 18, 19, 20, 21, 22, 23, 24, 25, 27, 29, 31, 32, 33, 34, 35, 37, 39, 40, 41, 42, 43, 45, 46, 47, 48, 49, 51, 52, 53, 54, 55, 56, 57, 68, 77, 116, 117, 118, 119, 128, 129, 130, 131, 154, 163, 164, 165, 166, 172, 173, 174, 175, 199, 205, 206, 207, 208, 233, 240, 241, 242, 243, 275]) [118] [] [] (fun d : Nat => [.v (.int .i64 d)]) (fun _ => []) (fun d => d ≤ 2) (fun d => 2 - d) ?_
        conv => whnf
        refine ⟨⟨0, ⟨rfl, rfl, rfl⟩, by omega⟩, fun d hd => ?_⟩
        replace hd : d ≤ 2 := hd
        conv => whnf
        refine ifB_dec (fun hd2 => ?_) (fun hd2 => ?_)
        · replace hd2 : (d : Int) < 2 := hd2
          conv => whnf
          refine And.intro (by omega) ?_
          conv => whnf
          refine And.intro (by split <;> omega) ?_
          conv => whnf
          refine TW.loopD good 0 (base := 0) (lv := [0, 1, 2, 3, 4, 5, 6, 7, 8, 9, 11, 18, 19, 20, 21, 22, 23, 24, 25, 27, 29, 31, 32, 33, 34, 35, 37, 39, 40, 41, 42, 43, 45, 46, 47, 48, 49, 51, 52, 53, 54, 55, 56, 57, 68, 77, 116, 117, 118, 119, 128, 129, 130, 131, 154, 163, 164, 165, 166, 172, 173, 174, 175, 199, 205, 206, 207, 208, 233, 240, 241, 242, 243, 275]) [130] [] [] (fun z : Nat => [.v (.int .i64 z)]) (fun _ => []) (fun z => z ≤ 2) (fun z => 2 - z) ?_
          conv => whnf
          refine ⟨⟨0, ⟨rfl, rfl, rfl⟩, by omega⟩, fun z hz => ?_⟩
          replace hz : z ≤ 2 := hz
          conv => whnf
          refine ifB_dec (fun hz2 => ?_) (fun hz2 => ?_)
          · replace hz2 : (z : Int) < 2 := hz2
            have hz3 : z = 0 ∨ z = 1 := by omega
            rcases hz3 with rfl | rfl
            · conv => whnf
              refine And.intro (by omega) ?_
              conv => whnf
              refine And.intro hpl ?_
              conv => whnf
              refine And.intro hpl ?_
              conv => whnf
              refine ifB_ne (fun h9 => (h9 rfl).elim) (fun _ => ?_)
              conv => whnf
              refine ifB_f (notSame _) ?_
              conv => whnf
              exact ⟨1, [], ⟨rfl, rfl, rfl⟩, by omega, by dsimp only; omega⟩
            · conv => whnf
              refine And.intro (by omega) ?_
              conv => whnf
              refine And.intro (allU_cut hlp _ _ _) ?_
              conv => whnf
              refine And.intro (allU_cut hlp _ _ _) ?_
              conv => whnf
              refine ifB_ne (fun h9 => (h9 rfl).elim) (fun _ => ?_)
              conv => whnf
              refine ifB_f (notSame _) ?_
              conv => whnf
              exact ⟨2, [], ⟨rfl, rfl, rfl⟩, by omega, by dsimp only; omega⟩
          · conv => whnf
            refine And.intro (by split <;> omega) ?_
            conv => whnf
            refine TW.loopD good 0 (base := 0) (lv := [0, 1, 2, 3, 4, 5, 6, 7, 8, 9, 11, 18, 19, 20, 21, 22, 23, 24, 25, 27, 29, 31, 32, 33, 34, 35, 37, 39, 40, 41, 42, 43, 45, 46, 47, 48, 49, 51, 52, 53, 54, 55, 56, 57, 68, 77, 116, 117, 118, 119, 128, 129, 130, 131, 154, 163, 164, 165, 166, 172, 173, 174, 175, 199, 205, 206, 207, 208, 233, 240, 241, 242, 243, 275]) [165] [] [] (fun y : Nat => [.v (.int .i64 y)]) (fun _ => []) (fun y => y ≤ 3) (fun y => 3 - y) ?_
            conv => whnf
            refine ⟨⟨0, ⟨rfl, rfl, rfl⟩, by omega⟩, fun y hy => ?_⟩
            replace hy : y ≤ 3 := hy
            conv => whnf
            refine ifB_dec (fun hy2 => ?_) (fun hy2 => ?_)
            · replace hy2 : (y : Int) < 3 := hy2
              have hy3 : y = 0 ∨ y = 1 ∨ y = 2 := by omega
              rcases hy3 with rfl | rfl | rfl
              · (conv => whnf
                 refine And.intro (by omega) ?_
                 conv => whnf
                 refine And.intro ⟨hat, by omega, by omega⟩ ?_
                 conv => whnf
                 refine TW.loopD good 0 (base := 0) (lv := [0, 1, 2, 3, 4, 5, 6, 7, 8, 9, 11, 18, 19, 20, 21, 22, 23, 24, 25, 27, 29, 31, 32, 33, 34, 35, 37, 39, 40, 41, 42, 43, 45, 46, 47, 48, 49, 51, 52, 53, 54, 55, 56, 57, 68, 77, 116, 117, 118, 119, 128, 129, 130, 131, 154, 163, 164, 165, 166, 172, 173, 174, 175, 199, 205, 206, 207, 208, 233, 240, 241, 242, 243, 275]) [174] [] [] (fun i : Nat => [.v (.int .i64 i)]) (fun _ => []) (fun i => i ≤ 2) (fun i => 2 - i) ?_
                 conv => whnf
                 refine ⟨⟨0, ⟨rfl, rfl, rfl⟩, by omega⟩, fun i hi => ?_⟩
                 replace hi : i ≤ 2 := hi
                 conv => whnf
                 refine ifB_dec (fun hi2 => ?_) (fun hi2 => ?_)
                 · replace hi2 : (i : Int) < 2 := hi2
                   conv => whnf
                   refine And.intro (by omega) ?_
                   conv => whnf
                   refine And.intro aw ?_
                   conv => whnf
                   refine And.intro aw ?_
                   conv => whnf
                   refine ifB_ne (fun h9 => (h9 rfl).elim) (fun _ => ?_)
                   conv => whnf
                   refine ifB_f (by simp) ?_
                   conv => whnf
                   rw [show IntKind.i64.wrap ((i : Int) + 1) = ((i + 1 : Nat) : Int) from wrap64 (by omega) (by omega)]
                   exact ⟨i + 1, [], ⟨rfl, rfl, rfl⟩, (by omega : i + 1 ≤ 2), by dsimp only; omega⟩
                 · conv => whnf
                   refine And.intro (by omega) ?_
                   conv => whnf
                   refine And.intro (show I64 k2 from hk.2.1) ?_
                   conv => whnf
                   have hkey : ∀ i : Nat, U64 (([x, keyW k2] : List Int).getD i 0) := allU_getD (fun y hy => by
                     simp only [List.mem_cons, List.not_mem_nil, or_false] at hy
                     rcases hy with rfl | rfl
                     · exact hx
                     · exact u64_keyW _)
                   refine TW.loopD good 0 (base := 0) (lv := [0, 1, 2, 3, 4, 5, 6, 7, 8, 9, 11, 18, 19, 20, 21, 22, 23, 24, 25, 27, 29, 31, 32, 33, 34, 35, 37, 39, 40, 41, 42, 43, 45, 46, 47, 48, 49, 51, 52, 53, 54, 55, 56, 57, 68, 77, 116, 117, 118, 119, 128, 129, 130, 131, 154, 163, 164, 165, 166, 172, 173, 174, 175, 199, 205, 206, 207, 208, 233, 240, 241, 242, 243, 275]) [207] [] [] (fun i : Nat => [.v (.int .i64 i)]) (fun _ => []) (fun i => i ≤ 2) (fun i => 2 - i) ?_
                   conv => whnf
                   refine ⟨⟨0, ⟨rfl, rfl, rfl⟩, by omega⟩, fun i hi => ?_⟩
                   replace hi : i ≤ 2 := hi
                   conv => whnf
                   refine ifB_dec (fun hi2 => ?_) (fun hi2 => ?_)
                   · replace hi2 : (i : Int) < 2 := hi2
                     conv => whnf
                     refine And.intro (by omega) ?_
                     conv => whnf
                     refine And.intro ⟨aw, hkey _⟩ ?_
                     conv => whnf
                     refine And.intro ⟨aw, hkey _⟩ ?_
                     conv => whnf
                     refine ifB_ne (fun h9 => (h9 rfl).elim) (fun _ => ?_)
                     conv => whnf
                     refine ifB_f (notSame _) ?_
                     conv => whnf
                     rw [show IntKind.i64.wrap ((i : Int) + 1) = ((i + 1 : Nat) : Int) from wrap64 (by omega) (by omega)]
                     exact ⟨i + 1, [], ⟨rfl, rfl, rfl⟩, (by omega : i + 1 ≤ 2), by dsimp only; omega⟩
                   · conv => whnf
                     refine And.intro ⟨by omega, hk.1, hk.2.1, hk.2.2⟩ ?_
                     conv => whnf
                     refine TW.loopD good 0 (base := 0) (lv := [0, 1, 2, 3, 4, 5, 6, 7, 8, 9, 11, 18, 19, 20, 21, 22, 23, 24, 25, 27, 29, 31, 32, 33, 34, 35, 37, 39, 40, 41, 42, 43, 45, 46, 47, 48, 49, 51, 52, 53, 54, 55, 56, 57, 68, 77, 116, 117, 118, 119, 128, 129, 130, 131, 154, 163, 164, 165, 166, 172, 173, 174, 175, 199, 205, 206, 207, 208, 233, 240, 241, 242, 243, 275]) [242] [] [] (fun i : Nat => [.v (.int .i64 i)]) (fun _ => []) (fun i => i ≤ 2) (fun i => 2 - i) ?_
                     conv => whnf
                     refine ⟨⟨0, ⟨rfl, rfl, rfl⟩, by omega⟩, fun i hi => ?_⟩
                     replace hi : i ≤ 2 := hi
                     conv => whnf
                     refine ifB_dec (fun hi2 => ?_) (fun hi2 => ?_)
                     · replace hi2 : (i : Int) < 2 := hi2
                       have hi3 : i = 0 ∨ i = 1 := by omega
                       conv => whnf
                       refine And.intro (by omega) ?_
                       conv => whnf
                       refine And.intro ⟨aw, (by rcases hi3 with rfl | rfl; exact hop.2.1; exact (u64_keyG hx : U64 (keyG 4 k2 x))), (by rcases hi3 with rfl | rfl; exact hop.2.2; exact (u64_valG hx : U64 (valG 4 k1 k3 x)))⟩ ?_
                       conv => whnf
                       refine And.intro ⟨aw, (by rcases hi3 with rfl | rfl; exact hop.2.1; exact (u64_keyG hx : U64 (keyG 4 k2 x))), (by rcases hi3 with rfl | rfl; exact hop.2.2; exact (u64_valG hx : U64 (valG 4 k1 k3 x)))⟩ ?_
                       conv => whnf
                       refine ifB_ne (fun h9 => (h9 rfl).elim) (fun _ => ?_)
                       conv => whnf
                       refine ifB_f (by simp) ?_
                       conv => whnf
                       refine ifB_f (notSame _) ?_
                       conv => whnf
                       rw [show IntKind.i64.wrap ((i : Int) + 1) = ((i + 1 : Nat) : Int) from wrap64 (by omega) (by omega)]
                       exact ⟨i + 1, [], ⟨rfl, rfl, rfl⟩, (by omega : i + 1 ≤ 2), by dsimp only; omega⟩
                     · conv => whnf
                       exact ⟨1, [], ⟨rfl, rfl, rfl⟩, by omega, by dsimp only; omega⟩)
              · (conv => whnf
                 refine And.intro (by omega) ?_
                 conv => whnf
                 refine And.intro ⟨hat, by omega, by omega⟩ ?_
                 conv => whnf
                 refine TW.loopD good 0 (base := 0) (lv := [0, 1, 2, 3, 4, 5, 6, 7, 8, 9, 11, 18, 19, 20, 21, 22, 23, 24, 25, 27, 29, 31, 32, 33, 34, 35, 37, 39, 40, 41, 42, 43, 45, 46, 47, 48, 49, 51, 52, 53, 54, 55, 56, 57, 68, 77, 116, 117, 118, 119, 128, 129, 130, 131, 154, 163, 164, 165, 166, 172, 173, 174, 175, 199, 205, 206, 207, 208, 233, 240, 241, 242, 243, 275]) [174] [] [] (fun i : Nat => [.v (.int .i64 i)]) (fun _ => []) (fun i => i ≤ 2) (fun i => 2 - i) ?_
                 conv => whnf
                 refine ⟨⟨0, ⟨rfl, rfl, rfl⟩, by omega⟩, fun i hi => ?_⟩
                 replace hi : i ≤ 2 := hi
                 conv => whnf
                 refine ifB_dec (fun hi2 => ?_) (fun hi2 => ?_)
                 · replace hi2 : (i : Int) < 2 := hi2
                   conv => whnf
                   refine And.intro (by omega) ?_
                   conv => whnf
                   refine And.intro hT ?_
                   conv => whnf
                   refine And.intro hT ?_
                   conv => whnf
                   refine ifB_ne (fun h9 => (h9 rfl).elim) (fun _ => ?_)
                   conv => whnf
                   refine ifB_f (by simp) ?_
                   conv => whnf
                   rw [show IntKind.i64.wrap ((i : Int) + 1) = ((i + 1 : Nat) : Int) from wrap64 (by omega) (by omega)]
                   exact ⟨i + 1, [], ⟨rfl, rfl, rfl⟩, (by omega : i + 1 ≤ 2), by dsimp only; omega⟩
                 · conv => whnf
                   refine And.intro (by omega) ?_
                   conv => whnf
                   refine And.intro (show I64 k2 from hk.2.1) ?_
                   conv => whnf
                   have hkey : ∀ i : Nat, U64 (([x, keyW k2] : List Int).getD i 0) := allU_getD (fun y hy => by
                     simp only [List.mem_cons, List.not_mem_nil, or_false] at hy
                     rcases hy with rfl | rfl
                     · exact hx
                     · exact u64_keyW _)
                   refine TW.loopD good 0 (base := 0) (lv := [0, 1, 2, 3, 4, 5, 6, 7, 8, 9, 11, 18, 19, 20, 21, 22, 23, 24, 25, 27, 29, 31, 32, 33, 34, 35, 37, 39, 40, 41, 42, 43, 45, 46, 47, 48, 49, 51, 52, 53, 54, 55, 56, 57, 68, 77, 116, 117, 118, 119, 128, 129, 130, 131, 154, 163, 164, 165, 166, 172, 173, 174, 175, 199, 205, 206, 207, 208, 233, 240, 241, 242, 243, 275]) [207] [] [] (fun i : Nat => [.v (.int .i64 i)]) (fun _ => []) (fun i => i ≤ 2) (fun i => 2 - i) ?_
                   conv => whnf
                   refine ⟨⟨0, ⟨rfl, rfl, rfl⟩, by omega⟩, fun i hi => ?_⟩
                   replace hi : i ≤ 2 := hi
                   conv => whnf
                   refine ifB_dec (fun hi2 => ?_) (fun hi2 => ?_)
                   · replace hi2 : (i : Int) < 2 := hi2
                     conv => whnf
                     refine And.intro (by omega) ?_
                     conv => whnf
                     refine And.intro ⟨hT, hkey _⟩ ?_
                     conv => whnf
                     refine And.intro ⟨hT, hkey _⟩ ?_
                     conv => whnf
                     refine ifB_ne (fun h9 => (h9 rfl).elim) (fun _ => ?_)
                     conv => whnf
                     refine ifB_f (notSame _) ?_
                     conv => whnf
                     rw [show IntKind.i64.wrap ((i : Int) + 1) = ((i + 1 : Nat) : Int) from wrap64 (by omega) (by omega)]
                     exact ⟨i + 1, [], ⟨rfl, rfl, rfl⟩, (by omega : i + 1 ≤ 2), by dsimp only; omega⟩
                   · conv => whnf
                     refine And.intro ⟨by omega, hk.1, hk.2.1, hk.2.2⟩ ?_
                     conv => whnf
                     refine TW.loopD good 0 (base := 0) (lv := [0, 1, 2, 3, 4, 5, 6, 7, 8, 9, 11, 18, 19, 20, 21, 22, 23, 24, 25, 27, 29, 31, 32, 33, 34, 35, 37, 39, 40, 41, 42, 43, 45, 46, 47, 48, 49, 51, 52, 53, 54, 55, 56, 57, 68, 77, 116, 117, 118, 119, 128, 129, 130, 131, 154, 163, 164, 165, 166, 172, 173, 174, 175, 199, 205, 206, 207, 208, 233, 240, 241, 242, 243, 275]) [242] [] [] (fun i : Nat => [.v (.int .i64 i)]) (fun _ => []) (fun i => i ≤ 2) (fun i => 2 - i) ?_
                     conv => whnf
                     refine ⟨⟨0, ⟨rfl, rfl, rfl⟩, by omega⟩, fun i hi => ?_⟩
                     replace hi : i ≤ 2 := hi
                     conv => whnf
                     refine ifB_dec (fun hi2 => ?_) (fun hi2 => ?_)
                     · replace hi2 : (i : Int) < 2 := hi2
                       have hi3 : i = 0 ∨ i = 1 := by omega
                       conv => whnf
                       refine And.intro (by omega) ?_
                       conv => whnf
                       refine And.intro ⟨hT, (by rcases hi3 with rfl | rfl; exact hop.2.1; exact (u64_keyG hx : U64 (keyG 4 k2 x))), (by rcases hi3 with rfl | rfl; exact hop.2.2; exact (u64_valG hx : U64 (valG 4 k1 k3 x)))⟩ ?_
                       conv => whnf
                       refine And.intro ⟨hT, (by rcases hi3 with rfl | rfl; exact hop.2.1; exact (u64_keyG hx : U64 (keyG 4 k2 x))), (by rcases hi3 with rfl | rfl; exact hop.2.2; exact (u64_valG hx : U64 (valG 4 k1 k3 x)))⟩ ?_
                       conv => whnf
                       refine ifB_ne (fun h9 => (h9 rfl).elim) (fun _ => ?_)
                       conv => whnf
                       refine ifB_f (by simp) ?_
                       conv => whnf
                       refine ifB_f (notSame _) ?_
                       conv => whnf
                       rw [show IntKind.i64.wrap ((i : Int) + 1) = ((i + 1 : Nat) : Int) from wrap64 (by omega) (by omega)]
                       exact ⟨i + 1, [], ⟨rfl, rfl, rfl⟩, (by omega : i + 1 ≤ 2), by dsimp only; omega⟩
                     · conv => whnf
                       exact ⟨2, [], ⟨rfl, rfl, rfl⟩, by omega, by dsimp only; omega⟩)
              · (conv => whnf
                 refine And.intro (by omega) ?_
                 conv => whnf
                 refine And.intro ⟨hat, by omega, by omega⟩ ?_
                 conv => whnf
                 refine TW.loopD good 0 (base := 0) (lv := [0, 1, 2, 3, 4, 5, 6, 7, 8, 9, 11, 18, 19, 20, 21, 22, 23, 24, 25, 27, 29, 31, 32, 33, 34, 35, 37, 39, 40, 41, 42, 43, 45, 46, 47, 48, 49, 51, 52, 53, 54, 55, 56, 57, 68, 77, 116, 117, 118, 119, 128, 129, 130, 131, 154, 163, 164, 165, 166, 172, 173, 174, 175, 199, 205, 206, 207, 208, 233, 240, 241, 242, 243, 275]) [174] [] [] (fun i : Nat => [.v (.int .i64 i)]) (fun _ => []) (fun i => i ≤ 2) (fun i => 2 - i) ?_
                 conv => whnf
                 refine ⟨⟨0, ⟨rfl, rfl, rfl⟩, by omega⟩, fun i hi => ?_⟩
                 replace hi : i ≤ 2 := hi
                 conv => whnf
                 refine ifB_dec (fun hi2 => ?_) (fun hi2 => ?_)
                 · replace hi2 : (i : Int) < 2 := hi2
                   conv => whnf
                   refine And.intro (by omega) ?_
                   conv => whnf
                   refine And.intro (allU_cut hw _ _ _) ?_
                   conv => whnf
                   refine And.intro (allU_cut hw _ _ _) ?_
                   conv => whnf
                   refine ifB_ne (fun h9 => (h9 rfl).elim) (fun _ => ?_)
                   conv => whnf
                   refine ifB_f (by simp) ?_
                   conv => whnf
                   rw [show IntKind.i64.wrap ((i : Int) + 1) = ((i + 1 : Nat) : Int) from wrap64 (by omega) (by omega)]
                   exact ⟨i + 1, [], ⟨rfl, rfl, rfl⟩, (by omega : i + 1 ≤ 2), by dsimp only; omega⟩
                 · conv => whnf
                   refine And.intro (by omega) ?_
                   conv => whnf
                   refine And.intro (show I64 k2 from hk.2.1) ?_
                   conv => whnf
                   have hkey : ∀ i : Nat, U64 (([x, keyW k2] : List Int).getD i 0) := allU_getD (fun y hy => by
                     simp only [List.mem_cons, List.not_mem_nil, or_false] at hy
                     rcases hy with rfl | rfl
                     · exact hx
                     · exact u64_keyW _)
                   refine TW.loopD good 0 (base := 0) (lv := [0, 1, 2, 3, 4, 5, 6, 7, 8, 9, 11, 18, 19, 20, 21, 22, 23, 24, 25, 27, 29, 31, 32, 33, 34, 35, 37, 39, 40, 41, 42, 43, 45, 46, 47, 48, 49, 51, 52, 53, 54, 55, 56, 57, 68, 77, 116, 117, 118, 119, 128, 129, 130, 131, 154, 163, 164, 165, 166, 172, 173, 174, 175, 199, 205, 206, 207, 208, 233, 240, 241, 242, 243, 275]) [207] [] [] (fun i : Nat => [.v (.int .i64 i)]) (fun _ => []) (fun i => i ≤ 2) (fun i => 2 - i) ?_
                   conv => whnf
                   refine ⟨⟨0, ⟨rfl, rfl, rfl⟩, by omega⟩, fun i hi => ?_⟩
                   replace hi : i ≤ 2 := hi
                   conv => whnf
                   refine ifB_dec (fun hi2 => ?_) (fun hi2 => ?_)
                   · replace hi2 : (i : Int) < 2 := hi2
                     conv => whnf
                     refine And.intro (by omega) ?_
                     conv => whnf
                     refine And.intro ⟨(allU_cut hw _ _ _), hkey _⟩ ?_
                     conv => whnf
                     refine And.intro ⟨(allU_cut hw _ _ _), hkey _⟩ ?_
                     conv => whnf
                     refine ifB_ne (fun h9 => (h9 rfl).elim) (fun _ => ?_)
                     conv => whnf
                     refine ifB_f (notSame _) ?_
                     conv => whnf
                     rw [show IntKind.i64.wrap ((i : Int) + 1) = ((i + 1 : Nat) : Int) from wrap64 (by omega) (by omega)]
                     exact ⟨i + 1, [], ⟨rfl, rfl, rfl⟩, (by omega : i + 1 ≤ 2), by dsimp only; omega⟩
                   · conv => whnf
                     refine And.intro ⟨by omega, hk.1, hk.2.1, hk.2.2⟩ ?_
                     conv => whnf
                     refine TW.loopD good 0 (base := 0) (lv := [0, 1, 2, 3, 4, 5, 6, 7, 8, 9, 11, 18, 19, 20, 21, 22, 23, 24, 25, 27, 29, 31, 32, 33, 34, 35, 37, 39, 40, 41, 42, 43, 45, 46, 47, 48, 49, 51, 52, 53, 54, 55, 56, 57, 68, 77, 116, 117, 118, 119, 128, 129, 130, 131, 154, 163, 164, 165, 166, 172, 173, 174, 175, 199, 205, 206, 207, 208, 233, 240, 241, 242, 243, 275]) [242] [] [] (fun i : Nat => [.v (.int .i64 i)]) (fun _ => []) (fun i => i ≤ 2) (fun i => 2 - i) ?_
                     conv => whnf
                     refine ⟨⟨0, ⟨rfl, rfl, rfl⟩, by omega⟩, fun i hi => ?_⟩
                     replace hi : i ≤ 2 := hi
                     conv => whnf
                     refine ifB_dec (fun hi2 => ?_) (fun hi2 => ?_)
                     · replace hi2 : (i : Int) < 2 := hi2
                       have hi3 : i = 0 ∨ i = 1 := by omega
                       conv => whnf
                       refine And.intro (by omega) ?_
                       conv => whnf
                       refine And.intro ⟨(allU_cut hw _ _ _), (by rcases hi3 with rfl | rfl; exact hop.2.1; exact (u64_keyG hx : U64 (keyG 4 k2 x))), (by rcases hi3 with rfl | rfl; exact hop.2.2; exact (u64_valG hx : U64 (valG 4 k1 k3 x)))⟩ ?_
                       conv => whnf
                       refine And.intro ⟨(allU_cut hw _ _ _), (by rcases hi3 with rfl | rfl; exact hop.2.1; exact (u64_keyG hx : U64 (keyG 4 k2 x))), (by rcases hi3 with rfl | rfl; exact hop.2.2; exact (u64_valG hx : U64 (valG 4 k1 k3 x)))⟩ ?_
                       conv => whnf
                       refine ifB_ne (fun h9 => (h9 rfl).elim) (fun _ => ?_)
                       conv => whnf
                       refine ifB_f (by simp) ?_
                       conv => whnf
                       refine ifB_f (notSame _) ?_
                       conv => whnf
                       rw [show IntKind.i64.wrap ((i : Int) + 1) = ((i + 1 : Nat) : Int) from wrap64 (by omega) (by omega)]
                       exact ⟨i + 1, [], ⟨rfl, rfl, rfl⟩, (by omega : i + 1 ≤ 2), by dsimp only; omega⟩
                     · conv => whnf
                       exact ⟨3, [], ⟨rfl, rfl, rfl⟩, by omega, by dsimp only; omega⟩)
            · conv => whnf
              rw [show IntKind.i64.wrap ((d : Int) + 1) = ((d + 1 : Nat) : Int) from wrap64 (by omega) (by omega)]
              exact ⟨d + 1, [], ⟨rfl, rfl, rfl⟩, (by omega : d + 1 ≤ 2), by dsimp only; omega⟩
        · conv => whnf))
end Go.Proofs.YtlcpcgdecodjfaaGreatDoor
