/- The walks of package flt: what each function computes, on words. -/
import Derived.Test.YtlcpcgdecodjfaaDoorWord
import Derived.Test.YtlcpcgdecodjfaaDoorFlt
import Derived.Test.YtlcpcgdecodjfaaDoorBits
import Derived.WalkKit
import Derived.WalkLawsBesides
import Derived.Deep.Draws
import Derived.KernelRfl
namespace Go.Proofs.YtlcpcgdecodjfaaDoor
open Go.RowKit
set_option linter.unusedVariables false
set_option linter.unusedSimpArgs false

def iCanon (a : Int) : Int := (Flt.canon a.toNat : Nat)
def iKind (a : Int) : Int := (Flt.kind a.toNat : Nat)
def iRank (a : Int) : Int := (Flt.rank a.toNat : Nat)
def bLess (a b : Int) : Bool := decide (iRank a < iRank b)
def iTop (a b : Int) : Int := (Flt.top a.toNat b.toNat : Nat)
def iSum (a b : Int) : Int := (Flt.sum a.toNat b.toNat : Nat)
def iWord (a : Int) : Int := (Flt.word a.toNat : Nat)
def bWordOk (a : Int) : Bool := Flt.wordOk a.toNat
def iBack (a : Int) : Int := (Flt.back a.toNat : Nat)

theorem u64_nat {a : Int} (h : U64 a) : a.toNat < Flt.maxW := by
  have : Flt.maxW = 18446744073709551616 := rfl
  unfold U64 at h; omega
theorem canon_lt (w : Nat) (h : w < Flt.maxW) : Flt.canon w < Flt.maxW := by
  unfold Flt.canon
  split
  · decide
  · split
    · decide
    · exact h
theorem rank_lt (w : Nat) (h : w < Flt.maxW) : Flt.rank w < Flt.maxW := by
  have := canon_lt w h
  have : Flt.maxW = 18446744073709551616 := rfl
  have : Flt.sgnW = 9223372036854775808 := rfl
  unfold Flt.rank
  split <;> omega
theorem u64_canon {a : Int} (h : U64 a) : U64 (iCanon a) := by
  have h1 := canon_lt _ (u64_nat h)
  have : Flt.maxW = 18446744073709551616 := rfl
  unfold U64 iCanon; omega
theorem u64_rank {a : Int} (h : U64 a) : U64 (iRank a) := by
  have h1 := rank_lt _ (u64_nat h)
  have : Flt.maxW = 18446744073709551616 := rfl
  unfold U64 iRank; omega

@[go_sem] theorem frombits_run (a : Int) (w : World) : (callFunc 77 #[.int .u64 a]).run Tryd.prog w = .ok (.value (.float .f64 a.toNat)) w := by
  rw [run_callFunc_extern Tryd.func77 (by kernel_rfl) (by kernel_rfl) (by kernel_rfl) (e := Extern.MathFloatBits.float64frombits) (by kernel_rfl)]
  rfl
@[go_sem] theorem tobits_run (a : Nat) (w : World) : (callFunc 104 #[.float .f64 a]).run Tryd.prog w = .ok (.value (.int .u64 a)) w := by
  rw [run_callFunc_extern Tryd.func104 (by kernel_rfl) (by kernel_rfl) (by kernel_rfl) (e := Extern.MathFloatBits.float64bits) (by kernel_rfl)]
  rfl


theorem ord_nan (a : Nat) (b : Bool) (h : (FloatKind.f64.format.order a a != some .eq) = b) : decide (Flt.infR < Flt.mag a) = b := by
  rw [← Flt.order_self]; exact h
theorem ord_zero (a : Nat) (b : Bool) (h : (FloatKind.f64.format.order a 0 == some .eq) = b) : decide (Flt.mag a = 0) = b := by
  rw [← Flt.order_zero]; exact h

theorem canon_c1 {a : Int} (h : (FloatKind.f64.format.order a.toNat a.toNat != some .eq) = true) : (9221120237041090561 : Int) = iCanon a := by
  have h := of_decide_eq_true (ord_nan _ _ h)
  unfold iCanon Flt.canon; rw [if_pos h]; rfl
theorem canon_c2 {a : Int} (h : (FloatKind.f64.format.order a.toNat a.toNat != some .eq) = false) (h2 : (FloatKind.f64.format.order a.toNat 0 == some .eq) = true) : (0 : Int) = iCanon a := by
  have h := of_decide_eq_false (ord_nan _ _ h)
  have h2 := of_decide_eq_true (ord_zero _ _ h2)
  unfold iCanon Flt.canon; rw [if_neg h, if_pos h2]; rfl
theorem canon_c3 {a : Int} (ha : U64 a) (h : (FloatKind.f64.format.order a.toNat a.toNat != some .eq) = false) (h2 : (FloatKind.f64.format.order a.toNat 0 == some .eq) = false) : a = iCanon a := by
  have h := of_decide_eq_false (ord_nan _ _ h)
  have h2 := of_decide_eq_false (ord_zero _ _ h2)
  unfold iCanon Flt.canon; rw [if_neg h, if_neg h2]
  unfold U64 at ha; omega

theorem canon_any (a : Int) (ha : U64 a) (w : World) : Calls Tryd.prog 38 #[.int .u64 a] w fun e w' => e = .returned (.int .u64 (iCanon a)) ∧ w = w' := by
  go_enter Tryd.func38, Tryd.ntmps38
  go_wp2
  · go_ret; exact ⟨ret_int (canon_c1 ‹_›), rfl⟩
  · go_ret; exact ⟨ret_int (canon_c2 ‹_› ‹_›), rfl⟩
  · go_ret; exact ⟨ret_int (canon_c3 ha ‹_› ‹_›), rfl⟩

theorem ord_big {a : Int} (ha : U64 a) (hn : ¬ Flt.infR < Flt.mag a.toNat) (b : Bool) (h : (FloatKind.f64.format.order (bits BinOp.andNot IntKind.u64 (max a 0) 9223372036854775808).toNat 9218868437227405311 == some Ordering.gt) = b) :
    decide (Flt.mag a.toNat = Flt.infR) = b := by
  rw [← h]
  unfold U64 at ha
  have e : (bits BinOp.andNot IntKind.u64 (max a 0) 9223372036854775808).toNat = Flt.mag a.toNat := by
    rw [show max a 0 = a by omega, Bits.b_not_top a ha.1 ha.2]
    unfold Flt.mag
    have : Flt.sgnW = 9223372036854775808 := rfl
    rw [this]; omega
  rw [e]
  have e1 : Flt.infR = 9218868437227405312 := rfl
  have e2 : Flt.sgnW = 9223372036854775808 := rfl
  have hm : Flt.mag (Flt.mag a.toNat) = Flt.mag a.toNat := by unfold Flt.mag; exact Nat.mod_mod _ _
  have hg : Flt.neg (Flt.mag a.toNat) = false := by
    unfold Flt.neg Flt.mag; rw [e2]
    rw [Nat.div_eq_of_lt (Nat.mod_lt _ (by decide))]; rfl
  have hM : Flt.mag 9218868437227405311 = 9218868437227405311 := by decide
  have hG : Flt.neg 9218868437227405311 = false := by decide
  change _ = (Ieee.double.order _ _ == some Ordering.gt)
  by_cases i : Flt.mag a.toNat = Flt.infR
  · rw [i]; decide
  · have hl : Flt.mag a.toNat < Flt.infR := by omega
    rw [Flt.order_fin _ _ (by rw [hm]; exact hl) (by decide)]
    unfold Flt.sv
    rw [hg, hG, hm, hM]
    have : ¬ Flt.V 9218868437227405311 < Flt.V (Flt.mag a.toNat) := by rw [Flt.V_lt_iff]; omega
    simp only [i, decide_false]
    simp only [compare, compareOfLessAndEq, Bool.false_eq_true, if_false]
    split
    · rfl
    · rename_i hlt
      rw [if_pos (by omega)]; rfl

theorem kind_c1 {a : Int} (h : (FloatKind.f64.format.order a.toNat a.toNat != some .eq) = true) : (3 : Int) = iKind a := by
  have h := of_decide_eq_true (ord_nan _ _ h)
  unfold iKind Flt.kind; rw [if_pos h]; rfl
theorem kind_c2 {a : Int} (ha : U64 a) (h : (FloatKind.f64.format.order a.toNat a.toNat != some .eq) = false)
    (h1 : (FloatKind.f64.format.order (bits BinOp.andNot IntKind.u64 (max a 0) 9223372036854775808).toNat 9218868437227405311 == some Ordering.gt) = true) : (2 : Int) = iKind a := by
  have h := of_decide_eq_false (ord_nan _ _ h)
  have h1 := of_decide_eq_true (ord_big ha h _ h1)
  unfold iKind Flt.kind; rw [if_neg h, if_pos h1]; rfl
theorem kind_c3 {a : Int} (ha : U64 a) (h : (FloatKind.f64.format.order a.toNat a.toNat != some .eq) = false)
    (h1 : (FloatKind.f64.format.order (bits BinOp.andNot IntKind.u64 (max a 0) 9223372036854775808).toNat 9218868437227405311 == some Ordering.gt) = false)
    (h2 : (FloatKind.f64.format.order a.toNat 0 == some .eq) = true) : (0 : Int) = iKind a := by
  have h := of_decide_eq_false (ord_nan _ _ h)
  have h1 := of_decide_eq_false (ord_big ha h _ h1)
  have h2 := of_decide_eq_true (ord_zero _ _ h2)
  unfold iKind Flt.kind; rw [if_neg h, if_neg h1, if_pos h2]; rfl
theorem kind_c4 {a : Int} (ha : U64 a) (h : (FloatKind.f64.format.order a.toNat a.toNat != some .eq) = false)
    (h1 : (FloatKind.f64.format.order (bits BinOp.andNot IntKind.u64 (max a 0) 9223372036854775808).toNat 9218868437227405311 == some Ordering.gt) = false)
    (h2 : (FloatKind.f64.format.order a.toNat 0 == some .eq) = false) : (1 : Int) = iKind a := by
  have h := of_decide_eq_false (ord_nan _ _ h)
  have h1 := of_decide_eq_false (ord_big ha h _ h1)
  have h2 := of_decide_eq_false (ord_zero _ _ h2)
  unfold iKind Flt.kind; rw [if_neg h, if_neg h1, if_neg h2]; rfl


theorem rank_c1 {a : Int} (ha : U64 a) (h : (bits BinOp.and IntKind.u64 (iCanon a) 9223372036854775808 == 0) = true) : bits BinOp.or IntKind.u64 (iCanon a) 9223372036854775808 = iRank a := by
  have hc := u64_canon ha
  unfold U64 at hc
  rw [Bits.b_and_top _ hc.1 hc.2] at h
  have hl : iCanon a < 9223372036854775808 := by
    by_cases g : iCanon a < 9223372036854775808
    · exact g
    · rw [if_neg g] at h; simp at h
  rw [Bits.b_or_top _ hc.1 hl]
  have e2 : Flt.sgnW = 9223372036854775808 := rfl
  unfold iRank Flt.rank
  unfold iCanon at hl ⊢
  rw [if_pos (by omega)]; omega
theorem rank_c2 {a : Int} (ha : U64 a) (h : (bits BinOp.and IntKind.u64 (iCanon a) 9223372036854775808 == 0) = false) : bits BinOp.xor IntKind.u64 IntKind.u64.max (iCanon a) = iRank a := by
  have hc := u64_canon ha
  unfold U64 at hc
  rw [Bits.b_and_top _ hc.1 hc.2] at h
  have hl : ¬ iCanon a < 9223372036854775808 := by
    intro g
    rw [if_pos g] at h; simp at h
  rw [Bits.b_xor_max _ hc.1 hc.2]
  have e2 : Flt.sgnW = 9223372036854775808 := rfl
  have e3 : Flt.maxW = 18446744073709551616 := rfl
  unfold iRank Flt.rank
  unfold iCanon at hl hc ⊢
  rw [if_neg (by omega)]; omega

theorem rank_any (a : Int) (ha : U64 a) (w : World) : Calls Tryd.prog 36 #[.int .u64 a] w fun e w' => e = .returned (.int .u64 (iRank a)) ∧ w = w' := by
  go_enter Tryd.func36, Tryd.ntmps36
  go_wp2_with (go_at_call 38; refine (canon_any _ ha _).mono ?_; rintro e w' ⟨rfl, rfl⟩)
  · go_ret; exact ⟨ret_int (rank_c1 ha ‹_›), rfl⟩
  · go_ret; exact ⟨ret_int (rank_c2 ha ‹_›), rfl⟩

theorem less_any (a b : Int) (ha : U64 a) (hb : U64 b) (w : World) : Calls Tryd.prog 39 #[.int .u64 a, .int .u64 b] w fun e w' => e = .returned (.bool (bLess a b)) ∧ w = w' := by
  go_enter Tryd.func39, Tryd.ntmps39
  go_wp2_with fail
  refine (rank_any a ha _).mono ?_
  rintro e w' ⟨rfl, rfl⟩
  go_wp2_with fail
  refine (rank_any b hb _).mono ?_
  rintro e w' ⟨rfl, rfl⟩
  go_wp2_with fail
  go_ret; exact ⟨rfl, rfl⟩

end Go.Proofs.YtlcpcgdecodjfaaDoor
