/- The walk of PlainFold, on the abstract machine. -/
import Derived.Test.YtpjohbnnjhkjoaaDoorAwake14
import Derived.Test.YtpjohbnnjhkjoaaDoorPick14
import Derived.Test.YtpjohbnnjhkjoaaDoorPlainP
import Derived.Test.YtpjohbnnjhkjoaaDoorRefW2
import Derived.Test.YtpjohbnnjhkjoaaDoorSliceR
import Derived.Test.YtpjohbnnjhkjoaaDoorAmP
namespace Go.Proofs.YtpjohbnnjhkjoaaDoor
open Go.RowKit Go.Proofs.YtpjohbnnjhkjoaaDoor.Am
set_option linter.unusedVariables false
set_option linter.unusedSimpArgs false

def bodyOf (f : Func) : Code := match f.body with | some c => c | none => .skip
def objX : List Int := [0, 0, 1, 0, 1, 2, 1, 4, 2, 4, 9, 1]
def glR (g : Nat) : T := match g with
  | 0 => .fp [.i64] objX 0 0 0 12
  | _ => .dead
theorem objs_gl {w : World} (h : GlP glR w) : Objs w := by
  obtain ⟨b, off, hv, hI, hb, hk, he, hf⟩ := (show TV w _ _ _ (.fp [.i64] objX 0 0 0 12) _ from h 0).fp_inv
  simp only [Value.pointer.injEq, Option.some.injEq, Addr.mk.injEq, and_true] at hv
  obtain ⟨rfl, ho⟩ := hv
  have ho : off = 0 := by omega
  subst ho
  refine ⟨hb, fun k hk => ?_⟩
  have key : ∀ i x, objX[i]? = some x → w.cell? ⟨0, i, none⟩ = some (.int .i64 x) := fun i x hx => by
    have := hf i x hx
    rw [Nat.zero_add] at this
    rw [this]; unfold kc; rw [show i % [IntKind.i64].length = 0 from Nat.mod_one i]; rfl
  have : k = 0 ∨ k = 1 ∨ k = 2 ∨ k = 3 ∨ k = 4 ∨ k = 5 := by omega
  rcases this with rfl | rfl | rfl | rfl | rfl | rfl <;> exact ⟨key _ _ rfl, key _ _ rfl⟩
theorem gl_objs {w : World} (h : Objs w) : GlP glR w := by
  intro g
  unfold glR
  split
  · refine .fp (b := 0) (off := 0) trivial h.1 (by simp) (by decide) (fun i x hx => ?_)
    have hi : i < 12 := (List.getElem?_eq_some_iff.1 hx).1
    obtain ⟨k, hk⟩ : ∃ k, i = k * 2 ∨ i = k * 2 + 1 := ⟨i / 2, by omega⟩
    have hk6 : k < 6 := by omega
    have c := h.2 k hk6
    have : k = 0 ∨ k = 1 ∨ k = 2 ∨ k = 3 ∨ k = 4 ∨ k = 5 := by omega
    rw [Nat.zero_add]
    rcases this with rfl | rfl | rfl | rfl | rfl | rfl <;> rcases hk with rfl | rfl <;> cases hx <;> first | exact c.1 | exact c.2
  · exact .dead

def eAwake : Entry := ⟨8, 3, fun l => match l with | [] => some (none, .v (.bool true)) | _ => none⟩
def ePick : Entry := ⟨10, 3, fun l => match l with | [.v (.int .i64 c), .v (.int .i64 n)] => some (some (I64 c ∧ 0 < n ∧ n ≤ 4096), .v (.int .i64 (ipick c n))) | _ => none⟩
def eApply : Entry := ⟨23, 3, fun l => match l with
  | [.agg [.v (.int .i64 1), .v (.int .i64 p), .v (.int .i64 n)], .fl [.u64] 1 [x], .agg [.v (.int .i64 c), .v (.int .u64 key), .v (.int .u64 v)]] =>
    some (some (fits 1 p n = true ∧ U64 v ∧ U64 x ∧ iCanon x = x), .tup [.fl [.u64] 1 [(regDo c x v).2.2], .agg [.v (.int .i64 (regDo c x v).1), .v (.int .u64 (regDo c x v).2.1)], .v (.int .i64 0)])
  | _ => none⟩
def eFold : Entry := ⟨11, 3, fun l => match l with
  | [.v (.int .i64 k), .fl [.u64] n xs] => some (some ((k = 2 ∨ k = 3 ∨ k = 4) ∧ AllU xs ∧ n ≤ 1000), .tup [.v (.int .u64 (foldReg k xs)), .v (.int .i64 0)])
  | _ => none⟩
def eCanon : Entry := ⟨25, 3, fun l => match l with | [.v (.int .u64 a)] => some (some (U64 a), .v (.int .u64 (iCanon a))) | _ => none⟩

theorem TV.sl_of {w : World} {I m L} {k : IntKind} {n : Nat} {xs : List Int} {v : Value} (h : TV w I m L (.fl [k] n xs) v) : ∃ a cap, v = .slice a n cap ∧ SlI k w a n xs ∧ n ≤ 9223372036854775807 := by
  rcases h.fl_inv with ⟨rfl, rfl, a, cap, rfl⟩ | ⟨b, off, cap, rfl, hI, hb, hk, hn, hc, hp, hf⟩
  · exact ⟨a, cap, rfl, ⟨rfl, .inl rfl⟩, by omega⟩
  · refine ⟨_, cap, rfl, ⟨by simpa using hn, .inr ⟨b, off, rfl, hb, fun i hi => ?_⟩⟩, by omega⟩
    have hl : i < xs.length := by simp at hn; omega
    have := hf i _ (List.getElem?_eq_getElem hl)
    rw [this, List.getD_eq_getElem?_getD, List.getElem?_eq_getElem hl]
    unfold kc; rw [show i % [k].length = 0 from Nat.mod_one i]; rfl

theorem eAwake_ok : eAwake.ok Tryd.prog glR := ⟨enters_of Tryd.func8 (by kernel_rfl) (by kernel_rfl), by
  intro args c t h hc w vs hg ha
  simp only [eAwake] at h
  split at h <;> cases h
  obtain rfl := TVs.nil_inv ha
  refine (awake_any w (objs_gl hg)).mono ?_
  rintro e w' ⟨rfl, hb⟩
  exact ⟨_, rfl, hb, .v rfl⟩⟩
theorem ePick_ok : ePick.ok Tryd.prog glR := ⟨enters_of Tryd.func10 (by kernel_rfl) (by kernel_rfl), by
  intro args c t h hc w vs hg ha
  simp only [ePick] at h
  split at h <;> cases h
  obtain ⟨h1, h2, h3⟩ := hc _ rfl
  obtain ⟨v, r, rfl, a1, a2⟩ := TVs.cons_inv ha
  obtain ⟨v2, r2, rfl, b1, b2⟩ := TVs.cons_inv a2
  obtain rfl := TVs.nil_inv b2
  obtain rfl := a1.val rfl
  obtain rfl := b1.val rfl
  refine (pick14_any _ _ h1 h2 h3 w).mono ?_
  rintro e w' ⟨rfl, rfl⟩
  exact ⟨_, rfl, Below.refl _ _, .v rfl⟩⟩
theorem eCanon_ok : eCanon.ok Tryd.prog glR := ⟨enters_of Tryd.func25 (by kernel_rfl) (by kernel_rfl), by
  intro args c t h hc w vs hg ha
  simp only [eCanon] at h
  split at h <;> cases h
  have h1 := hc _ rfl
  obtain ⟨v, r, rfl, a1, a2⟩ := TVs.cons_inv ha
  obtain rfl := TVs.nil_inv a2
  obtain rfl := a1.val rfl
  refine (rcanon_any _ h1 w).mono ?_
  rintro e w' ⟨rfl, rfl⟩
  exact ⟨_, rfl, Below.refl _ _, .v rfl⟩⟩
theorem eFold_ok : eFold.ok Tryd.prog glR := ⟨enters_of Tryd.func11 (by kernel_rfl) (by kernel_rfl), by
  intro args c t h hc w vs hg ha
  simp only [eFold] at h
  split at h <;> cases h
  obtain ⟨h1, h2, h3⟩ := hc _ rfl
  obtain ⟨v, r, rfl, a1, a2⟩ := TVs.cons_inv ha
  obtain ⟨v2, r2, rfl, b1, b2⟩ := TVs.cons_inv a2
  obtain rfl := TVs.nil_inv b2
  obtain rfl := a1.val rfl
  obtain ⟨a, cap, rfl, hs, -⟩ := TV.sl_of b1
  refine (fold_any _ h1 a _ cap _ w hs h2 (by omega)).mono ?_
  rintro e w' ⟨rfl, hb⟩
  exact ⟨_, rfl, hb, .tup (.cons (.v rfl) (.cons (.v rfl) .nil))⟩⟩
theorem eApply_ok : eApply.ok Tryd.prog glR := ⟨enters_of Tryd.func23 (by kernel_rfl) (by kernel_rfl), by
  intro args c t h hc w vs hg ha
  simp only [eApply] at h
  split at h <;> cases h
  obtain ⟨h1, h2, h3, h4⟩ := hc _ rfl
  obtain ⟨v, r, rfl, a1, a2⟩ := TVs.cons_inv ha
  obtain ⟨v2, r2, rfl, b1, b2⟩ := TVs.cons_inv a2
  obtain ⟨v3, r3, rfl, c1, c2⟩ := TVs.cons_inv b2
  obtain rfl := TVs.nil_inv c2
  obtain rfl := a1.val rfl
  obtain rfl := c1.val rfl
  rcases b1.fl_inv with ⟨e0, -⟩ | ⟨b, off, cap, rfl, hI, hb, hk, hn, hcap, hp, hf⟩
  · cases e0
  refine (apply_reg _ _ _ _ _ _ b off cap w h1 (objs_gl hg) h2 h3 h4 hb (hf 0 _ rfl)).mono ?_
  rintro e w' ⟨g, cap', rfl, hcp, hrow, hbl⟩
  refine ⟨_, rfl, hbl, .tup (.cons (.fl hrow.1 hrow.2.1 (by simp) rfl ⟨hcp, by omega⟩ (by omega) (fun i x hx => ?_)) (.cons (.agg (.cons (.v rfl) (.cons (.v rfl) .nil))) (.cons (.v rfl) .nil)))⟩
  cases i with
  | zero => cases hx; rw [Nat.add_zero]; exact (hrow.2.2 0 (by omega)).1
  | succ i => simp at hx⟩
end Go.Proofs.YtpjohbnnjhkjoaaDoor
