/- Texts put together: KdC, KdD, TrB, OrO, OrP, OrQ, LwB, KdE, OrT, OrR. -/
import Derived.Test.YtlcpcgdecodjfaaGreatDoorOrderTellsM9
namespace Go.Proofs.YtlcpcgdecodjfaaGreatDoor
open Go.RowKit Go.Proofs.YtlcpcgdecodjfaaGreatDoor.Am
set_option linter.unusedVariables false
set_option linter.unusedSimpArgs false

/-- Where a key is, or would be; is it there? -/
def atK (k : Int) (ks : List Int) (x : Int) : Nat := ks.findIdx fun y => !lssK k y x
def hereK (k : Int) (ks : List Int) (x : Int) : Bool := decide (atK k ks x < ks.length ∧ ks.getD (atK k ks x) 0 = x)
theorem atK_le (k : Int) (ks : List Int) (x : Int) : atK k ks x ≤ ks.length := List.findIdx_le_length
theorem atK_is {k : Int} {ks : List Int} {x : Int} {j : Nat} (hj : j ≤ ks.length) (h1 : ∀ i, i < j → lssK k (ks.getD i 0) x = true) (h2 : j < ks.length → lssK k (ks.getD j 0) x = false) : atK k ks x = j := by
  have hg : ∀ i (h : i < ks.length), ks[i] = ks.getD i 0 := fun i h => by rw [List.getD_eq_getElem?_getD, List.getElem?_eq_getElem h]; rfl
  rcases Nat.lt_trichotomy (atK k ks x) j with h | h | h
  · have hl : atK k ks x < ks.length := by omega
    have h3 := List.findIdx_getElem (xs := ks) (p := fun y => !lssK k y x) (w := hl)
    have h4 := h1 _ h
    have h5 : (!lssK k (ks[atK k ks x]'hl) x) = true := h3
    rw [hg, h4] at h5; cases h5
  · exact h
  · have h3 := List.not_of_lt_findIdx (xs := ks) (p := fun y => !lssK k y x) h
    have hl := atK_le k ks x
    have h4 : (!lssK k (ks[j]'(by omega)) x) = false := by simpa using h3
    rw [hg, h2 (by omega)] at h4; cases h4
/-- Where Next looks. -/
def nxK (k : Int) (ks : List Int) (x v : Int) : Nat := if hereK k ks x = true ∧ v ≠ 0 then atK k ks x + 1 else atK k ks x
/-- What a call makes of keys and values, and tells: of a key that is meant. -/
def plcD (k n : Int) (ks vs : List Int) (code x v : Int) : List Int × List Int × Int × Int :=
  if code = 7 then
    if hereK k ks x = true then (delK ks (atK k ks x), (if valB k = true then delK vs (atK k ks x) else vs), 0, if valB k = true then vs.getD (atK k ks x) 0 else 0) else (ks, vs, 12, 0)
  else if code = 8 then
    if nxK k ks x v = ks.length then (ks, vs, 12, 0) else (ks, vs, 0, ks.getD (nxK k ks x v) 0)
  else if code = 5 ∧ valB k = false then (ks, vs, 0, bitI (hereK k ks x))
  else if code = 10 ∧ valB k = true then
    if hereK k ks x = true then (ks, vs, 0, vs.getD (atK k ks x) 0) else (ks, vs, 12, 0)
  else if code = 6 ∧ valB k = false then
    if hereK k ks x = true then (ks, vs, 0, 0)
    else if (ks.length : Int) = n then (ks, vs, 11, 0)
    else (insK ks (atK k ks x) x, vs, 0, 1)
  else if code = 11 ∧ valB k = true then
    if hereK k ks x = true then (ks, vs.set (atK k ks x) v, 0, vs.getD (atK k ks x) 0)
    else if (ks.length : Int) = n then (ks, vs, 11, 0)
    else (insK ks (atK k ks x) x, insK vs (atK k ks x) v, 0, 0)
  else (ks, vs, 10, 0)
section
variable {k n : Int} {ks vs : List Int} {code x v : Int}
theorem plcTT (hv : valB k = true) (hh : hereK k ks x = true) : plcD k n ks vs code x v = if code = 7 then (delK ks (atK k ks x), delK vs (atK k ks x), 0, vs.getD (atK k ks x) 0) else if code = 8 then (if nxK k ks x v = ks.length then (ks, vs, 12, 0) else (ks, vs, 0, ks.getD (nxK k ks x v) 0))
    else if code = 10 then (ks, vs, 0, vs.getD (atK k ks x) 0) else if code = 11 then (ks, vs.set (atK k ks x) v, 0, vs.getD (atK k ks x) 0) else (ks, vs, 10, 0) := by simp [plcD, hv, hh]
theorem plcTF (hv : valB k = true) (hh : hereK k ks x = false) : plcD k n ks vs code x v = if code = 7 then (ks, vs, 12, 0) else if code = 8 then (if nxK k ks x v = ks.length then (ks, vs, 12, 0) else (ks, vs, 0, ks.getD (nxK k ks x v) 0))
    else if code = 10 then (ks, vs, 12, 0) else if code = 11 then (if (ks.length : Int) = n then (ks, vs, 11, 0) else (insK ks (atK k ks x) x, insK vs (atK k ks x) v, 0, 0)) else (ks, vs, 10, 0) := by simp [plcD, hv, hh]
theorem plcFT (hv : valB k = false) (hh : hereK k ks x = true) : plcD k n ks vs code x v = if code = 7 then (delK ks (atK k ks x), vs, 0, 0) else if code = 8 then (if nxK k ks x v = ks.length then (ks, vs, 12, 0) else (ks, vs, 0, ks.getD (nxK k ks x v) 0))
    else if code = 5 then (ks, vs, 0, 1) else if code = 6 then (ks, vs, 0, 0) else (ks, vs, 10, 0) := by simp [plcD, hv, hh, bitI]
theorem plcFF (hv : valB k = false) (hh : hereK k ks x = false) : plcD k n ks vs code x v = if code = 7 then (ks, vs, 12, 0) else if code = 8 then (if nxK k ks x v = ks.length then (ks, vs, 12, 0) else (ks, vs, 0, ks.getD (nxK k ks x v) 0))
    else if code = 5 then (ks, vs, 0, 0) else if code = 6 then (if (ks.length : Int) = n then (ks, vs, 11, 0) else (insK ks (atK k ks x) x, vs, 0, 1)) else (ks, vs, 10, 0) := by simp [plcD, hv, hh, bitI]
theorem nxK_T (hh : hereK k ks x = true) : (v ≠ 0 → nxK k ks x v = atK k ks x + 1) ∧ (v = 0 → nxK k ks x v = atK k ks x) := ⟨fun h => by simp [nxK, hh, h], fun h => by simp [nxK, hh, h]⟩
theorem nxK_F (hh : hereK k ks x = false) : nxK k ks x v = atK k ks x := by simp [nxK, hh]
theorem delK_len {l : List Int} {a : Nat} (h : a < l.length) : (delK l a).length = l.length - 1 := by simp [delK]; omega
theorem insK_len {l : List Int} {a : Nat} {w : Int} (h : a ≤ l.length) : (insK l a w).length = l.length + 1 := by simp [insK]; omega
end
def tabD (k n : Int) (ks vs : List Int) (code key v : Int) : List Int × List Int × Int × Int :=
  if code = 9 then (ks, vs, 0, (ks.length : Int))
  else if mntB k key = false then (ks, vs, 10, 0)
  else plcD k n ks vs code (mntV k key) v
def eValX (b : Bool) : Entry := ⟨84, 3, fun l => match l with | [.agg [.v (.int .i64 k), .v (.int .i64 p), .v (.int .i64 n)]] => some (some (valB k = b), .v (.bool b), []) | _ => none⟩
theorem eValX_ok (b : Bool) : (eValX b).ok Tryz.prog glR := ⟨Am.enters_of Tryz.func84 (by kernel_rfl) (by kernel_rfl), by
  intro args c t bs h hc
  simp only [eValX] at h
  split at h <;> cases h
  have := hc _ rfl
  subst this
  exact valued_pure _ _ _⟩
def eKeyedT : Entry := ⟨59, 3, fun l => match l with | [.agg [.v (.int .i64 k), .v (.int .i64 p), .v (.int .i64 n)]] => some (some (keyedB k = true), .v (.bool true), []) | _ => none⟩
theorem eKeyedT_ok : eKeyedT.ok Tryz.prog glR := ⟨Am.enters_of Tryz.func59 (by kernel_rfl) (by kernel_rfl), by
  intro args c t bs h hc
  simp only [eKeyedT] at h
  split at h <;> cases h
  have := hc _ rfl
  rw [← this]
  exact keyed_pure _ _ _⟩
/-- Do's parts, in a state that is right. -/
def eFitsT : Entry := ⟨27, 3, fun l => match l with | [.agg [.v (.int .i64 k), .v (.int .i64 p), .v (.int .i64 n)]] => some (some (fitsB k p n = true), .v (.bool true), []) | _ => none⟩
theorem eFitsT_ok : eFitsT.ok Tryz.prog glR := ⟨Am.enters_of Tryz.func27 (by kernel_rfl) (by kernel_rfl), by
  intro args c t bs h hc
  simp only [eFitsT] at h
  split at h <;> cases h
  have := hc _ rfl
  rw [← this]
  exact rfits_pure _ _ _⟩
def eRightX (b : Bool) : Entry := ⟨28, 3, fun l => match l.map fixS with | [.agg [.v (.int .i64 k), .v (.int .i64 p), .v (.int .i64 n)], .agg [.v (.int .u64 r), .fl [.u64] n1 ks, .fl [.u64] n2 vs, .fl [.i64] n3 ws, .v (.bool c)]] => some (some (((k = 2 ∨ k = 3 ∨ k = 4) ∧ AllU ks ∧ n1 ≤ 1000 ∧ n2 ≤ 1000) ∧ rightT k p n r ks vs ws c = b), .v (.bool b), []) | _ => none⟩
theorem eRightX_ok (b : Bool) : (eRightX b).ok Tryz.prog glR := ⟨Am.enters_of Tryz.func28 (by kernel_rfl) (by kernel_rfl), by
  intro args c t bs h hc
  simp only [eRightX] at h
  split at h <;> cases h
  rename_i heq
  obtain ⟨h1, h2⟩ := hc _ rfl
  subst h2
  refine pure_fixS ?_
  rw [heq]
  exact rightTb_pure _ _ _ _ h1.1 _ _ _ _ _ _ _ h1.2.1 h1.2.2.1 h1.2.2.2⟩
noncomputable def iPlaced : Inl := ⟨92, Tryz.f92, bodyOf Tryz.f92, [0, 1, 2, 3, 4, 5, 6, 7, 8, 12, 13, 14, 15, 27, 41, 56, 62, 71, 78, 88, 101, 110, 120, 129, 132, 143, 151, 154]⟩
theorem iPlaced_ok : iPlaced.ok Tryz.prog := Inl.mk_ok Tryz.func92 (by rfl) (by kernel_rfl) (by kernel_rfl)
noncomputable def iTable : Inl := ⟨67, Tryz.f67, bodyOf Tryz.f67, [0, 1, 2, 3, 4, 5, 6, 7, 8, 9, 10, 13, 28, 45]⟩
theorem iTable_ok : iTable.ok Tryz.prog := Inl.mk_ok Tryz.func67 (by rfl) (by kernel_rfl) (by kernel_rfl)
noncomputable def inlKd : List Inl := [iPlaced, iTable]
theorem inlKd_ok : InlOk Tryz.prog inlKd := ⟨iPlaced_ok, iTable_ok, trivial⟩
noncomputable def ctxKdC (P : Program) (h : InlOk P inlKd) (b : Bool) : Ctx := ctx P glR [eFitsT, eRightX true, eKeyedT, eOwn, eTells, eRefuses, eBit, eValX b, eMeant, eLess9, eWith, eWithout] [] (noEq P) inlKd h.mem
theorem ctxKdC_good (b : Bool) : (ctxKdC Tryz.prog inlKd_ok b).good := ctx_good (by kernel_rfl) (AllOk.mem ⟨eFitsT_ok, eRightX_ok true, eKeyedT_ok, eOwn_ok, eTells_ok, eRefuses_ok, eBit_ok, eValX_ok b, eMeant_ok, eLess9_ok, eWith_ok, eWithout_ok, trivial⟩) glR_two
/-- A state that is right, of what has keys. -/
structure TabH (k p n : Int) (n1 : Nat) (ks : List Int) (n2 : Nat) (vs : List Int) : Prop where
  kd : k = 2 ∨ k = 3 ∨ k = 4
  fits : fitsB k p n = true
  right : rightT k p n 0 ks vs [] false = true
  l1 : ks.length = n1
  l2 : vs.length = n2
  ln : n1 ≤ 256 ∧ (n1 : Int) ≤ n
  u1 : AllU ks
  u2 : AllU vs
  v : n2 = if valB k = true then n1 else 0
attribute [local irreducible] fitsB rightT lssK mntV mntB valB atK hereK keyedB nxK plcD delK insK
set_option maxRecDepth 100000 in
set_option maxHeartbeats 2000000 in
theorem doKT_pure (k p n : Int) (n1 : Nat) (ks : List Int) (n2 : Nat) (vs : List Int) (H : TabH k p n n1 ks n2 vs) (hv : valB k = true) (code key v : Int) (uk : U64 key) (uv : U64 v) : Pure Tryz.prog glR 33 [.agg [.v (.int .i64 k), .v (.int .i64 p), .v (.int .i64 n)], ST 0 n1 ks n2 vs 0 [] false, .agg [.v (.int .i64 code), .v (.int .u64 key), .v (.int .u64 v)]]
    (.tup [SO 0 (tabD k n ks vs code key v).1.length (tabD k n ks vs code key v).2.1.length 0 false, .agg [.v (.int .i64 (tabD k n ks vs code key v).2.2.1), .v (.int .u64 (tabD k n ks vs code key v).2.2.2)], .v (.int .i64 0)]) (SH (tabD k n ks vs code key v).1 (tabD k n ks vs code key v).2.1 []) := by
  obtain ⟨hk, hf, hr, l1, l2, ⟨hn1, hn2⟩, u1, u2, hvv⟩ := H
  rw [if_pos hv] at hvv
  replace hvv := hvv.symm
  subst hvv
  have k1 : k ≠ 1 := by omega
  have hkd : keyedB k = true := by unfold keyedB; exact decide_eq_true hk
  have hcn : IntKind.u64.wrap (n1 : Int) = n1 := wrapU (by omega) (by omega)
  refine pure_of (C := ctxKdC Tryz.prog inlKd_ok true) (ctxKdC_good true) Tryz.func33 (c := bodyOf Tryz.f33) (by rfl) (Nat.le_of_ble_eq_true (by rfl)) 4 4 [0, 1, 2, 3, 4, 5, 6, 7, 8, 9, 10, 11, 14, 20, 34, 44] ?_
  conv => whnf
  refine And.intro hf ?_
  conv => whnf
  refine And.intro ⟨⟨hk, u1, by omega, by omega⟩, hr⟩ ?_
  conv => whnf
  refine And.intro ⟨by omega, by omega, by omega⟩ ?_
  conv => whnf
  refine ifB_eq (fun h => absurd h k1) (fun _ => ?_)
  conv => whnf
  refine And.intro hkd ?_
  conv => whnf
  refine ifB_eq (fun h => ?_) (fun h9 => ?_)
  · subst h
    rw [show tabD k n ks vs 9 key v = (ks, vs, 0, (ks.length : Int)) from if_pos rfl]
    conv => whnf
    rw [hcn]
    dsimp only
    rw [l1, l2]
    repeat' (first | exact trivial | exact rfl | (refine And.intro ?_ ?_) | ((conv => whnf); done) | ((conv => whnf); (first | rfl | (refine congrArg (fun b => T.v (Value.bool b)) ?_; first | rfl | exact (decide_eq_true (by omega)).symm | exact (decide_eq_false (by omega)).symm | exact decide_eq_decide.2 (by omega)) | (refine congrArg (fun b => T.v (Value.int _ b)) ?_; first | rfl | omega) | omega)) | (first | rfl | (refine congrArg (fun b => T.v (Value.bool b)) ?_; first | rfl | exact (decide_eq_true (by omega)).symm | exact (decide_eq_false (by omega)).symm | exact decide_eq_decide.2 (by omega)) | (refine congrArg (fun b => T.v (Value.int _ b)) ?_; first | rfl | omega) | omega))
  conv => whnf
  refine And.intro uk ?_
  conv => whnf
  cases hmb : mntB k key
  · rw [show tabD k n ks vs code key v = (ks, vs, 10, 0) by unfold tabD; rw [if_neg h9, if_pos hmb]]
    conv => whnf
    dsimp only
    rw [l1, l2]
    repeat' (first | exact trivial | exact rfl | (refine And.intro ?_ ?_) | ((conv => whnf); done) | ((conv => whnf); (first | rfl | (refine congrArg (fun b => T.v (Value.bool b)) ?_; first | rfl | exact (decide_eq_true (by omega)).symm | exact (decide_eq_false (by omega)).symm | exact decide_eq_decide.2 (by omega)) | (refine congrArg (fun b => T.v (Value.int _ b)) ?_; first | rfl | omega) | omega)) | (first | rfl | (refine congrArg (fun b => T.v (Value.bool b)) ?_; first | rfl | exact (decide_eq_true (by omega)).symm | exact (decide_eq_false (by omega)).symm | exact decide_eq_decide.2 (by omega)) | (refine congrArg (fun b => T.v (Value.int _ b)) ?_; first | rfl | omega) | omega))
  rw [show tabD k n ks vs code key v = plcD k n ks vs code (mntV k key) v by unfold tabD; rw [if_neg h9, hmb, if_neg (by simp)]]
  conv => whnf
  obtain ⟨x, hx⟩ : ∃ x, mntV k key = x := ⟨_, rfl⟩
  have ux : U64 x := by rw [← hx]; unfold mntV; split; exact u64_canon uk; exact uk
  rw [hx]
  have ha := atK_le k ks x
  have e0 : ∀ (l : List Int) (j : Nat), l.getD (0 + addN 0 (j : Int).toNat * (0 + 1)) 0 = l.getD j 0 := fun l j => by simp [addN_eq]
  have es : ∀ (l : List Int) (j : Nat) (y : Int), l.set (0 + addN 0 (j : Int).toNat * (0 + 1) + 0) y = l.set j y := fun l j y => by simp [addN_eq]
  refine TW.loopD (ctxKdC_good true) 4 (base := 839695) (lv := [0, 1, 2, 3, 4, 5, 6, 7, 8, 9, 10, 13, 28, 45]) [10] [] [] (fun j : Nat => [.v (.int .i64 j)]) (fun _ => []) (fun j => j ≤ n1 ∧ ∀ i, i < j → lssK k (ks.getD i 0) x = true) (fun j => n1 - j) ?_
  conv => whnf
  refine ⟨⟨0, ⟨rfl, rfl, rfl⟩, Nat.zero_le _, fun i hi => absurd hi (Nat.not_lt_zero _)⟩, fun j ⟨hj, hl⟩ => ?_⟩
  conv => whnf
  have hlast : (¬ (j < n1) ∨ lssK k (ks.getD j 0) x = false) → atK k ks x = j := fun h => atK_is (by omega) hl (fun h2 => by rcases h with h | h; omega; exact h)
  by_cases hjn : j < n1
  · refine ifB_t (decide_eq_true (by omega)) ?_
    conv => whnf
    refine And.intro (by omega) ?_
    conv => whnf
    rw [e0]
    refine And.intro ⟨allU_getD u1 _, ux⟩ ?_
    conv => whnf
    cases hs : lssK k (ks.getD j 0) x
    · rw [← hlast (.inr hs)]
      conv => whnf
      (have h1 : atK k ks x < n1 := by have := hlast (.inr hs); omega
       refine ifB_t (decide_eq_true (by omega)) ?_
       conv => whnf
       refine And.intro (by omega) ?_
       conv => whnf
       rw [e0]
       by_cases h2 : ks.getD (atK k ks x) 0 = x
       · have hh : hereK k ks x = true := by unfold hereK; exact decide_eq_true ⟨by omega, h2⟩
         rw [show (ks.getD (atK k ks x) 0 == x) = true from beq_iff_eq.2 h2]
         (have hnx := nxK_T (v := v) hh
          have ew1 : IntKind.i64.wrap ((atK k ks x : Int) + 1) = ((atK k ks x + 1 : Nat) : Int) := wrap64 (by omega) (by omega)
          conv => whnf
          repeat' (first | (refine ifB_t (by assumption) ?_; conv => whnf) | (refine ifB_f (by assumption) ?_; conv => whnf) | (refine ifB_dec (fun h => ?_) (fun h => ?_) <;> (first | (exfalso; omega) | (conv => whnf))) | (refine ifB_eq (fun h => ?_) (fun h => ?_) <;> (first | (exfalso; omega) | (conv => whnf))) | (refine ifB_ne (fun h => ?_) (fun h => ?_) <;> (first | (exfalso; omega) | (conv => whnf))) | (refine ifB_not ?_; conv => whnf) | (refine ifB_and ?_; conv => whnf) | (refine ifB_or ?_; conv => whnf) | (refine And.intro ?_ ?_; (first | (first | omega | assumption | (exact allU_getD (by assumption) _) | (simp only [cutL]; omega) | (refine And.intro ?_ ?_ <;> first | assumption | exact allU_getD (by assumption) _) | (simp only [cutL, IntKind.wrap_u64, IntKind.wrap_i64] at *; omega) | decide) | (show n1 * 8 ≤ 140737488355328; omega)); conv => whnf) | (refine ifB_mk (fun h => ?_) (fun h => ?_) <;> (conv => whnf)))
          all_goals ((obtain ⟨r, hb⟩ : ∃ r, plcD k n ks vs code x v = r := ⟨_, rfl⟩; rw [hb]; rw [plcTT hv hh] at hb; (repeat (first | rw [if_pos (by first | assumption | omega | exact Bool.false_ne_true | exact rfl | (simp only [addN_eq, loN, Nat.zero_add, Nat.mul_one, Nat.zero_mul, Nat.add_zero, Int.toNat_zero] at *; first | assumption | omega))] at hb | rw [if_neg (by first | assumption | omega | exact Bool.false_ne_true | exact rfl | (simp only [addN_eq, loN, Nat.zero_add, Nat.mul_one, Nat.zero_mul, Nat.add_zero, Int.toNat_zero] at *; first | assumption | omega))] at hb)); (try rw [hnx.1 (by assumption)] at hb); (try rw [hnx.2 (by omega)] at hb); subst hb; dsimp only; (try rw [ew1]); (try rw [e0]); (try rw [es]); (try rw [delK_len (by omega)]); (try rw [delK_len (by omega)]); (try rw [insK_len (by omega)]); (try rw [insK_len (by omega)]); (try rw [List.length_set]); (try rw [l1]); (try rw [l2]); repeat' (first | exact trivial | exact rfl | (refine And.intro ?_ ?_) | ((conv => whnf); done) | ((conv => whnf); (first | rfl | (refine congrArg (fun b => T.v (Value.bool b)) ?_; first | rfl | exact (decide_eq_true (by omega)).symm | exact (decide_eq_false (by omega)).symm | exact decide_eq_decide.2 (by omega)) | (refine congrArg (fun b => T.v (Value.int _ b)) ?_; first | rfl | omega) | omega)) | (first | rfl | (refine congrArg (fun b => T.v (Value.bool b)) ?_; first | rfl | exact (decide_eq_true (by omega)).symm | exact (decide_eq_false (by omega)).symm | exact decide_eq_decide.2 (by omega)) | (refine congrArg (fun b => T.v (Value.int _ b)) ?_; first | rfl | omega) | omega)))))
       · have hh : hereK k ks x = false := by unfold hereK; exact decide_eq_false (fun h => h2 h.2)
         rw [show (ks.getD (atK k ks x) 0 == x) = false from beq_eq_false_iff_ne.2 h2]
         (have ew1 : IntKind.i64.wrap ((atK k ks x : Int) + 1) = ((atK k ks x + 1 : Nat) : Int) := wrap64 (by omega) (by omega)
          conv => whnf
          repeat' (first | (refine ifB_t (by assumption) ?_; conv => whnf) | (refine ifB_f (by assumption) ?_; conv => whnf) | (refine ifB_dec (fun h => ?_) (fun h => ?_) <;> (first | (exfalso; omega) | (conv => whnf))) | (refine ifB_eq (fun h => ?_) (fun h => ?_) <;> (first | (exfalso; omega) | (conv => whnf))) | (refine ifB_ne (fun h => ?_) (fun h => ?_) <;> (first | (exfalso; omega) | (conv => whnf))) | (refine ifB_not ?_; conv => whnf) | (refine ifB_and ?_; conv => whnf) | (refine ifB_or ?_; conv => whnf) | (refine And.intro ?_ ?_; (first | (first | omega | assumption | (exact allU_getD (by assumption) _) | (simp only [cutL]; omega) | (refine And.intro ?_ ?_ <;> first | assumption | exact allU_getD (by assumption) _) | (simp only [cutL, IntKind.wrap_u64, IntKind.wrap_i64] at *; omega) | decide) | (show n1 * 8 ≤ 140737488355328; omega)); conv => whnf) | (refine ifB_mk (fun h => ?_) (fun h => ?_) <;> (conv => whnf)))
          all_goals ((obtain ⟨r, hb⟩ : ∃ r, plcD k n ks vs code x v = r := ⟨_, rfl⟩; rw [hb]; rw [plcTF hv hh, nxK_F hh] at hb; (repeat (first | rw [if_pos (by first | assumption | omega | exact Bool.false_ne_true | exact rfl | (simp only [addN_eq, loN, Nat.zero_add, Nat.mul_one, Nat.zero_mul, Nat.add_zero, Int.toNat_zero] at *; first | assumption | omega))] at hb | rw [if_neg (by first | assumption | omega | exact Bool.false_ne_true | exact rfl | (simp only [addN_eq, loN, Nat.zero_add, Nat.mul_one, Nat.zero_mul, Nat.add_zero, Int.toNat_zero] at *; first | assumption | omega))] at hb)); (try rw [hnx.1 (by assumption)] at hb); (try rw [hnx.2 (by omega)] at hb); subst hb; dsimp only; (try rw [ew1]); (try rw [e0]); (try rw [es]); (try rw [delK_len (by omega)]); (try rw [delK_len (by omega)]); (try rw [insK_len (by omega)]); (try rw [insK_len (by omega)]); (try rw [List.length_set]); (try rw [l1]); (try rw [l2]); repeat' (first | exact trivial | exact rfl | (refine And.intro ?_ ?_) | ((conv => whnf); done) | ((conv => whnf); (first | rfl | (refine congrArg (fun b => T.v (Value.bool b)) ?_; first | rfl | exact (decide_eq_true (by omega)).symm | exact (decide_eq_false (by omega)).symm | exact decide_eq_decide.2 (by omega)) | (refine congrArg (fun b => T.v (Value.int _ b)) ?_; first | rfl | omega) | omega)) | (first | rfl | (refine congrArg (fun b => T.v (Value.bool b)) ?_; first | rfl | exact (decide_eq_true (by omega)).symm | exact (decide_eq_false (by omega)).symm | exact decide_eq_decide.2 (by omega)) | (refine congrArg (fun b => T.v (Value.int _ b)) ?_; first | rfl | omega) | omega))))))
    · conv => whnf
      rw [wsucc (n := n1) (by omega) (by omega)]
      exact ⟨j + 1, [], ⟨rfl, rfl, rfl⟩, ⟨(by omega : j + 1 ≤ n1), fun i hi => by
        by_cases e : i = j
        · rw [e]; exact hs
        · exact hl i (by omega)⟩, by (try dsimp only); omega⟩
  · refine ifB_f (decide_eq_false (by omega)) ?_
    have hj2 := hlast (.inl hjn)
    rw [← hj2]
    conv => whnf
    have h1 : ¬ atK k ks x < n1 := by omega
    have hh : hereK k ks x = false := by unfold hereK; exact decide_eq_false (fun h => h1 (by omega))
    refine ifB_f (decide_eq_false (by omega)) ?_
    (have ew1 : IntKind.i64.wrap ((atK k ks x : Int) + 1) = ((atK k ks x + 1 : Nat) : Int) := wrap64 (by omega) (by omega)
     conv => whnf
     repeat' (first | (refine ifB_t (by assumption) ?_; conv => whnf) | (refine ifB_f (by assumption) ?_; conv => whnf) | (refine ifB_dec (fun h => ?_) (fun h => ?_) <;> (first | (exfalso; omega) | (conv => whnf))) | (refine ifB_eq (fun h => ?_) (fun h => ?_) <;> (first | (exfalso; omega) | (conv => whnf))) | (refine ifB_ne (fun h => ?_) (fun h => ?_) <;> (first | (exfalso; omega) | (conv => whnf))) | (refine ifB_not ?_; conv => whnf) | (refine ifB_and ?_; conv => whnf) | (refine ifB_or ?_; conv => whnf) | (refine And.intro ?_ ?_; (first | (first | omega | assumption | (exact allU_getD (by assumption) _) | (simp only [cutL]; omega) | (refine And.intro ?_ ?_ <;> first | assumption | exact allU_getD (by assumption) _) | (simp only [cutL, IntKind.wrap_u64, IntKind.wrap_i64] at *; omega) | decide) | (show n1 * 8 ≤ 140737488355328; omega)); conv => whnf) | (refine ifB_mk (fun h => ?_) (fun h => ?_) <;> (conv => whnf)))
     all_goals ((obtain ⟨r, hb⟩ : ∃ r, plcD k n ks vs code x v = r := ⟨_, rfl⟩; rw [hb]; rw [plcTF hv hh, nxK_F hh] at hb; (repeat (first | rw [if_pos (by first | assumption | omega | exact Bool.false_ne_true | exact rfl | (simp only [addN_eq, loN, Nat.zero_add, Nat.mul_one, Nat.zero_mul, Nat.add_zero, Int.toNat_zero] at *; first | assumption | omega))] at hb | rw [if_neg (by first | assumption | omega | exact Bool.false_ne_true | exact rfl | (simp only [addN_eq, loN, Nat.zero_add, Nat.mul_one, Nat.zero_mul, Nat.add_zero, Int.toNat_zero] at *; first | assumption | omega))] at hb)); (try rw [hnx.1 (by assumption)] at hb); (try rw [hnx.2 (by omega)] at hb); subst hb; dsimp only; (try rw [ew1]); (try rw [e0]); (try rw [es]); (try rw [delK_len (by omega)]); (try rw [delK_len (by omega)]); (try rw [insK_len (by omega)]); (try rw [insK_len (by omega)]); (try rw [List.length_set]); (try rw [l1]); (try rw [l2]); repeat' (first | exact trivial | exact rfl | (refine And.intro ?_ ?_) | ((conv => whnf); done) | ((conv => whnf); (first | rfl | (refine congrArg (fun b => T.v (Value.bool b)) ?_; first | rfl | exact (decide_eq_true (by omega)).symm | exact (decide_eq_false (by omega)).symm | exact decide_eq_decide.2 (by omega)) | (refine congrArg (fun b => T.v (Value.int _ b)) ?_; first | rfl | omega) | omega)) | (first | rfl | (refine congrArg (fun b => T.v (Value.bool b)) ?_; first | rfl | exact (decide_eq_true (by omega)).symm | exact (decide_eq_false (by omega)).symm | exact decide_eq_decide.2 (by omega)) | (refine congrArg (fun b => T.v (Value.int _ b)) ?_; first | rfl | omega) | omega)))))
set_option maxRecDepth 100000 in
set_option maxHeartbeats 2000000 in
theorem doKF_pure (k p n : Int) (n1 : Nat) (ks : List Int) (n2 : Nat) (vs : List Int) (H : TabH k p n n1 ks n2 vs) (hv : valB k = false) (code key v : Int) (uk : U64 key) (uv : U64 v) : Pure Tryz.prog glR 33 [.agg [.v (.int .i64 k), .v (.int .i64 p), .v (.int .i64 n)], ST 0 n1 ks n2 vs 0 [] false, .agg [.v (.int .i64 code), .v (.int .u64 key), .v (.int .u64 v)]]
    (.tup [SO 0 (tabD k n ks vs code key v).1.length (tabD k n ks vs code key v).2.1.length 0 false, .agg [.v (.int .i64 (tabD k n ks vs code key v).2.2.1), .v (.int .u64 (tabD k n ks vs code key v).2.2.2)], .v (.int .i64 0)]) (SH (tabD k n ks vs code key v).1 (tabD k n ks vs code key v).2.1 []) := by
  obtain ⟨hk, hf, hr, l1, l2, ⟨hn1, hn2⟩, u1, u2, hvv⟩ := H
  rw [if_neg (by rw [hv]; exact Bool.false_ne_true)] at hvv
  subst hvv
  have k1 : k ≠ 1 := by omega
  have hkd : keyedB k = true := by unfold keyedB; exact decide_eq_true hk
  have hcn : IntKind.u64.wrap (n1 : Int) = n1 := wrapU (by omega) (by omega)
  refine pure_of (C := ctxKdC Tryz.prog inlKd_ok false) (ctxKdC_good false) Tryz.func33 (c := bodyOf Tryz.f33) (by rfl) (Nat.le_of_ble_eq_true (by rfl)) 4 4 [0, 1, 2, 3, 4, 5, 6, 7, 8, 9, 10, 11, 14, 20, 34, 44] ?_
  conv => whnf
  refine And.intro hf ?_
  conv => whnf
  refine And.intro ⟨⟨hk, u1, by omega, by omega⟩, hr⟩ ?_
  conv => whnf
  refine And.intro ⟨by omega, by omega, by omega⟩ ?_
  conv => whnf
  refine ifB_eq (fun h => absurd h k1) (fun _ => ?_)
  conv => whnf
  refine And.intro hkd ?_
  conv => whnf
  refine ifB_eq (fun h => ?_) (fun h9 => ?_)
  · subst h
    rw [show tabD k n ks vs 9 key v = (ks, vs, 0, (ks.length : Int)) from if_pos rfl]
    conv => whnf
    rw [hcn]
    dsimp only
    rw [l1, l2]
    repeat' (first | exact trivial | exact rfl | (refine And.intro ?_ ?_) | ((conv => whnf); done) | ((conv => whnf); (first | rfl | (refine congrArg (fun b => T.v (Value.bool b)) ?_; first | rfl | exact (decide_eq_true (by omega)).symm | exact (decide_eq_false (by omega)).symm | exact decide_eq_decide.2 (by omega)) | (refine congrArg (fun b => T.v (Value.int _ b)) ?_; first | rfl | omega) | omega)) | (first | rfl | (refine congrArg (fun b => T.v (Value.bool b)) ?_; first | rfl | exact (decide_eq_true (by omega)).symm | exact (decide_eq_false (by omega)).symm | exact decide_eq_decide.2 (by omega)) | (refine congrArg (fun b => T.v (Value.int _ b)) ?_; first | rfl | omega) | omega))
  conv => whnf
  refine And.intro uk ?_
  conv => whnf
  cases hmb : mntB k key
  · rw [show tabD k n ks vs code key v = (ks, vs, 10, 0) by unfold tabD; rw [if_neg h9, if_pos hmb]]
    conv => whnf
    dsimp only
    rw [l1, l2]
    repeat' (first | exact trivial | exact rfl | (refine And.intro ?_ ?_) | ((conv => whnf); done) | ((conv => whnf); (first | rfl | (refine congrArg (fun b => T.v (Value.bool b)) ?_; first | rfl | exact (decide_eq_true (by omega)).symm | exact (decide_eq_false (by omega)).symm | exact decide_eq_decide.2 (by omega)) | (refine congrArg (fun b => T.v (Value.int _ b)) ?_; first | rfl | omega) | omega)) | (first | rfl | (refine congrArg (fun b => T.v (Value.bool b)) ?_; first | rfl | exact (decide_eq_true (by omega)).symm | exact (decide_eq_false (by omega)).symm | exact decide_eq_decide.2 (by omega)) | (refine congrArg (fun b => T.v (Value.int _ b)) ?_; first | rfl | omega) | omega))
  rw [show tabD k n ks vs code key v = plcD k n ks vs code (mntV k key) v by unfold tabD; rw [if_neg h9, hmb, if_neg (by simp)]]
  conv => whnf
  obtain ⟨x, hx⟩ : ∃ x, mntV k key = x := ⟨_, rfl⟩
  have ux : U64 x := by rw [← hx]; unfold mntV; split; exact u64_canon uk; exact uk
  rw [hx]
  have ha := atK_le k ks x
  have e0 : ∀ (l : List Int) (j : Nat), l.getD (0 + addN 0 (j : Int).toNat * (0 + 1)) 0 = l.getD j 0 := fun l j => by simp [addN_eq]
  have es : ∀ (l : List Int) (j : Nat) (y : Int), l.set (0 + addN 0 (j : Int).toNat * (0 + 1) + 0) y = l.set j y := fun l j y => by simp [addN_eq]
  refine TW.loopD (ctxKdC_good false) 4 (base := 839695) (lv := [0, 1, 2, 3, 4, 5, 6, 7, 8, 9, 10, 13, 28, 45]) [10] [] [] (fun j : Nat => [.v (.int .i64 j)]) (fun _ => []) (fun j => j ≤ n1 ∧ ∀ i, i < j → lssK k (ks.getD i 0) x = true) (fun j => n1 - j) ?_
  conv => whnf
  refine ⟨⟨0, ⟨rfl, rfl, rfl⟩, Nat.zero_le _, fun i hi => absurd hi (Nat.not_lt_zero _)⟩, fun j ⟨hj, hl⟩ => ?_⟩
  conv => whnf
  have hlast : (¬ (j < n1) ∨ lssK k (ks.getD j 0) x = false) → atK k ks x = j := fun h => atK_is (by omega) hl (fun h2 => by rcases h with h | h; omega; exact h)
  by_cases hjn : j < n1
  · refine ifB_t (decide_eq_true (by omega)) ?_
    conv => whnf
    refine And.intro (by omega) ?_
    conv => whnf
    rw [e0]
    refine And.intro ⟨allU_getD u1 _, ux⟩ ?_
    conv => whnf
    cases hs : lssK k (ks.getD j 0) x
    · rw [← hlast (.inr hs)]
      conv => whnf
      (have h1 : atK k ks x < n1 := by have := hlast (.inr hs); omega
       refine ifB_t (decide_eq_true (by omega)) ?_
       conv => whnf
       refine And.intro (by omega) ?_
       conv => whnf
       rw [e0]
       by_cases h2 : ks.getD (atK k ks x) 0 = x
       · have hh : hereK k ks x = true := by unfold hereK; exact decide_eq_true ⟨by omega, h2⟩
         rw [show (ks.getD (atK k ks x) 0 == x) = true from beq_iff_eq.2 h2]
         (have hnx := nxK_T (v := v) hh
          have ew1 : IntKind.i64.wrap ((atK k ks x : Int) + 1) = ((atK k ks x + 1 : Nat) : Int) := wrap64 (by omega) (by omega)
          conv => whnf
          repeat' (first | (refine ifB_t (by assumption) ?_; conv => whnf) | (refine ifB_f (by assumption) ?_; conv => whnf) | (refine ifB_dec (fun h => ?_) (fun h => ?_) <;> (first | (exfalso; omega) | (conv => whnf))) | (refine ifB_eq (fun h => ?_) (fun h => ?_) <;> (first | (exfalso; omega) | (conv => whnf))) | (refine ifB_ne (fun h => ?_) (fun h => ?_) <;> (first | (exfalso; omega) | (conv => whnf))) | (refine ifB_not ?_; conv => whnf) | (refine ifB_and ?_; conv => whnf) | (refine ifB_or ?_; conv => whnf) | (refine And.intro ?_ ?_; (first | (first | omega | assumption | (exact allU_getD (by assumption) _) | (simp only [cutL]; omega) | (refine And.intro ?_ ?_ <;> first | assumption | exact allU_getD (by assumption) _) | (simp only [cutL, IntKind.wrap_u64, IntKind.wrap_i64] at *; omega) | decide) | (show n1 * 8 ≤ 140737488355328; omega)); conv => whnf) | (refine ifB_mk (fun h => ?_) (fun h => ?_) <;> (conv => whnf)))
          all_goals ((obtain ⟨r, hb⟩ : ∃ r, plcD k n ks vs code x v = r := ⟨_, rfl⟩; rw [hb]; rw [plcFT hv hh] at hb; (repeat (first | rw [if_pos (by first | assumption | omega | exact Bool.false_ne_true | exact rfl | (simp only [addN_eq, loN, Nat.zero_add, Nat.mul_one, Nat.zero_mul, Nat.add_zero, Int.toNat_zero] at *; first | assumption | omega))] at hb | rw [if_neg (by first | assumption | omega | exact Bool.false_ne_true | exact rfl | (simp only [addN_eq, loN, Nat.zero_add, Nat.mul_one, Nat.zero_mul, Nat.add_zero, Int.toNat_zero] at *; first | assumption | omega))] at hb)); (try rw [hnx.1 (by assumption)] at hb); (try rw [hnx.2 (by omega)] at hb); subst hb; dsimp only; (try rw [ew1]); (try rw [e0]); (try rw [es]); (try rw [delK_len (by omega)]); (try rw [delK_len (by omega)]); (try rw [insK_len (by omega)]); (try rw [insK_len (by omega)]); (try rw [List.length_set]); (try rw [l1]); (try rw [l2]); repeat' (first | exact trivial | exact rfl | (refine And.intro ?_ ?_) | ((conv => whnf); done) | ((conv => whnf); (first | rfl | (refine congrArg (fun b => T.v (Value.bool b)) ?_; first | rfl | exact (decide_eq_true (by omega)).symm | exact (decide_eq_false (by omega)).symm | exact decide_eq_decide.2 (by omega)) | (refine congrArg (fun b => T.v (Value.int _ b)) ?_; first | rfl | omega) | omega)) | (first | rfl | (refine congrArg (fun b => T.v (Value.bool b)) ?_; first | rfl | exact (decide_eq_true (by omega)).symm | exact (decide_eq_false (by omega)).symm | exact decide_eq_decide.2 (by omega)) | (refine congrArg (fun b => T.v (Value.int _ b)) ?_; first | rfl | omega) | omega)))))
       · have hh : hereK k ks x = false := by unfold hereK; exact decide_eq_false (fun h => h2 h.2)
         rw [show (ks.getD (atK k ks x) 0 == x) = false from beq_eq_false_iff_ne.2 h2]
         (have ew1 : IntKind.i64.wrap ((atK k ks x : Int) + 1) = ((atK k ks x + 1 : Nat) : Int) := wrap64 (by omega) (by omega)
          conv => whnf
          repeat' (first | (refine ifB_t (by assumption) ?_; conv => whnf) | (refine ifB_f (by assumption) ?_; conv => whnf) | (refine ifB_dec (fun h => ?_) (fun h => ?_) <;> (first | (exfalso; omega) | (conv => whnf))) | (refine ifB_eq (fun h => ?_) (fun h => ?_) <;> (first | (exfalso; omega) | (conv => whnf))) | (refine ifB_ne (fun h => ?_) (fun h => ?_) <;> (first | (exfalso; omega) | (conv => whnf))) | (refine ifB_not ?_; conv => whnf) | (refine ifB_and ?_; conv => whnf) | (refine ifB_or ?_; conv => whnf) | (refine And.intro ?_ ?_; (first | (first | omega | assumption | (exact allU_getD (by assumption) _) | (simp only [cutL]; omega) | (refine And.intro ?_ ?_ <;> first | assumption | exact allU_getD (by assumption) _) | (simp only [cutL, IntKind.wrap_u64, IntKind.wrap_i64] at *; omega) | decide) | (show n1 * 8 ≤ 140737488355328; omega)); conv => whnf) | (refine ifB_mk (fun h => ?_) (fun h => ?_) <;> (conv => whnf)))
          all_goals ((obtain ⟨r, hb⟩ : ∃ r, plcD k n ks vs code x v = r := ⟨_, rfl⟩; rw [hb]; rw [plcFF hv hh, nxK_F hh] at hb; (repeat (first | rw [if_pos (by first | assumption | omega | exact Bool.false_ne_true | exact rfl | (simp only [addN_eq, loN, Nat.zero_add, Nat.mul_one, Nat.zero_mul, Nat.add_zero, Int.toNat_zero] at *; first | assumption | omega))] at hb | rw [if_neg (by first | assumption | omega | exact Bool.false_ne_true | exact rfl | (simp only [addN_eq, loN, Nat.zero_add, Nat.mul_one, Nat.zero_mul, Nat.add_zero, Int.toNat_zero] at *; first | assumption | omega))] at hb)); (try rw [hnx.1 (by assumption)] at hb); (try rw [hnx.2 (by omega)] at hb); subst hb; dsimp only; (try rw [ew1]); (try rw [e0]); (try rw [es]); (try rw [delK_len (by omega)]); (try rw [delK_len (by omega)]); (try rw [insK_len (by omega)]); (try rw [insK_len (by omega)]); (try rw [List.length_set]); (try rw [l1]); (try rw [l2]); repeat' (first | exact trivial | exact rfl | (refine And.intro ?_ ?_) | ((conv => whnf); done) | ((conv => whnf); (first | rfl | (refine congrArg (fun b => T.v (Value.bool b)) ?_; first | rfl | exact (decide_eq_true (by omega)).symm | exact (decide_eq_false (by omega)).symm | exact decide_eq_decide.2 (by omega)) | (refine congrArg (fun b => T.v (Value.int _ b)) ?_; first | rfl | omega) | omega)) | (first | rfl | (refine congrArg (fun b => T.v (Value.bool b)) ?_; first | rfl | exact (decide_eq_true (by omega)).symm | exact (decide_eq_false (by omega)).symm | exact decide_eq_decide.2 (by omega)) | (refine congrArg (fun b => T.v (Value.int _ b)) ?_; first | rfl | omega) | omega))))))
    · conv => whnf
      rw [wsucc (n := n1) (by omega) (by omega)]
      exact ⟨j + 1, [], ⟨rfl, rfl, rfl⟩, ⟨(by omega : j + 1 ≤ n1), fun i hi => by
        by_cases e : i = j
        · rw [e]; exact hs
        · exact hl i (by omega)⟩, by (try dsimp only); omega⟩
  · refine ifB_f (decide_eq_false (by omega)) ?_
    have hj2 := hlast (.inl hjn)
    rw [← hj2]
    conv => whnf
    have h1 : ¬ atK k ks x < n1 := by omega
    have hh : hereK k ks x = false := by unfold hereK; exact decide_eq_false (fun h => h1 (by omega))
    refine ifB_f (decide_eq_false (by omega)) ?_
    (have ew1 : IntKind.i64.wrap ((atK k ks x : Int) + 1) = ((atK k ks x + 1 : Nat) : Int) := wrap64 (by omega) (by omega)
     conv => whnf
     repeat' (first | (refine ifB_t (by assumption) ?_; conv => whnf) | (refine ifB_f (by assumption) ?_; conv => whnf) | (refine ifB_dec (fun h => ?_) (fun h => ?_) <;> (first | (exfalso; omega) | (conv => whnf))) | (refine ifB_eq (fun h => ?_) (fun h => ?_) <;> (first | (exfalso; omega) | (conv => whnf))) | (refine ifB_ne (fun h => ?_) (fun h => ?_) <;> (first | (exfalso; omega) | (conv => whnf))) | (refine ifB_not ?_; conv => whnf) | (refine ifB_and ?_; conv => whnf) | (refine ifB_or ?_; conv => whnf) | (refine And.intro ?_ ?_; (first | (first | omega | assumption | (exact allU_getD (by assumption) _) | (simp only [cutL]; omega) | (refine And.intro ?_ ?_ <;> first | assumption | exact allU_getD (by assumption) _) | (simp only [cutL, IntKind.wrap_u64, IntKind.wrap_i64] at *; omega) | decide) | (show n1 * 8 ≤ 140737488355328; omega)); conv => whnf) | (refine ifB_mk (fun h => ?_) (fun h => ?_) <;> (conv => whnf)))
     all_goals ((obtain ⟨r, hb⟩ : ∃ r, plcD k n ks vs code x v = r := ⟨_, rfl⟩; rw [hb]; rw [plcFF hv hh, nxK_F hh] at hb; (repeat (first | rw [if_pos (by first | assumption | omega | exact Bool.false_ne_true | exact rfl | (simp only [addN_eq, loN, Nat.zero_add, Nat.mul_one, Nat.zero_mul, Nat.add_zero, Int.toNat_zero] at *; first | assumption | omega))] at hb | rw [if_neg (by first | assumption | omega | exact Bool.false_ne_true | exact rfl | (simp only [addN_eq, loN, Nat.zero_add, Nat.mul_one, Nat.zero_mul, Nat.add_zero, Int.toNat_zero] at *; first | assumption | omega))] at hb)); (try rw [hnx.1 (by assumption)] at hb); (try rw [hnx.2 (by omega)] at hb); subst hb; dsimp only; (try rw [ew1]); (try rw [e0]); (try rw [es]); (try rw [delK_len (by omega)]); (try rw [delK_len (by omega)]); (try rw [insK_len (by omega)]); (try rw [insK_len (by omega)]); (try rw [List.length_set]); (try rw [l1]); (try rw [l2]); repeat' (first | exact trivial | exact rfl | (refine And.intro ?_ ?_) | ((conv => whnf); done) | ((conv => whnf); (first | rfl | (refine congrArg (fun b => T.v (Value.bool b)) ?_; first | rfl | exact (decide_eq_true (by omega)).symm | exact (decide_eq_false (by omega)).symm | exact decide_eq_decide.2 (by omega)) | (refine congrArg (fun b => T.v (Value.int _ b)) ?_; first | rfl | omega) | omega)) | (first | rfl | (refine congrArg (fun b => T.v (Value.bool b)) ?_; first | rfl | exact (decide_eq_true (by omega)).symm | exact (decide_eq_false (by omega)).symm | exact decide_eq_decide.2 (by omega)) | (refine congrArg (fun b => T.v (Value.int _ b)) ?_; first | rfl | omega) | omega)))))
end Go.Proofs.YtlcpcgdecodjfaaGreatDoor
namespace Go.Proofs.YtlcpcgdecodjfaaGreatDoor
open Go.RowKit Go.Proofs.YtlcpcgdecodjfaaGreatDoor.Am
set_option linter.unusedVariables false
set_option linter.unusedSimpArgs false

/-- By what keys are put in order. -/
def rkK (k x : Int) : Int := if k = 4 then iRank x else x
theorem lssK_rk (k a b : Int) : lssK k a b = decide (rkK k a < rkK k b) := by unfold lssK rkK bLess; split <;> rfl
theorem mntV2 (k x : Int) : mntV k (mntV k x) = mntV k x := by unfold mntV; split; exact p_canon2 x; rfl
theorem rkK_mnt (k x : Int) : rkK k (mntV k x) = rkK k x := by unfold rkK mntV; split; exact p_rank_canon x; rfl
theorem rkK_inj {k a b : Int} (ha : U64 a) (hb : U64 b) (ca : mntV k a = a) (cb : mntV k b = b) (h : rkK k a = rkK k b) : a = b := by
  unfold rkK at h; unfold mntV at ca cb
  split at h
  · rename_i e
    rw [if_pos e] at ca cb
    rw [← ca, ← cb]; exact (p_rank_inj ha hb).1 h
  · exact h
theorem mntB_mnt {k x : Int} (h : mntB k x = true) : mntB k (mntV k x) = true := by
  unfold mntB mntV at *
  split
  · rfl
  · rename_i e; rw [if_neg e] at h; exact h
theorem u64_mnt {k x : Int} (h : U64 x) : U64 (mntV k x) := by unfold mntV; split; exact u64_canon h; exact h
/-- Keys and values that are right. -/
structure TabV (k : Int) (m : Nat) (ks vs : List Int) : Prop where
  len : ks.length ≤ m
  vlen : vs.length = if valB k = true then ks.length else 0
  u1 : AllU ks
  u2 : AllU vs
  mn : ∀ i, i < ks.length → mntB k (ks.getD i 0) = true ∧ mntV k (ks.getD i 0) = ks.getD i 0
  inc : ∀ i, i + 1 < ks.length → rkK k (ks.getD i 0) < rkK k (ks.getD (i + 1) 0)
section
variable {k : Int} {m : Nat} {ks vs : List Int}
theorem TabV.lt (h : TabV k m ks vs) {i j : Nat} (hij : i < j) (hj : j < ks.length) : rkK k (ks.getD i 0) < rkK k (ks.getD j 0) := by
  induction j with
  | zero => omega
  | succ j ih =>
    have h1 := h.inc j hj
    by_cases e : i = j
    · subst e; exact h1
    · have := ih (by omega) (by omega); omega
theorem okKs_of (h : TabV k m ks vs) : ∀ n, n ≤ ks.length → okKs k ks n = true
  | 0, _ => rfl
  | n + 1, hn => by
    simp only [okKs, okKs_of h n (by omega), (h.mn n (by omega)).1, (h.mn n (by omega)).2, decide_true, Bool.true_and]
    by_cases e : n = 0
    · simp [e]
    · rw [decide_eq_false e, Bool.false_or, lssK_rk]
      have := h.inc (n - 1) (by omega)
      rw [show n - 1 + 1 = n by omega] at this
      exact decide_eq_true this
theorem TabV.right (h : TabV k m ks vs) {p : Int} (hf : fitsB k p m = true) : rightT k p m 0 ks vs [] false = true := by
  have hl := h.len
  unfold rightT keysOk
  rw [hf, okKs_of h _ (Nat.le_refl _), decide_eq_true (show (ks.length : Int) ≤ m by omega)]
  have := h.vlen
  cases hv : valB k
  · rw [hv] at this; simp at this; simp [this]
  · rw [hv] at this; simp at this; simp [this]
theorem okKs_at {n i : Nat} (h : okKs k ks n = true) (hi : i < n) : mntB k (ks.getD i 0) = true ∧ mntV k (ks.getD i 0) = ks.getD i 0 ∧ (i = 0 ∨ lssK k (ks.getD (i - 1) 0) (ks.getD i 0) = true) := by
  have := okKs_mono (i := i + 1) hi h
  simp only [okKs, Bool.and_eq_true, Bool.or_eq_true, decide_eq_true_eq] at this
  exact this.2
theorem rightT_v {p r : Int} {n : Int} {ws : List Int} {c : Bool} (h : rightT k p n r ks vs ws c = true) (u1 : AllU ks) (u2 : AllU vs) : fitsB k p n = true ∧ r = 0 ∧ ws = [] ∧ c = false ∧ TabV k n.toNat ks vs := by
  unfold rightT keysOk at h
  simp only [Bool.and_eq_true, decide_eq_true_eq, Bool.not_eq_true'] at h
  obtain ⟨h1, h2, h3, h4, h5, h6, h7⟩ := h
  refine ⟨h1, h2, List.eq_nil_of_length_eq_zero h3, h4, by omega, ?_, u1, u2, fun i hi => ⟨(okKs_at h7 hi).1, (okKs_at h7 hi).2.1⟩, fun i hi => ?_⟩
  · split at h6 <;> rename_i e
    · rw [if_pos e]; simpa using h6
    · rw [if_neg e]; simpa using h6
  · have := (okKs_at h7 hi).2.2
    rcases this with h | h
    · omega
    · rw [Nat.add_sub_cancel, lssK_rk] at h; exact of_decide_eq_true h
theorem insK_at {l : List Int} {a : Nat} {w : Int} (h : a ≤ l.length) (i : Nat) : (insK l a w).getD i 0 = if i < a then l.getD i 0 else if i = a then w else l.getD (i - 1) 0 := by
  unfold insK
  rw [List.getD_eq_getElem?_getD]
  by_cases h1 : i < a
  · rw [if_pos h1, List.getElem?_append_left (by simp; omega), List.getElem?_take_of_lt h1, ← List.getD_eq_getElem?_getD]
  · rw [if_neg h1, List.getElem?_append_right (by simp; omega), List.length_take, Nat.min_eq_left h]
    by_cases h2 : i = a
    · rw [if_pos h2, h2, Nat.sub_self]; rfl
    · rw [if_neg h2, show i - a = (i - 1 - a) + 1 by omega, List.getElem?_cons_succ, List.getElem?_drop, show a + (i - 1 - a) = i - 1 by omega, ← List.getD_eq_getElem?_getD]
theorem delK_at {l : List Int} {a : Nat} (h : a < l.length) (i : Nat) : (delK l a).getD i 0 = if i < a then l.getD i 0 else l.getD (i + 1) 0 := by
  unfold delK
  rw [List.getD_eq_getElem?_getD]
  by_cases h1 : i < a
  · rw [if_pos h1, List.getElem?_append_left (by simp; omega), List.getElem?_take_of_lt h1, ← List.getD_eq_getElem?_getD]
  · rw [if_neg h1, List.getElem?_append_right (by simp; omega), List.length_take, Nat.min_eq_left (by omega), List.getElem?_drop, show a + 1 + (i - a) = i + 1 by omega, ← List.getD_eq_getElem?_getD]
theorem allU_insK {l : List Int} {a : Nat} {w : Int} (h : AllU l) (hw : U64 w) : AllU (insK l a w) := by
  intro x hx
  unfold insK at hx
  rcases List.mem_append.1 hx with hx | hx
  · exact h x (List.mem_of_mem_take hx)
  · rcases List.mem_cons.1 hx with rfl | hx
    · exact hw
    · exact h x (List.mem_of_mem_drop hx)
theorem allU_delK {l : List Int} {a : Nat} (h : AllU l) : AllU (delK l a) := by
  intro x hx
  unfold delK at hx
  rcases List.mem_append.1 hx with hx | hx
  · exact h x (List.mem_of_mem_take hx)
  · exact h x (List.mem_of_mem_drop hx)
theorem atK_lo {x : Int} {i : Nat} (h : i < atK k ks x) : rkK k (ks.getD i 0) < rkK k x := by
  have h3 := List.not_of_lt_findIdx (xs := ks) (p := fun y => !lssK k y x) h
  have hl := atK_le k ks x
  have hg : ks[i]'(by omega) = ks.getD i 0 := by rw [List.getD_eq_getElem?_getD, List.getElem?_eq_getElem (by omega)]; rfl
  have h4 : (!lssK k (ks[i]'(by omega)) x) = false := by simpa using h3
  rw [hg, lssK_rk] at h4
  simpa using h4
theorem atK_hi (h : TabV k m ks vs) {x : Int} {i : Nat} (h1 : atK k ks x ≤ i) (h2 : i < ks.length) : rkK k x ≤ rkK k (ks.getD i 0) := by
  have hl : atK k ks x < ks.length := by omega
  have h3 := List.findIdx_getElem (xs := ks) (p := fun y => !lssK k y x) (w := hl)
  have h5 : (!lssK k (ks[atK k ks x]'hl) x) = true := h3
  have hg : ks[atK k ks x]'hl = ks.getD (atK k ks x) 0 := by rw [List.getD_eq_getElem?_getD, List.getElem?_eq_getElem hl]; rfl
  rw [hg, lssK_rk] at h5
  have h6 : ¬ rkK k (ks.getD (atK k ks x) 0) < rkK k x := by simpa using h5
  by_cases e : atK k ks x = i
  · rw [e] at h6; omega
  · have := h.lt (i := atK k ks x) (j := i) (by omega) h2; omega
theorem atK_gt (h : TabV k m ks vs) {x : Int} (hx : U64 x) (cx : mntV k x = x) (hno : hereK k ks x = false) {i : Nat} (h1 : atK k ks x ≤ i) (h2 : i < ks.length) : rkK k x < rkK k (ks.getD i 0) := by
  have h3 := atK_hi h h1 h2
  have hl : atK k ks x < ks.length := by omega
  have h4 := atK_hi h (Nat.le_refl (atK k ks x)) hl
  have h5 : rkK k x ≠ rkK k (ks.getD (atK k ks x) 0) := fun e => by
    have := rkK_inj (k := k) hx (allU_getD h.u1 _) cx (h.mn _ hl).2 e
    unfold hereK at hno
    exact of_decide_eq_false hno ⟨hl, this.symm⟩
  by_cases e : atK k ks x = i
  · rw [e] at h5 h4; omega
  · have := h.lt (i := atK k ks x) (j := i) (by omega) h2; omega
theorem hereK_t {x : Int} (h : hereK k ks x = true) : atK k ks x < ks.length ∧ ks.getD (atK k ks x) 0 = x := by unfold hereK at h; exact of_decide_eq_true h
theorem TabV.ins (h : TabV k m ks vs) {x : Int} (hx : U64 x) (bx : mntB k x = true) (cx : mntV k x = x) (hno : hereK k ks x = false) (hm : ks.length < m) {vs' : List Int} (hv : vs'.length = if valB k = true then ks.length + 1 else 0) (hu : AllU vs') : TabV k m (insK ks (atK k ks x) x) vs' := by
  have ha := atK_le k ks x
  refine ⟨by rw [insK_len ha]; omega, by rw [insK_len ha]; exact hv, allU_insK h.u1 hx, hu, fun i hi => ?_, fun i hi => ?_⟩
  · rw [insK_len ha] at hi
    rw [insK_at ha]
    split
    · exact h.mn i (by omega)
    · split
      · exact ⟨bx, cx⟩
      · exact h.mn (i - 1) (by omega)
  · rw [insK_len ha] at hi
    rw [insK_at ha, insK_at ha]
    by_cases c1 : i + 1 < atK k ks x
    · rw [if_pos (by omega), if_pos c1]; exact h.inc i (by omega)
    · by_cases c2 : i + 1 = atK k ks x
      · rw [if_pos (by omega), if_neg (by omega), if_pos c2]; exact atK_lo (by omega)
      · by_cases c3 : i = atK k ks x
        · rw [if_neg (by omega), if_pos c3, if_neg (by omega), if_neg (by omega), Nat.add_sub_cancel]; exact atK_gt h hx cx hno (by omega) (by omega)
        · rw [if_neg (by omega), if_neg c3, if_neg (by omega), if_neg (by omega), Nat.add_sub_cancel]
          have := h.inc (i - 1) (by omega)
          rwa [show i - 1 + 1 = i by omega] at this
theorem TabV.del (h : TabV k m ks vs) {a : Nat} (ha : a < ks.length) {vs' : List Int} (hv : vs'.length = if valB k = true then ks.length - 1 else 0) (hu : AllU vs') : TabV k m (delK ks a) vs' := by
  have hl := h.len
  refine ⟨by rw [delK_len ha]; omega, by rw [delK_len ha]; exact hv, allU_delK h.u1, hu, fun i hi => ?_, fun i hi => ?_⟩
  · rw [delK_len ha] at hi
    rw [delK_at ha]
    split
    · exact h.mn i (by omega)
    · exact h.mn (i + 1) (by omega)
  · rw [delK_len ha] at hi
    rw [delK_at ha, delK_at ha]
    by_cases c1 : i + 1 < a
    · rw [if_pos (by omega), if_pos c1]; exact h.inc i (by omega)
    · by_cases c2 : i < a
      · rw [if_pos c2, if_neg (by omega)]; exact h.lt (by omega) (by omega)
      · rw [if_neg c2, if_neg (by omega)]; exact h.inc (i + 1) (by omega)
theorem plcD_v (h : TabV k m ks vs) {x v code : Int} (hx : U64 x) (hv : U64 v) (bx : mntB k x = true) (cx : mntV k x = x) : TabV k m (plcD k m ks vs code x v).1 (plcD k m ks vs code x v).2.1 := by
  have hl := h.len
  have hvl := h.vlen
  have ha := atK_le k ks x
  cases hb : valB k <;> cases hh : hereK k ks x <;> rw [hb] at hvl <;> simp only [if_true, Bool.false_eq_true, if_false] at hvl
  · rw [plcFF hb hh]
    repeat' split
    all_goals first | exact h | skip
    rename_i hne
    exact h.ins hx bx cx hh (by omega) (by rw [hb]; simpa using hvl) h.u2
  · rw [plcFT hb hh]
    repeat' split
    all_goals first | exact h | exact h.del (hereK_t hh).1 (by rw [hb]; simpa using hvl) h.u2
  · rw [plcTF hb hh]
    repeat' split
    all_goals first | exact h | skip
    rename_i hne
    exact h.ins hx bx cx hh (by omega) (by rw [hb, insK_len (by omega)]; simp; omega) (allU_insK h.u2 hv)
  · have hat := (hereK_t hh).1
    rw [plcTT hb hh]
    repeat' split
    all_goals first | exact h | exact h.del hat (by rw [hb, delK_len (by omega)]; simp; omega) (allU_delK h.u2) | exact ⟨h.len, by rw [List.length_set, hb]; simpa using hvl, h.u1, allU_set h.u2 _ hv, h.mn, h.inc⟩
theorem tabD_v (h : TabV k m ks vs) {key v code : Int} (hk : U64 key) (hv : U64 v) : TabV k m (tabD k m ks vs code key v).1 (tabD k m ks vs code key v).2.1 := by
  unfold tabD
  split
  · exact h
  · split
    · exact h
    · rename_i hb
      exact plcD_v h (u64_mnt hk) hv (mntB_mnt (by simpa using hb)) (mntV2 _ _)
end
theorem tabV_nil (k : Int) (m : Nat) : TabV k m [] [] := ⟨Nat.zero_le _, by split <;> rfl, (fun x hx => by cases hx), (fun x hx => by cases hx), (fun i hi => by cases hi), fun i hi => by cases hi⟩
theorem TabV.tabH {k p : Int} {m n1 n2 : Nat} {ks vs : List Int} (h : TabV k m ks vs) (hk : k = 2 ∨ k = 3 ∨ k = 4) (hf : fitsB k p m = true) (hm : m ≤ 256) (l1 : ks.length = n1) (l2 : vs.length = n2) : TabH k p m n1 ks n2 vs :=
  ⟨hk, hf, h.right hf, l1, l2, by have := h.len; omega, h.u1, h.u2, by rw [← l2, ← l1]; exact h.vlen⟩
theorem fitsK {k p m : Int} (h : fitsB k p m = true) : 1 ≤ k ∧ k ≤ 5 ∧ 1 ≤ p ∧ p ≤ 16 ∧ 1 ≤ m ∧ m ≤ 256 := by unfold fitsB at h; exact of_decide_eq_true h
/-- Do, of what has keys, in a state that is right. -/
theorem doK_pure {k p : Int} {m n1 n2 : Nat} {ks vs : List Int} (h : TabV k m ks vs) (hk : k = 2 ∨ k = 3 ∨ k = 4) (hf : fitsB k p m = true) (l1 : ks.length = n1) (l2 : vs.length = n2) (code key v : Int) (uk : U64 key) (uv : U64 v) : Pure Tryz.prog glR 33 [.agg [.v (.int .i64 k), .v (.int .i64 p), .v (.int .i64 m)], ST 0 n1 ks n2 vs 0 [] false, .agg [.v (.int .i64 code), .v (.int .u64 key), .v (.int .u64 v)]]
    (.tup [SO 0 (tabD k m ks vs code key v).1.length (tabD k m ks vs code key v).2.1.length 0 false, .agg [.v (.int .i64 (tabD k m ks vs code key v).2.2.1), .v (.int .u64 (tabD k m ks vs code key v).2.2.2)], .v (.int .i64 0)]) (SH (tabD k m ks vs code key v).1 (tabD k m ks vs code key v).2.1 []) := by
  have := fitsK hf
  have H := h.tabH hk hf (by omega) l1 l2
  cases hv : valB k
  · exact doKF_pure _ _ _ _ _ _ _ H hv _ _ _ uk uv
  · exact doKT_pure _ _ _ _ _ _ _ H hv _ _ _ uk uv
def eDoK : Entry := ⟨33, 3, fun l => match l.map fixS with
  | [.agg [.v (.int .i64 k), .v (.int .i64 p), .v (.int .i64 n)], .agg [.v (.int .u64 r), .fl [.u64] n1 ks, .fl [.u64] n2 vs, .fl [.i64] n3 ws, .v (.bool c)], .agg [.v (.int .i64 code), .v (.int .u64 key), .v (.int .u64 v)]] =>
    some (some ((k = 2 ∨ k = 3 ∨ k = 4) ∧ fitsB k p n = true ∧ TabV k n.toNat ks vs ∧ (r = 0 ∧ ws = [] ∧ c = false) ∧ U64 key ∧ U64 v), .tup [SO 0 (tabD k n ks vs code key v).1.length (tabD k n ks vs code key v).2.1.length 0 false, .agg [.v (.int .i64 (tabD k n ks vs code key v).2.2.1), .v (.int .u64 (tabD k n ks vs code key v).2.2.2)], .v (.int .i64 0)], SH (tabD k n ks vs code key v).1 (tabD k n ks vs code key v).2.1 [])
  | _ => none⟩
theorem eDoK_ok : eDoK.ok Tryz.prog glR := ⟨Am.enters_of Tryz.func33 (by kernel_rfl) (by kernel_rfl), by
  intro args c t bs h hc
  simp only [eDoK] at h
  split at h <;> cases h
  rename_i k p n r n1 ks n2 vs n3 ws c code key v heq
  obtain ⟨hk, hf, hv, ⟨rfl, rfl, rfl⟩, uk, uv⟩ := hc _ rfl
  have hm := fitsK hf
  obtain ⟨m, rfl⟩ := Int.eq_ofNat_of_zero_le (a := n) (by omega)
  rw [Int.toNat_natCast] at hv
  refine pure_fixS ?_
  rw [heq]
  refine pure_wf fun hw => ?_
  obtain ⟨-, ⟨-, ⟨w1, -⟩, ⟨w2, -⟩, ⟨w3, -⟩, -, -⟩, -⟩ := hw
  simp only [List.length_cons, List.length_nil, Nat.zero_add, Nat.mul_one] at w1 w2 w3
  subst w3
  exact doK_pure hv hk hf w1 w2 _ _ _ uk uv⟩
end Go.Proofs.YtlcpcgdecodjfaaGreatDoor
namespace Go.Proofs.YtlcpcgdecodjfaaGreatDoor
open Go.RowKit Go.Proofs.YtlcpcgdecodjfaaGreatDoor.Am
set_option linter.unusedVariables false
set_option linter.unusedSimpArgs false

/-- An order's entries, of keys and values. -/
def entK (rf : Int → Int) (ks vs : List Int) : Nat → List Int
  | 0 => []
  | i + 1 => entK rf ks vs i ++ [rf (ks.getD i 0), vs.getD i 0]
theorem entK_len (rf : Int → Int) (ks vs : List Int) : ∀ i, (entK rf ks vs i).length = i * 2
  | 0 => rfl
  | i + 1 => by simp only [entK, List.length_append, entK_len rf ks vs i, List.length_cons, List.length_nil]; omega
theorem getD_app_l {a b : List Int} {i : Nat} (h : i < a.length) : (a ++ b).getD i 0 = a.getD i 0 := by
  rw [List.getD_eq_getElem?_getD, List.getElem?_append_left h, ← List.getD_eq_getElem?_getD]
theorem getD_app_r {a b : List Int} {i : Nat} (h : a.length ≤ i) : (a ++ b).getD i 0 = b.getD (i - a.length) 0 := by
  rw [List.getD_eq_getElem?_getD, List.getElem?_append_right h, ← List.getD_eq_getElem?_getD]
theorem entK_at (rf : Int → Int) (ks vs : List Int) {i n : Nat} (h : i < n) : (entK rf ks vs n).getD (i * 2) 0 = rf (ks.getD i 0) ∧ (entK rf ks vs n).getD (i * 2 + 1) 0 = vs.getD i 0 := by
  induction n with
  | zero => omega
  | succ n ih =>
    have hl := entK_len rf ks vs n
    simp only [entK]
    by_cases e : i = n
    · subst e
      rw [getD_app_r (by omega), getD_app_r (by omega), hl, Nat.sub_self, show i * 2 + 1 - i * 2 = 1 by omega]
      exact ⟨rfl, rfl⟩
    · rw [getD_app_l (by omega), getD_app_l (by omega)]
      exact ih (by omega)
/-- An order's words have these four for each entry, and 0 behind. -/
def wrd (bf : Int → Int → Bool) (n : Nat) (xs : List Int) (i : Nat) : List Int := if i < n then [xs.getD (i * 2) 0, xs.getD (i * 2 + 1) 0, IntKind.u64.wrap ((linksB bf (rk xs n)).getD (i * 2) 0), IntKind.u64.wrap ((linksB bf (rk xs n)).getD (i * 2 + 1) 0)] else [0, 0, 0, 0]
section
variable (bf : Int → Int → Bool) (most n : Nat) (xs : List Int)
theorem wst_at : ∀ j, j ≤ most → j ≤ n → ∀ i, i < most → ∀ c, c < 4 → (wst bf most n xs j).getD (2 + 4 * i + c) 0 = if i < j then (wrd bf n xs i).getD c 0 else 0
  | 0, _, _, i, hi, c, hc => by
    rw [if_neg (by omega)]
    simp only [wst]
    rw [List.getD_eq_getElem?_getD, List.getElem?_set_ne (by omega), List.getElem?_set_ne (by omega), List.getElem?_replicate, if_pos (by omega)]; rfl
  | j + 1, h, hn, i, hi, c, hc => by
    have hf := wst_fit bf most n xs (j := j) (by omega)
    simp only [wst]
    by_cases e : i = j
    · subst e
      rw [spl_getD_in (hf _ _ _ _) (by omega) (by simp only [List.length_cons, List.length_nil]; omega), if_pos (by omega), show 2 + 4 * i + c - (2 + 4 * i) = c by omega]
      unfold wrd; rw [if_pos (by omega)]
    · rw [spl_getD_out (hf _ _ _ _) (by simp only [List.length_cons, List.length_nil]; omega), wst_at j (by omega) (by omega) i hi c hc]
      by_cases e2 : i < j
      · rw [if_pos e2, if_pos (by omega)]
      · rw [if_neg e2, if_neg (by omega)]
theorem words_at (hn : n ≤ most) {i c : Nat} (hi : i < most) (hc : c < 4) : (wordsO bf most n xs).getD (2 + 4 * i + c) 0 = (wrd bf n xs i).getD c 0 := by
  unfold wordsO
  rw [wst_at bf most n xs n hn (Nat.le_refl _) i hi c hc]
  by_cases e : i < n
  · rw [if_pos e]
  · rw [if_neg e]; unfold wrd; rw [if_neg e]
    have : c = 0 ∨ c = 1 ∨ c = 2 ∨ c = 3 := by omega
    rcases this with rfl | rfl | rfl | rfl <;> rfl
theorem words_root : ∀ j, j ≤ most → (wst bf most n xs j).getD 1 0 = IntKind.u64.wrap (rootB bf (rk xs n))
  | 0, _ => by
    simp only [wst]
    rw [List.getD_eq_getElem?_getD, List.getElem?_set_self (by simp; omega)]; rfl
  | j + 1, h => by
    simp only [wst]
    rw [spl_getD_out (wst_fit bf most n xs (by omega) _ _ _ _) (.inl (by omega))]
    exact words_root j (by omega)
/-- The words behind the first one, so many of them. -/
def tlW (i : Nat) : List Int := ((wordsO bf most n xs).take (2 + 4 * i)).drop 1
theorem take_pair {l : List Int} (h : 2 ≤ l.length) : l.take 2 = [l.getD 0 0, l.getD 1 0] := by
  match l, h with
  | [_], h => simp at h
  | a :: b :: r, _ => rfl
theorem tlW_zero (hn : n ≤ most) : tlW bf most n xs 0 = [IntKind.u64.wrap (rootB bf (rk xs n))] := by
  unfold tlW
  rw [take_pair (by rw [wordsO_len hn]; omega)]
  have := words_root bf most n xs n hn
  unfold wordsO
  rw [this]; rfl
theorem tlW_succ (hn : n ≤ most) {i : Nat} (hi : i < most) : tlW bf most n xs (i + 1) = tlW bf most n xs i ++ wrd bf n xs i := by
  have hl := wordsO_len (bf := bf) (xs := xs) hn
  unfold tlW
  have e : (wordsO bf most n xs).take (2 + 4 * (i + 1)) = (wordsO bf most n xs).take (2 + 4 * i) ++ wrd bf n xs i := by
    rw [show 2 + 4 * (i + 1) = 2 + 4 * i + 3 + 1 by omega, take_snoc (by omega), show 2 + 4 * i + 3 = 2 + 4 * i + 2 + 1 by omega, take_snoc (by omega), show 2 + 4 * i + 2 = 2 + 4 * i + 1 + 1 by omega, take_snoc (by omega), take_snoc (by omega)]
    have a0 := words_at bf most n xs hn hi (c := 0) (by omega)
    have a1 := words_at bf most n xs hn hi (c := 1) (by omega)
    have a2 := words_at bf most n xs hn hi (c := 2) (by omega)
    have a3 := words_at bf most n xs hn hi (c := 3) (by omega)
    rw [Nat.add_zero] at a0
    rw [show 2 + 4 * i + 1 + 1 = 2 + 4 * i + 2 by omega, show 2 + 4 * i + 2 + 1 = 2 + 4 * i + 3 by omega, a0, a1, a2, a3]
    simp only [List.append_assoc, List.singleton_append]
    unfold wrd
    split <;> rfl
  rw [e, List.drop_append_of_le_length (by simp; omega)]
theorem tlW_len (hn : n ≤ most) {i : Nat} (hi : i ≤ most) : (tlW bf most n xs i).length = 1 + 4 * i := by
  unfold tlW
  rw [List.length_drop, List.length_take, wordsO_len hn]; omega
theorem words_cons (hn : n ≤ most) : (n : Int) :: tlW bf most n xs most = wordsO bf most n xs := by
  have hl := wordsO_len (bf := bf) (xs := xs) hn
  have h0 : (wordsO bf most n xs).getD 0 0 = (n : Int) := wst_head bf most n xs n hn
  unfold tlW
  rw [List.take_of_length_le (by omega)]
  cases hw : wordsO bf most n xs with
  | nil => rw [hw] at hl; simp at hl; omega
  | cons a r => rw [hw] at h0; rw [← h0]; rfl
end
def eRRk (rf : Int → Int) : Entry := ⟨45, 3, fun l => match l with
  | [.v (.int .u64 a)] => some (some (U64 a), .v (.int .u64 (rf a)), [])
  | _ => none⟩
/-- Ranks of so many keys. -/
def rkL (rf : Int → Int) (ks : List Int) (n : Nat) : List Int := (List.range n).map fun i => rf (ks.getD i 0)
theorem rkL_ent (rf : Int → Int) (ks vs : List Int) (n : Nat) : rk (entK rf ks vs n) n = rkL rf ks n := by
  unfold rk rkL
  refine List.map_congr_left fun i hi => (entK_at rf ks vs (List.mem_range.1 hi)).1
theorem rkL_succ (rf : Int → Int) (ks : List Int) (n : Nat) : rkL rf ks (n + 1) = rkL rf ks n ++ [rf (ks.getD n 0)] := by simp [rkL, List.range_succ]
theorem rkL_at {rf : Int → Int} {ks : List Int} {n i : Nat} (h : i < n) : (rkL rf ks n).getD i 0 = rf (ks.getD i 0) := by simp [rkL, List.getD, h]
theorem rkL_len (rf : Int → Int) (ks : List Int) (n : Nat) : (rkL rf ks n).length = n := by simp [rkL]
theorem wrd_ent (bf : Int → Int → Bool) (rf : Int → Int) (ks vs : List Int) {n i : Nat} (h : i < n) : wrd bf n (entK rf ks vs n) i = [(rkL rf ks n).getD i 0, vs.getD i 0, IntKind.u64.wrap ((linksB bf (rkL rf ks n)).getD (i * 2) 0), IntKind.u64.wrap ((linksB bf (rkL rf ks n)).getD (i * 2 + 1) 0)] := by
  unfold wrd
  rw [if_pos h, (entK_at rf ks vs h).1, (entK_at rf ks vs h).2, rkL_ent, rkL_at h]
theorem wrd_no (bf : Int → Int → Bool) {n i : Nat} {xs : List Int} (h : ¬ i < n) : wrd bf n xs i = [0, 0, 0, 0] := if_neg h
noncomputable def ctxTrW (P : Program) (bf : Int → Int → Bool) (rf : Int → Int) : Ctx := ctx P glR [eRRk rf, eRBuildB bf] [] (noEq P) [] (fun _ h => by cases h)
attribute [local irreducible] rootB linksB rkL tlW entK
set_option maxRecDepth 100000 in
theorem rtree_pure {bf : Int → Int → Bool} {rf : Int → Int} (hb : (eRBuildB bf).ok Tryz.prog glR) (hrk : (eRRk rf).ok Tryz.prog glR) (k p r : Int) (m n n2 n3 : Nat) (ks vs ws : List Int) (c : Bool) (hn : n ≤ m) (hm : m ≤ 256) (hn2 : n2 = n) (u1 : AllU ks) (hri : rises (rkL rf ks n)) :
    Pure Tryz.prog glR 30 [.agg [.v (.int .i64 k), .v (.int .i64 p), .v (.int .i64 m)], ST r n ks n2 vs n3 ws c] (.ow 0 1 (1 + 4 * m)) [(0, .fl [.u64] (tlW bf m n (entK rf ks vs n) m))] := by
  have good : (ctxTrW Tryz.prog bf rf).good := ctx_good (by kernel_rfl) (AllOk.mem ⟨hrk, hb, trivial⟩) glR_two
  refine pure_wf fun hw => ?_
  obtain ⟨-, ⟨-, ⟨w1, w2⟩, ⟨w3, w4⟩, -⟩, -⟩ := hw
  simp only [List.length_cons, List.length_nil, Nat.zero_add, Nat.mul_one] at w1 w3
  have er := rkL_ent rf ks vs n
  have hll := linksB_len bf (rkL rf ks n)
  rw [rkL_len] at hll
  refine pure_of (C := ctxTrW Tryz.prog bf rf) good Tryz.func30 (c := bodyOf Tryz.f30) (by rfl) (Nat.le_of_ble_eq_true (by rfl)) 4 0 [0, 1, 2, 3, 4, 5, 6, 7, 8, 10, 11, 16, 40, 46] ?_
  conv => whnf
  refine TW.nilOwn 5 5000 1 (.fl [.u64] []) rfl rfl (.inr ⟨_, _, rfl⟩) (by decide) ?_
  refine TW.loopD good 0 (base := 0) (lv := [0, 1, 2, 3, 4, 5, 6, 7, 8, 10, 11, 16, 40, 46]) [5, 6] [5000] [(5000, 5000)] (fun x : Nat × List Int => [.ow 5000 1 x.1, .v (.int .i64 x.1)]) (fun x => [.fl [.u64] x.2]) (fun x => x.1 ≤ n ∧ x.2 = rkL rf ks x.1) (fun x => n - x.1) ?_
  conv => whnf
  refine ⟨⟨(0, []), ⟨rfl, rfl, rfl⟩, Nat.zero_le _, by unfold rkL; rfl⟩, fun ⟨j, l⟩ ⟨hj, hl⟩ => ?_⟩
  replace hj : j ≤ n := hj
  replace hl : l = rkL rf ks j := hl
  conv => whnf
  have e0 : ∀ (l : List Int) (j : Nat), l.getD (0 + (j : Int).toNat * (0 + 1)) 0 = l.getD j 0 := fun l j => by simp
  refine ifB_dec (fun h => ?_) (fun h => ?_)
  · conv => whnf
    refine And.intro (by omega) ?_
    conv => whnf
    refine And.intro (allU_getD u1 _) ?_
    conv => whnf
    rw [e0]
    repeat (refine And.intro (by omega) ?_; conv => whnf)
    rw [wsucc (n := n) (by omega) w2]
    exact ⟨(j + 1, l ++ [rf (ks.getD j 0)]), [(108, 5000)], ⟨rfl, rfl, rfl⟩, ⟨(by omega : j + 1 ≤ n), (show l ++ [rf (ks.getD j 0)] = rkL rf ks (j + 1) by rw [hl, rkL_succ])⟩, by dsimp only; omega⟩
  · obtain rfl : j = n := by omega
    subst hl
    conv => whnf
    refine And.intro ⟨by omega, hri⟩ ?_
    conv => whnf
    have e2 : ∀ j : Nat, (linksB bf (rkL rf ks j)).getD (0 + addN 0 (j : Int).toNat * (1 + 1)) 0 = 0 → True := fun _ _ => trivial
    refine TW.loopD good 0 (base := 0) (lv := [0, 1, 2, 3, 4, 5, 6, 7, 8, 10, 11, 16, 40, 46]) [10, 11] [144] [(144, 144)] (fun x : Nat × List Int => [.ow 144 1 (1 + 4 * x.1), .v (.int .i64 x.1)]) (fun x => [.fl [.u64] x.2]) (fun x => x.1 ≤ m ∧ x.2 = tlW bf m j (entK rf ks vs j) x.1) (fun x => m - x.1) ?_
    conv => whnf
    refine ⟨⟨(0, [IntKind.u64.wrap (rootB bf (rkL rf ks j))]), ⟨rfl, rfl, rfl⟩, Nat.zero_le _, by rw [tlW_zero bf m j _ hn, er]⟩, fun ⟨i, l⟩ ⟨hi, hl⟩ => ?_⟩
    replace hi : i ≤ m := hi
    replace hl : l = tlW bf m j (entK rf ks vs j) i := hl
    conv => whnf
    refine ifB_dec (fun h2 => ?_) (fun h2 => ?_)
    · have hlt := tlW_succ bf m j (entK rf ks vs j) hn (i := i) (by omega)
      conv => whnf
      refine ifB_dec (fun h3 => ?_) (fun h3 => ?_)
      · rw [wrd_ent bf rf ks vs (by omega)] at hlt
        conv => whnf
        repeat (refine And.intro (by omega) ?_; conv => whnf)
        have ew : IntKind.i64.wrap ((((i, l) : Nat × List Int).1 : Int) + 1) = ((i + 1 : Nat) : Int) := wrap64 (by dsimp only; omega) (by dsimp only; omega)
        rw [ew]
        refine ⟨(i + 1, l ++ [(rkL rf ks j).getD (0 + addN 0 (i : Int).toNat * (0 + 1)) 0, vs.getD (0 + (i : Int).toNat * (0 + 1)) 0, IntKind.u64.wrap ((linksB bf (rkL rf ks j)).getD (0 + addN 0 (i : Int).toNat * (1 + 1)) 0), IntKind.u64.wrap ((linksB bf (rkL rf ks j)).getD (0 + 1 + addN 0 (i : Int).toNat * (1 + 1)) 0)]), [(280, 144)], ⟨rfl, rfl, rfl⟩, ⟨(by omega : i + 1 ≤ m), ?_⟩, by dsimp only; omega⟩
        show l ++ [(rkL rf ks j).getD (0 + addN 0 (i : Int).toNat * (0 + 1)) 0, vs.getD (0 + (i : Int).toNat * (0 + 1)) 0, IntKind.u64.wrap ((linksB bf (rkL rf ks j)).getD (0 + addN 0 (i : Int).toNat * (1 + 1)) 0), IntKind.u64.wrap ((linksB bf (rkL rf ks j)).getD (0 + 1 + addN 0 (i : Int).toNat * (1 + 1)) 0)] = tlW bf m j (entK rf ks vs j) (i + 1)
        rw [hlt, hl, addN_eq, Int.toNat_natCast, show 0 + (0 + i) * (0 + 1) = i by omega, show 0 + i * (0 + 1) = i by omega, show 0 + (0 + i) * (1 + 1) = i * 2 by omega, show 0 + 1 + (0 + i) * (1 + 1) = i * 2 + 1 by omega]
      · rw [wrd_no bf (by omega)] at hlt
        conv => whnf
        repeat (refine And.intro (by omega) ?_; conv => whnf)
        have ew : IntKind.i64.wrap ((((i, l) : Nat × List Int).1 : Int) + 1) = ((i + 1 : Nat) : Int) := wrap64 (by dsimp only; omega) (by dsimp only; omega)
        rw [ew]
        exact ⟨(i + 1, l ++ [0, 0, 0, 0]), [(292, 144)], ⟨rfl, rfl, rfl⟩, ⟨(by omega : i + 1 ≤ m), (show l ++ [0, 0, 0, 0] = tlW bf m j (entK rf ks vs j) (i + 1) by rw [hlt, hl])⟩, by dsimp only; omega⟩
    · obtain rfl : i = m := by omega
      subst hl
      conv => whnf
      repeat' (first | exact trivial | exact rfl | (refine And.intro ?_ ?_) | ((conv => whnf); done) | ((conv => whnf); (first | rfl | (refine congrArg (fun b => T.v (Value.bool b)) ?_; first | rfl | exact (decide_eq_true (by omega)).symm | exact (decide_eq_false (by omega)).symm | exact decide_eq_decide.2 (by omega)) | (refine congrArg (fun b => T.v (Value.int _ b)) ?_; first | rfl | omega) | omega)) | (first | rfl | (refine congrArg (fun b => T.v (Value.bool b)) ?_; first | rfl | exact (decide_eq_true (by omega)).symm | exact (decide_eq_false (by omega)).symm | exact decide_eq_decide.2 (by omega)) | (refine congrArg (fun b => T.v (Value.int _ b)) ?_; first | rfl | omega) | omega))
def eRTree (bf : Int → Int → Bool) (rf : Int → Int) : Entry := ⟨30, 4, fun l => match l.map fixS with
  | [.agg [.v (.int .i64 k), .v (.int .i64 p), .v (.int .i64 m)], .agg [.v (.int .u64 r), .fl [.u64] n ks, .fl [.u64] n2 vs, .fl [.i64] n3 ws, .v (.bool c)]] =>
    some (some ((0 ≤ m ∧ n ≤ m.toNat ∧ m ≤ 256 ∧ n2 = n) ∧ AllU ks ∧ rises (rkL rf ks n)), .ow 0 1 (1 + 4 * m.toNat), [(0, .fl [.u64] (tlW bf m.toNat n (entK rf ks vs n) m.toNat))])
  | _ => none⟩
theorem eRTree_ok {bf : Int → Int → Bool} {rf : Int → Int} (hb : (eRBuildB bf).ok Tryz.prog glR) (hrk : (eRRk rf).ok Tryz.prog glR) : (eRTree bf rf).ok Tryz.prog glR := ⟨Am.enters_of Tryz.func30 (by kernel_rfl) (by kernel_rfl), by
  intro args c t bs h hc
  simp only [eRTree] at h
  split at h <;> cases h
  rename_i k p m r n ks n2 vs n3 ws c heq
  obtain ⟨⟨h0, h1, h2, h3⟩, hu, hri⟩ := hc _ rfl
  obtain ⟨m0, rfl⟩ := Int.eq_ofNat_of_zero_le h0
  rw [Int.toNat_natCast] at h1 ⊢
  refine pure_fixS ?_
  rw [heq]
  exact rtree_pure hb hrk k p r m0 n n2 n3 ks vs ws c h1 (by omega) h3 hu hri⟩
/-- Enc, of an order whose state is right. -/
noncomputable def ctxTrE (P : Program) (bf : Int → Int → Bool) (rf : Int → Int) : Ctx := ctx P glR [eFitsT, eRightX true, eRTree bf rf] [] (noEq P) [] (fun _ h => by cases h)
attribute [local irreducible] fitsB rightT wordsO
set_option maxRecDepth 100000 in
theorem enc4_pure {bf : Int → Int → Bool} {rf : Int → Int} (ht : (eRTree bf rf).ok Tryz.prog glR) (p : Int) (m n n2 : Nat) (ks vs : List Int) (hv : TabV 4 m ks vs) (hf : fitsB 4 p m = true) (hri : rises (rkL rf ks n)) :
    Pure Tryz.prog glR 9 [.agg [.v (.int .i64 4), .v (.int .i64 p), .v (.int .i64 m)], ST 0 n ks n2 vs 0 [] false] (.tup [.ow 0 1 (2 + 4 * m), .v (.int .i64 0)]) [(0, .fl [.u64] (wordsO bf m n (entK rf ks vs n)))] := by
  have good : (ctxTrE Tryz.prog bf rf).good := ctx_good (by kernel_rfl) (AllOk.mem ⟨eFitsT_ok, eRightX_ok true, ht, trivial⟩) glR_two
  have hm := fitsK hf
  refine pure_wf fun hw => ?_
  obtain ⟨-, ⟨-, ⟨w1, w2⟩, ⟨w3, w4⟩, -⟩, -⟩ := hw
  simp only [List.length_cons, List.length_nil, Nat.zero_add, Nat.mul_one] at w1 w3
  have hl := hv.len
  have hvl := hv.vlen
  rw [if_pos (show valB 4 = true by decide)] at hvl
  have hr := hv.right hf
  refine pure_of (C := ctxTrE Tryz.prog bf rf) good Tryz.func9 (c := bodyOf Tryz.f9) (by rfl) (Nat.le_of_ble_eq_true (by rfl)) 4 1 [0, 1, 2, 3, 4, 5, 6, 7, 10, 14, 21, 22, 27, 35, 43] ?_
  conv => whnf
  refine And.intro hf ?_
  conv => whnf
  refine And.intro ⟨⟨.inr (.inr rfl), hv.u1, by omega, by omega⟩, hr⟩ ?_
  conv => whnf
  refine And.intro ⟨⟨by omega, by omega, by omega, by omega⟩, hv.u1, hri⟩ ?_
  conv => whnf
  repeat (refine And.intro (by omega) ?_; conv => whnf)
  have e1 : IntKind.u64.wrap (n : Int) = n := wrapU (by omega) (by omega)
  have e2 : [IntKind.u64.wrap (n : Int)] ++ tlW bf (m : Int).toNat n (entK rf ks vs n) (m : Int).toNat = wordsO bf m n (entK rf ks vs n) := by
    rw [e1, Int.toNat_natCast]; exact words_cons bf m n _ (by omega)
  rw [show 1 + (1 + 4 * (m : Int).toNat) = 2 + 4 * m by omega, e2]
  repeat' (first | exact trivial | exact rfl | (refine And.intro ?_ ?_) | ((conv => whnf); done) | ((conv => whnf); (first | rfl | (refine congrArg (fun b => T.v (Value.bool b)) ?_; first | rfl | exact (decide_eq_true (by omega)).symm | exact (decide_eq_false (by omega)).symm | exact decide_eq_decide.2 (by omega)) | (refine congrArg (fun b => T.v (Value.int _ b)) ?_; first | rfl | omega) | omega)) | (first | rfl | (refine congrArg (fun b => T.v (Value.bool b)) ?_; first | rfl | exact (decide_eq_true (by omega)).symm | exact (decide_eq_false (by omega)).symm | exact decide_eq_decide.2 (by omega)) | (refine congrArg (fun b => T.v (Value.int _ b)) ?_; first | rfl | omega) | omega))
def eEnc4 (bf : Int → Int → Bool) (rf : Int → Int) : Entry := ⟨9, 4, fun l => match l.map fixS with
  | [.agg [.v (.int .i64 k), .v (.int .i64 p), .v (.int .i64 m)], .agg [.v (.int .u64 r), .fl [.u64] n ks, .fl [.u64] n2 vs, .fl [.i64] n3 ws, .v (.bool c)]] =>
    some (some ((k = 4 ∧ r = 0 ∧ ws = [] ∧ c = false) ∧ TabV 4 m.toNat ks vs ∧ fitsB 4 p m = true ∧ rises (rkL rf ks n)), .tup [.ow 0 1 (2 + 4 * m.toNat), .v (.int .i64 0)], [(0, .fl [.u64] (wordsO bf m.toNat n (entK rf ks vs n)))])
  | _ => none⟩
theorem eEnc4_ok {bf : Int → Int → Bool} {rf : Int → Int} (ht : (eRTree bf rf).ok Tryz.prog glR) : (eEnc4 bf rf).ok Tryz.prog glR := ⟨Am.enters_of Tryz.func9 (by kernel_rfl) (by kernel_rfl), by
  intro args c t bs h hc
  simp only [eEnc4] at h
  split at h <;> cases h
  rename_i k p m r n ks n2 vs n3 ws c heq
  obtain ⟨⟨rfl, rfl, rfl, rfl⟩, hv, hf, hri⟩ := hc _ rfl
  have hm := fitsK hf
  obtain ⟨m0, rfl⟩ := Int.eq_ofNat_of_zero_le (a := m) (by omega)
  rw [Int.toNat_natCast] at hv ⊢
  refine pure_fixS ?_
  rw [heq]
  refine pure_wf fun hw => ?_
  obtain ⟨-, ⟨-, ⟨w1, -⟩, ⟨w2, -⟩, ⟨w3, -⟩, -, -⟩, -⟩ := hw
  simp only [List.length_cons, List.length_nil, Nat.zero_add, Nat.mul_one] at w1 w2 w3
  subst w3
  exact enc4_pure ht p m0 n n2 ks vs hv hf hri⟩
/-- An order's entries are right, if its state is. -/
theorem rises_rkL {m n : Nat} {ks vs : List Int} (h : TabV 4 m ks vs) (hn : ks.length = n) : rises (rkL iRank ks n) := by
  intro i h0 h1
  rw [rkL_len] at h1
  rw [rkL_at (by omega), rkL_at h1]
  have := h.inc (i - 1) (by omega)
  rwa [show i - 1 + 1 = i by omega] at this
theorem allU_entK {rf : Int → Int} {ks vs : List Int} (ru : ∀ a, U64 a → U64 (rf a)) (u1 : AllU ks) (u2 : AllU vs) : ∀ n, AllU (entK rf ks vs n)
  | 0 => by unfold entK; exact fun x hx => by cases hx
  | n + 1 => by
    intro x hx
    unfold entK at hx
    rcases List.mem_append.1 hx with hx | hx
    · exact allU_entK ru u1 u2 n x hx
    · simp only [List.mem_cons, List.not_mem_nil, or_false] at hx
      rcases hx with rfl | rfl
      · exact ru _ (allU_getD u1 _)
      · exact allU_getD u2 _
theorem TabV.ord {m n : Nat} {ks vs : List Int} (h : TabV 4 m ks vs) (hn : ks.length = n) : OrdV bWordOk m n (entK iRank ks vs n) := by
  have := h.len
  refine ⟨entK_len _ _ _ _, by omega, allU_entK (fun a ha => u64_rank ha) h.u1 h.u2 n, by rw [rkL_ent]; exact rises_rkL h hn, fun i hi => ?_⟩
  rw [(entK_at iRank ks vs hi).1]
  exact p_wordOk (allU_getD h.u1 _)
end Go.Proofs.YtlcpcgdecodjfaaGreatDoor
namespace Go.Proofs.YtlcpcgdecodjfaaGreatDoor
open Go.RowKit Go.Proofs.YtlcpcgdecodjfaaGreatDoor.Am
set_option linter.unusedVariables false
set_option linter.unusedSimpArgs false

/-- What the first calls tell. -/
structure Awk13 (bf : Int → Int → Bool) (wf : Int → Int) (wb : Int → Bool) (rf : Int → Int) : Prop where
  l1 : ldR bf rf 4 1 1 [9223372036854775808, 1, 0, 2] 2 = ([1, 1, 9223372036854775808, 2, 0, 0], 0)
  l2 : ldR bf rf 4 1 1 [9223372036854775808, 1, 1, 2] 2 = ([], 11)
  a1 : atRR bf wf wb 4 1 1 [1, 1, 9223372036854775808, 2, 0, 0] 1 = (0, 2, 0)
  a2 : atRR bf wf wb 4 1 1 [1, 1, 9223372036854775808, 2, 0, 0] 2 = (0, 0, 1)
  w1 : wayR bf wb rf 4 1 1 [1, 1, 9223372036854775808, 2, 0, 0] 7 = ([1], 0)
  d1 : appR bf wf wb rf 4 1 1 [1, 1, 9223372036854775808, 2, 0, 0] 7 9223372036854775808 0 = ([0, 0, 0, 0, 0, 0], 0, 2, 0)
  a3 : atRR bf wf wb 4 1 1 [1, 0, 9223372036854775808, 2, 0, 0] 1 = (0, 0, 2)
noncomputable def ctxOrO (P : Program) (heq : ∀ t, hasN [59] t = true → P.stoodInHeld t = false) (bf : Int → Int → Bool) (wf : Int → Int) (wb : Int → Bool) (rf : Int → Int) : Ctx := ctx P glM [eLoadO bf rf, eApplyO bf wf wb rf, eAtO bf wf wb, eWayO bf wb rf, eWords, eInts, eZero13] [59] heq [] (fun _ h => by cases h)
theorem respEq : ∀ t, hasN [59] t = true → Tryz.prog.stoodInHeld t = false := by
  intro t h
  have : t = 59 := by
    simp only [hasN] at h
    split at h
    · rename_i e; exact (Nat.eq_of_beq_eq_true e).symm
    · cases h
  subst this; exact Tryz.stoodInHeld59
theorem allU_dec {xs : List Int} (h : xs.all (fun a => decide (0 ≤ a ∧ a < 18446744073709551616)) = true) : AllU xs := fun x hx => u64_of (List.all_eq_true.1 h x hx)
theorem ctxOrO_good {bf : Int → Int → Bool} {wf : Int → Int} {wb : Int → Bool} {rf : Int → Int} (H : OrdH bf wf wb rf) {wt : Int → Int} (hwt : ∀ a b, bf a b = decide (wt b < wt a)) : (ctxOrO Tryz.prog respEq bf wf wb rf).good := ctx_good (by kernel_rfl) (AllOk.mem ⟨eLoadO_ok H, eApplyO_ok H, eAtO_ok H hwt, eWayO_ok H hwt, entry_lift eWords_ok, entry_lift eInts_ok, entry_lift eZero13_ok, trivial⟩) glM_two
attribute [local irreducible] ldR appR atRR wayR
set_option maxRecDepth 100000 in
theorem awake13_pure {bf : Int → Int → Bool} {wf : Int → Int} {wb : Int → Bool} {rf : Int → Int} (H : OrdH bf wf wb rf) {wt : Int → Int} (hwt : ∀ a b, bf a b = decide (wt b < wt a)) (K : Awk13 bf wf wb rf) : Pure Tryz.prog glM 5 [] (.v (.bool true)) := by
  refine pure_of (C := ctxOrO Tryz.prog respEq bf wf wb rf) (ctxOrO_good H hwt) Tryz.func5 (c := bodyOf Tryz.f5) (by rfl) (Nat.le_of_ble_eq_true (by rfl)) 4 0 [0, 1, 2, 3, 5, 6, 7, 9, 10, 11, 12, 13, 14, 16] ?_
  conv => whnf
  refine And.intro (allU_dec (by decide +kernel)) ?_
  conv => whnf
  refine And.intro (allU_dec (by decide +kernel)) ?_
  conv => whnf
  have l1a : (ldR bf rf 4 1 1 [9223372036854775808, 1, 0, 2] 2).1 = [1, 1, 9223372036854775808, 2, 0, 0] := by rw [K.l1]
  have l1b : (ldR bf rf 4 1 1 [9223372036854775808, 1, 0, 2] 2).2 = 0 := by rw [K.l1]
  have l2b : (ldR bf rf 4 1 1 [9223372036854775808, 1, 1, 2] 2).2 = 11 := by rw [K.l2]
  have w1a : (wayR bf wb rf 4 1 1 [1, 1, 9223372036854775808, 2, 0, 0] 7).1 = [1] := by rw [K.w1]
  have w1b : (wayR bf wb rf 4 1 1 [1, 1, 9223372036854775808, 2, 0, 0] 7).2 = 0 := by rw [K.w1]
  have d1a : (appR bf wf wb rf 4 1 1 [1, 1, 9223372036854775808, 2, 0, 0] 7 9223372036854775808 0).1 = [0, 0, 0, 0, 0, 0] := by rw [K.d1]
  have d1b : (appR bf wf wb rf 4 1 1 [1, 1, 9223372036854775808, 2, 0, 0] 7 9223372036854775808 0).2.1 = 0 := by rw [K.d1]
  have d1c : (appR bf wf wb rf 4 1 1 [1, 1, 9223372036854775808, 2, 0, 0] 7 9223372036854775808 0).2.2.1 = 2 := by rw [K.d1]
  have d1d : (appR bf wf wb rf 4 1 1 [1, 1, 9223372036854775808, 2, 0, 0] 7 9223372036854775808 0).2.2.2 = 0 := by rw [K.d1]
  rw [l1a, l1b, l2b]
  refine And.intro (allU_dec (by decide +kernel)) ?_
  conv => whnf
  refine And.intro (allU_dec (by decide +kernel)) ?_
  conv => whnf
  rw [K.a1, K.a2]
  refine And.intro ⟨allU_dec (by decide +kernel), by omega, by omega⟩ ?_
  conv => whnf
  rw [w1a, w1b]
  refine And.intro ⟨allU_dec (by decide +kernel), ⟨by omega, by omega⟩, by omega, by omega⟩ ?_
  conv => whnf
  rw [d1a, d1b, d1c, d1d]
  refine And.intro (allU_dec (by decide +kernel)) ?_
  conv => whnf
  rw [K.a3]
  refine And.intro (by omega) ?_
  conv => whnf
  repeat' (first | exact trivial | exact rfl | (refine And.intro ?_ ?_) | ((conv => whnf); done) | ((conv => whnf); (first | rfl | (refine congrArg (fun b => T.v (Value.bool b)) ?_; first | rfl | exact (decide_eq_true (by omega)).symm | exact (decide_eq_false (by omega)).symm | exact decide_eq_decide.2 (by omega)) | (refine congrArg (fun b => T.v (Value.int _ b)) ?_; first | rfl | omega) | omega)) | (first | rfl | (refine congrArg (fun b => T.v (Value.bool b)) ?_; first | rfl | exact (decide_eq_true (by omega)).symm | exact (decide_eq_false (by omega)).symm | exact decide_eq_decide.2 (by omega)) | (refine congrArg (fun b => T.v (Value.int _ b)) ?_; first | rfl | omega) | omega))
end Go.Proofs.YtlcpcgdecodjfaaGreatDoor
namespace Go.Proofs.YtlcpcgdecodjfaaGreatDoor
open Go.RowKit Go.Proofs.YtlcpcgdecodjfaaGreatDoor.Am
set_option linter.unusedVariables false
set_option linter.unusedSimpArgs false

/-- Pairs. -/
def fl2 (f g : Nat → Int) : Nat → List Int
  | 0 => []
  | i + 1 => fl2 f g i ++ [f i, g i]
theorem fl2_len (f g : Nat → Int) (n : Nat) : (fl2 f g n).length = n * 2 := by
  induction n with
  | zero => rfl
  | succ n ih => simp only [fl2, List.length_append, List.length_cons, List.length_nil, ih]; omega
theorem fl2_at (f g : Nat → Int) {i n : Nat} (h : i < n) : (fl2 f g n).getD (i * 2) 0 = f i ∧ (fl2 f g n).getD (i * 2 + 1) 0 = g i := by
  induction n with
  | zero => omega
  | succ n ih =>
    have hl := fl2_len f g n
    simp only [fl2]
    by_cases e : i < n
    · obtain ⟨h1, h2⟩ := ih e
      refine ⟨?_, ?_⟩
      · rw [← h1, List.getD_eq_getElem?_getD, List.getElem?_append_left (by omega), ← List.getD_eq_getElem?_getD]
      · rw [← h2, List.getD_eq_getElem?_getD, List.getElem?_append_left (by omega), ← List.getD_eq_getElem?_getD]
    · obtain rfl : i = n := by omega
      rw [List.getD_eq_getElem?_getD, List.getD_eq_getElem?_getD, List.getElem?_append_right (by omega), List.getElem?_append_right (by omega), hl, Nat.sub_self, show i * 2 + 1 - i * 2 = 1 by omega]
      exact ⟨rfl, rfl⟩
theorem fl2_u {f g : Nat → Int} (hf : ∀ i, U64 (f i)) (hg : ∀ i, U64 (g i)) : ∀ n, AllU (fl2 f g n)
  | 0 => fun x hx => by cases hx
  | n + 1 => by
    intro x hx
    simp only [fl2] at hx
    rcases List.mem_append.1 hx with hx | hx
    · exact fl2_u hf hg n x hx
    · simp only [List.mem_cons, List.not_mem_nil, or_false] at hx
      rcases hx with rfl | rfl
      · exact hf n
      · exact hg n
/-- Pairs put in turn, from the k-th one on. -/
def turnL (f g : Nat → Int) (k N : Nat) : List Int := fl2 (fun i => f ((i + k) % N)) (fun i => g ((i + k) % N)) N
theorem one_law {wb : Int → Bool} {rf : Int → Int} (ru : ∀ a, U64 a → U64 (rf a)) (wr : ∀ a, U64 a → wb (rf a) = true) {f g : Nat → Int} (hf : ∀ i, U64 (f i)) (hg : ∀ i, U64 (g i)) (hfg : ∀ i j, rf (f i) = rf (f j) → g i = g j) (k : Nat) {N : Nat} (hN : N ≤ 12) :
    (∀ i, i ≤ N → (ldS rf 13 (turnL f g k N) i).2.2.1 = 0 ∧ (ldS rf 13 (turnL f g k N) i).1 ≤ i) ∧
    (∀ y, (∀ i, rf (f i) ≠ rf y) → ∀ i, i ≤ N → isO (ldS rf 13 (turnL f g k N) i).2.1 (ldS rf 13 (turnL f g k N) i).1 (rf y) = false) ∧
    (ldS rf 13 (fl2 f g N) N).2.2.1 = 0 ∧ (ldS rf 13 (fl2 f g N) N).1 = (ldS rf 13 (turnL f g k N) N).1 ∧ (ldS rf 13 (fl2 f g N) N).2.1 = (ldS rf 13 (turnL f g k N) N).2.1 := by
  have hl : AllU (fl2 f g N) := fl2_u hf hg N
  have hl2 : AllU (turnL f g k N) := fl2_u (fun i => hf _) (fun i => hg _) N
  have ht : ∀ i, i < N → (turnL f g k N).getD (i * 2) 0 = f ((i + k) % N) ∧ (turnL f g k N).getD (i * 2 + 1) 0 = g ((i + k) % N) := fun i hi => fl2_at (fun i => f ((i + k) % N)) (fun i => g ((i + k) % N)) hi
  have h1 := ldS_has (wb := wb) ru wr (m := 13) (q := N) hl (by omega) (fun i j hi hj h => by
    rw [(fl2_at f g hi).1, (fl2_at f g hj).1] at h
    rw [(fl2_at f g hi).2, (fl2_at f g hj).2]; exact hfg i j h)
  have h2 := ldS_has (wb := wb) ru wr (m := 13) (q := N) hl2 (by omega) (fun i j hi hj h => by
    rw [(ht i hi).1, (ht j hj).1] at h
    rw [(ht i hi).2, (ht j hj).2]; exact hfg _ _ h)
  refine ⟨fun i hi => ⟨(h2 i hi).1, (h2 i hi).2.1⟩, fun y hy i hi => ?_, (h1 N (Nat.le_refl _)).1, ordV_ext (wb := wb) (ldS_v ru wr hl N) (ldS_v ru wr hl2 N) fun r v => ?_⟩
  · cases his : isO (ldS rf 13 (turnL f g k N) i).2.1 (ldS rf 13 (turnL f g k N) i).1 (rf y)
    · rfl
    · obtain ⟨a1, a2⟩ := isO_true his
      obtain ⟨j, hj, e1, -⟩ := ((h2 i hi).2.2 _ _).1 ⟨_, a1, a2, rfl⟩
      rw [(ht j (by omega)).1] at e1
      exact absurd e1.symm (hy _)
  · rw [(h1 N (Nat.le_refl _)).2.2, (h2 N (Nat.le_refl _)).2.2]
    constructor
    · rintro ⟨j, hj, e1, e2⟩
      rw [(fl2_at f g hj).1] at e1; rw [(fl2_at f g hj).2] at e2
      refine ⟨(j + (N - k % N)) % N, Nat.mod_lt _ (by omega), ?_, ?_⟩
      · rw [(ht _ (Nat.mod_lt _ (by omega))).1, e1]
        congr 2
        have hk := Nat.mod_lt k (show 0 < N by omega)
        rw [Nat.mod_add_mod, ← Nat.add_mod_mod, show j + (N - k % N) + k % N = j + N by omega, Nat.add_mod_right, Nat.mod_eq_of_lt hj]
      · rw [(ht _ (Nat.mod_lt _ (by omega))).2, e2]
        congr 1
        have hk := Nat.mod_lt k (show 0 < N by omega)
        rw [Nat.mod_add_mod, ← Nat.add_mod_mod, show j + (N - k % N) + k % N = j + N by omega, Nat.add_mod_right, Nat.mod_eq_of_lt hj]
    · rintro ⟨j, hj, e1, e2⟩
      rw [(ht j hj).1] at e1; rw [(ht j hj).2] at e2
      exact ⟨(j + k) % N, Nat.mod_lt _ (by omega), by rw [(fl2_at f g (Nat.mod_lt _ (by omega))).1]; exact e1, by rw [(fl2_at f g (Nat.mod_lt _ (by omega))).2]; exact e2⟩
end Go.Proofs.YtlcpcgdecodjfaaGreatDoor
namespace Go.Proofs.YtlcpcgdecodjfaaGreatDoor
open Go.RowKit Go.Proofs.YtlcpcgdecodjfaaGreatDoor.Am
set_option linter.unusedVariables false
set_option linter.unusedSimpArgs false

def eAwk13 : Entry := ⟨5, 8, fun l => match l with
  | [] => some (none, .v (.bool true), [])
  | _ => none⟩
theorem eAwk13_ok {bf : Int → Int → Bool} {wf : Int → Int} {wb : Int → Bool} {rf : Int → Int} (H : OrdH bf wf wb rf) {wt : Int → Int} (hwt : ∀ a b, bf a b = decide (wt b < wt a)) (K : Awk13 bf wf wb rf) : eAwk13.ok Tryz.prog glM := ⟨Am.enters_of Tryz.func5 (by kernel_rfl) (by kernel_rfl), by
  intro args c t bs h hc
  simp only [eAwk13] at h
  split at h <;> cases h
  exact awake13_pure H hwt K⟩
set_option maxRecDepth 100000 in
theorem pick13b_pure (c n : Int) (hc : I64 c) (hn : 0 < n) (hn2 : n ≤ 100000) : Pure Tryz.prog glR 8 [.v (.int .i64 c), .v (.int .i64 n)] (.v (.int .i64 (ipick c n))) := by
  have hv := ipick_val c n hc
  refine pure_of (C := ctx0 Tryz.prog) ctx0_good Tryz.func8 (c := bodyOf Tryz.f8) (by rfl) (Nat.le_of_ble_eq_true (by rfl)) 4 0 [0, 1, 2, 4, 6] ?_
  conv => whnf
  repeat' (first | (refine ifB_t (by assumption) ?_; conv => whnf) | (refine ifB_f (by assumption) ?_; conv => whnf) | (refine ifB_dec (fun h => ?_) (fun h => ?_) <;> (first | (exfalso; omega) | (conv => whnf))) | (refine ifB_eq (fun h => ?_) (fun h => ?_) <;> (first | (exfalso; omega) | (conv => whnf))) | (refine ifB_ne (fun h => ?_) (fun h => ?_) <;> (first | (exfalso; omega) | (conv => whnf))) | (refine ifB_not ?_; conv => whnf) | (refine ifB_and ?_; conv => whnf) | (refine ifB_or ?_; conv => whnf) | (refine And.intro ?_ ?_; (first | omega | assumption | (exact allU_getD (by assumption) _) | (simp only [cutL]; omega) | (refine And.intro ?_ ?_ <;> first | assumption | exact allU_getD (by assumption) _) | (simp only [cutL, IntKind.wrap_u64, IntKind.wrap_i64] at *; omega) | decide); conv => whnf))
  · rw [if_pos h] at hv; exact congrArg (fun b => T.v (Value.int .i64 b)) hv
  · rw [if_neg h] at hv; exact congrArg (fun b => T.v (Value.int .i64 b)) hv
def ePick13b : Entry := ⟨8, 3, fun l => match l with | [.v (.int .i64 c), .v (.int .i64 n)] => some (some (I64 c ∧ 0 < n ∧ n ≤ 100000), .v (.int .i64 (ipick c n)), []) | _ => none⟩
theorem ePick13b_ok : ePick13b.ok Tryz.prog glR := ⟨Am.enters_of Tryz.func8 (by kernel_rfl) (by kernel_rfl), by
  intro args c t bs h hc
  simp only [ePick13b] at h
  split at h <;> cases h
  replace hc := hc _ rfl
  exact pick13b_pure _ _ hc.1 hc.2.1 hc.2.2⟩
noncomputable def ctxOrQ (P : Program) (heq : ∀ t, hasN [59] t = true → P.stoodInHeld t = false) (bf : Int → Int → Bool) (wf : Int → Int) (wb : Int → Bool) (rf : Int → Int) : Ctx := ctx P glM [eAwk13, eLoadO bf rf, eApplyO bf wf wb rf, eKey13, eRCanon, ePick13b, eWords, eZero13] [59] heq [] (fun _ h => by cases h)
theorem ctxOrQ_good {bf : Int → Int → Bool} {wf : Int → Int} {wb : Int → Bool} {rf : Int → Int} (H : OrdH bf wf wb rf) {wt : Int → Int} (hwt : ∀ a b, bf a b = decide (wt b < wt a)) (K : Awk13 bf wf wb rf) : (ctxOrQ Tryz.prog respEq bf wf wb rf).good := ctx_good (by kernel_rfl) (AllOk.mem ⟨eAwk13_ok H hwt K, eLoadO_ok H, eApplyO_ok H, entry_lift eKey13_ok, entry_lift eRCanon_ok, entry_lift ePick13b_ok, entry_lift eWords_ok, entry_lift eZero13_ok, trivial⟩) glM_two
theorem allI_getD {xs : List Int} (h : AllI xs) (i : Nat) : I64 (xs.getD i 0) := by
  rw [List.getD_eq_getElem?_getD]
  cases e : xs[i]? with
  | none => exact ⟨by decide, by decide⟩
  | some x => exact h x (List.mem_of_getElem? e)
theorem put_wf (wf wf2 rf : Int → Int) (m n : Nat) (xs : List Int) (key v : Int) : ordDo wf rf m n xs 11 key v = ordDo wf2 rf m n xs 11 key v := by
  simp only [ordDo, show ¬ (11 : Int) = 10 by decide, if_false, if_true]
theorem ldS_next {rf : Int → Int} {m : Nat} {l : List Int} {i : Nat} (h : (ldS rf m l i).2.2.1 = 0) (wf : Int → Int) : ordDo wf rf m (ldS rf m l i).1 (ldS rf m l i).2.1 11 (l.getD (i * 2) 0) (l.getD (i * 2 + 1) 0) = ldS rf m l (i + 1) := by
  rw [put_wf wf (fun x => x)]
  show _ = if _ then _ else _
  rw [if_pos h]
theorem appR13 {bf : Int → Int → Bool} {wf : Int → Int} {wb : Int → Bool} {rf : Int → Int} {n : Nat} {xs : List Int} (hv : OrdV wb 13 n xs) (code key v : Int) :
    appR bf wf wb rf 4 1 13 (wordsO bf 13 n xs) code key v = (wordsO bf 13 (ordDo wf rf 13 n xs code key v).1 (ordDo wf rf 13 n xs code key v).2.1, (ordDo wf rf 13 n xs code key v).2.2.1, (ordDo wf rf 13 n xs code key v).2.2.2, 0) :=
  appR_words (m := 13) (show fitsB 4 1 ((13 : Nat) : Int) = true by decide +kernel) hv code key v
theorem u64_keyW (n : Int) : U64 (keyW n) := u64_wordS ⟨by omega, by omega⟩
attribute [local irreducible] ldR appR keyW iCanon ipick wordsO ldS ordDo turnL
end Go.Proofs.YtlcpcgdecodjfaaGreatDoor
namespace Go.Proofs.YtlcpcgdecodjfaaGreatDoor
open Go.RowKit Go.Proofs.YtlcpcgdecodjfaaGreatDoor.Am
set_option linter.unusedVariables false
set_option linter.unusedSimpArgs false

def codeL (k : Int) : List Int := if k = 1 then [1, 2, 3, 4, 4] else if k = 2 then [6, 6, 5, 7, 8, 9] else if k = 5 then [12, 12, 12, 14, 15, 16, 13] else [11, 11, 10, 7, 8, 9]
def codeG (k n : Int) : Int := if ipick n (3 * ((codeL k).length : Int) + 1) = 3 * ((codeL k).length : Int) then ipick n 260 else (codeL k).getD (ipick n (3 * ((codeL k).length : Int) + 1) % ((codeL k).length : Int)).toNat 0
def keyG (k n w : Int) : Int := if k = 4 then wordS n w else if ipick n 14 = 13 then w else if ipick n 14 = 12 ∧ k ≠ 5 then 4611686018427387904 else ipick n 14
def valG (k a c w : Int) : Int := if k = 5 ∨ codeG k a = 8 then ipick c 10 else wordS c w
theorem u64_keyG {k n w : Int} (hw : U64 w) : U64 (keyG k n w) := by
  obtain ⟨b1, b2⟩ := ipick_bounds n (n := 14) (by omega)
  unfold keyG
  split
  · exact u64_wordS hw
  · split
    · exact hw
    · split
      · exact ⟨by omega, by omega⟩
      · exact ⟨by omega, by omega⟩
theorem u64_valG {k a c w : Int} (hw : U64 w) : U64 (valG k a c w) := by
  obtain ⟨b1, b2⟩ := ipick_bounds c (n := 10) (by omega)
  unfold valG
  split
  · exact ⟨by omega, by omega⟩
  · exact u64_wordS hw
noncomputable def ctxLwB (P : Program) : Ctx := ctx P glR [ePick09, eWord09] [] (noEq P) [] (fun _ h => by cases h)
theorem ctxLwB_good : (ctxLwB Tryz.prog).good := ctx_good (by kernel_rfl) (AllOk.mem ⟨ePick09_ok, eWord09_ok, trivial⟩) glR_two
set_option maxRecDepth 100000 in
theorem code09_1 (p n m : Int) (hn : I64 m) : Pure Tryz.prog glR 48 [.agg [.v (.int .i64 1), .v (.int .i64 p), .v (.int .i64 n)], .v (.int .i64 m)] (.v (.int .i64 (codeG 1 m))) := by
  obtain ⟨b1, b2⟩ := ipick_bounds m (n := 16) (by omega)
  have e1 : IntKind.i64.wrap (3 * ((5 : Nat) : Int)) = 15 := by rfl
  have e2 : IntKind.i64.wrap (15 + 1) = 16 := by rfl
  have et : (ipick m 16).tmod ((5 : Nat) : Int) = ipick m 16 % 5 := Int.tmod_eq_emod_of_nonneg b1
  refine pure_of (C := ctxLwB Tryz.prog) ctxLwB_good Tryz.func48 (c := bodyOf Tryz.f48) (by rfl) (Nat.le_of_ble_eq_true (by rfl)) 4 1 [0, 1, 2, 4, 5, 6, 9, 10, 13, 17, 30] ?_
  conv => whnf
  rw [e1, e2]
  refine And.intro ⟨hn, by omega, by omega⟩ ?_
  conv => whnf
  rw [e1]
  refine ifB_eq (fun h => ?_) (fun h => ?_)
  · conv => whnf
    refine And.intro ⟨hn, by omega, by omega⟩ ?_
    conv => whnf
    refine congrArg (fun x => T.v (Value.int _ x)) ?_
    unfold codeG codeL
    simp [h]
  · conv => whnf
    refine And.intro (by omega) ?_
    conv => whnf
    rw [et]
    refine And.intro ⟨by omega, by omega⟩ ?_
    conv => whnf
    have e : 0 + addN 0 (ipick m 16 % 5).toNat * (0 + 1) = (ipick m 16 % 5).toNat := by simp [addN_eq]
    rw [e]
    refine congrArg (fun x => T.v (Value.int _ x)) ?_
    unfold codeG codeL
    simp [h]
set_option maxRecDepth 100000 in
theorem code09_2 (p n m : Int) (hn : I64 m) : Pure Tryz.prog glR 48 [.agg [.v (.int .i64 2), .v (.int .i64 p), .v (.int .i64 n)], .v (.int .i64 m)] (.v (.int .i64 (codeG 2 m))) := by
  obtain ⟨b1, b2⟩ := ipick_bounds m (n := 19) (by omega)
  have e1 : IntKind.i64.wrap (3 * ((6 : Nat) : Int)) = 18 := by rfl
  have e2 : IntKind.i64.wrap (18 + 1) = 19 := by rfl
  have et : (ipick m 19).tmod ((6 : Nat) : Int) = ipick m 19 % 6 := Int.tmod_eq_emod_of_nonneg b1
  refine pure_of (C := ctxLwB Tryz.prog) ctxLwB_good Tryz.func48 (c := bodyOf Tryz.f48) (by rfl) (Nat.le_of_ble_eq_true (by rfl)) 4 1 [0, 1, 2, 4, 5, 6, 9, 10, 13, 17, 30] ?_
  conv => whnf
  rw [e1, e2]
  refine And.intro ⟨hn, by omega, by omega⟩ ?_
  conv => whnf
  rw [e1]
  refine ifB_eq (fun h => ?_) (fun h => ?_)
  · conv => whnf
    refine And.intro ⟨hn, by omega, by omega⟩ ?_
    conv => whnf
    refine congrArg (fun x => T.v (Value.int _ x)) ?_
    unfold codeG codeL
    simp [h]
  · conv => whnf
    refine And.intro (by omega) ?_
    conv => whnf
    rw [et]
    refine And.intro ⟨by omega, by omega⟩ ?_
    conv => whnf
    have e : 0 + addN 0 (ipick m 19 % 6).toNat * (0 + 1) = (ipick m 19 % 6).toNat := by simp [addN_eq]
    rw [e]
    refine congrArg (fun x => T.v (Value.int _ x)) ?_
    unfold codeG codeL
    simp [h]
set_option maxRecDepth 100000 in
theorem code09_3 (p n m : Int) (hn : I64 m) : Pure Tryz.prog glR 48 [.agg [.v (.int .i64 3), .v (.int .i64 p), .v (.int .i64 n)], .v (.int .i64 m)] (.v (.int .i64 (codeG 3 m))) := by
  obtain ⟨b1, b2⟩ := ipick_bounds m (n := 19) (by omega)
  have e1 : IntKind.i64.wrap (3 * ((6 : Nat) : Int)) = 18 := by rfl
  have e2 : IntKind.i64.wrap (18 + 1) = 19 := by rfl
  have et : (ipick m 19).tmod ((6 : Nat) : Int) = ipick m 19 % 6 := Int.tmod_eq_emod_of_nonneg b1
  refine pure_of (C := ctxLwB Tryz.prog) ctxLwB_good Tryz.func48 (c := bodyOf Tryz.f48) (by rfl) (Nat.le_of_ble_eq_true (by rfl)) 4 1 [0, 1, 2, 4, 5, 6, 9, 10, 13, 17, 30] ?_
  conv => whnf
  rw [e1, e2]
  refine And.intro ⟨hn, by omega, by omega⟩ ?_
  conv => whnf
  rw [e1]
  refine ifB_eq (fun h => ?_) (fun h => ?_)
  · conv => whnf
    refine And.intro ⟨hn, by omega, by omega⟩ ?_
    conv => whnf
    refine congrArg (fun x => T.v (Value.int _ x)) ?_
    unfold codeG codeL
    simp [h]
  · conv => whnf
    refine And.intro (by omega) ?_
    conv => whnf
    rw [et]
    refine And.intro ⟨by omega, by omega⟩ ?_
    conv => whnf
    have e : 0 + addN 0 (ipick m 19 % 6).toNat * (0 + 1) = (ipick m 19 % 6).toNat := by simp [addN_eq]
    rw [e]
    refine congrArg (fun x => T.v (Value.int _ x)) ?_
    unfold codeG codeL
    simp [h]
set_option maxRecDepth 100000 in
theorem code09_4 (p n m : Int) (hn : I64 m) : Pure Tryz.prog glR 48 [.agg [.v (.int .i64 4), .v (.int .i64 p), .v (.int .i64 n)], .v (.int .i64 m)] (.v (.int .i64 (codeG 4 m))) := by
  obtain ⟨b1, b2⟩ := ipick_bounds m (n := 19) (by omega)
  have e1 : IntKind.i64.wrap (3 * ((6 : Nat) : Int)) = 18 := by rfl
  have e2 : IntKind.i64.wrap (18 + 1) = 19 := by rfl
  have et : (ipick m 19).tmod ((6 : Nat) : Int) = ipick m 19 % 6 := Int.tmod_eq_emod_of_nonneg b1
  refine pure_of (C := ctxLwB Tryz.prog) ctxLwB_good Tryz.func48 (c := bodyOf Tryz.f48) (by rfl) (Nat.le_of_ble_eq_true (by rfl)) 4 1 [0, 1, 2, 4, 5, 6, 9, 10, 13, 17, 30] ?_
  conv => whnf
  rw [e1, e2]
  refine And.intro ⟨hn, by omega, by omega⟩ ?_
  conv => whnf
  rw [e1]
  refine ifB_eq (fun h => ?_) (fun h => ?_)
  · conv => whnf
    refine And.intro ⟨hn, by omega, by omega⟩ ?_
    conv => whnf
    refine congrArg (fun x => T.v (Value.int _ x)) ?_
    unfold codeG codeL
    simp [h]
  · conv => whnf
    refine And.intro (by omega) ?_
    conv => whnf
    rw [et]
    refine And.intro ⟨by omega, by omega⟩ ?_
    conv => whnf
    have e : 0 + addN 0 (ipick m 19 % 6).toNat * (0 + 1) = (ipick m 19 % 6).toNat := by simp [addN_eq]
    rw [e]
    refine congrArg (fun x => T.v (Value.int _ x)) ?_
    unfold codeG codeL
    simp [h]
set_option maxRecDepth 100000 in
theorem code09_5 (p n m : Int) (hn : I64 m) : Pure Tryz.prog glR 48 [.agg [.v (.int .i64 5), .v (.int .i64 p), .v (.int .i64 n)], .v (.int .i64 m)] (.v (.int .i64 (codeG 5 m))) := by
  obtain ⟨b1, b2⟩ := ipick_bounds m (n := 22) (by omega)
  have e1 : IntKind.i64.wrap (3 * ((7 : Nat) : Int)) = 21 := by rfl
  have e2 : IntKind.i64.wrap (21 + 1) = 22 := by rfl
  have et : (ipick m 22).tmod ((7 : Nat) : Int) = ipick m 22 % 7 := Int.tmod_eq_emod_of_nonneg b1
  refine pure_of (C := ctxLwB Tryz.prog) ctxLwB_good Tryz.func48 (c := bodyOf Tryz.f48) (by rfl) (Nat.le_of_ble_eq_true (by rfl)) 4 1 [0, 1, 2, 4, 5, 6, 9, 10, 13, 17, 30] ?_
  conv => whnf
  rw [e1, e2]
  refine And.intro ⟨hn, by omega, by omega⟩ ?_
  conv => whnf
  rw [e1]
  refine ifB_eq (fun h => ?_) (fun h => ?_)
  · conv => whnf
    refine And.intro ⟨hn, by omega, by omega⟩ ?_
    conv => whnf
    refine congrArg (fun x => T.v (Value.int _ x)) ?_
    unfold codeG codeL
    simp [h]
  · conv => whnf
    refine And.intro (by omega) ?_
    conv => whnf
    rw [et]
    refine And.intro ⟨by omega, by omega⟩ ?_
    conv => whnf
    have e : 0 + addN 0 (ipick m 22 % 7).toNat * (0 + 1) = (ipick m 22 % 7).toNat := by simp [addN_eq]
    rw [e]
    refine congrArg (fun x => T.v (Value.int _ x)) ?_
    unfold codeG codeL
    simp [h]
theorem code09_pure (k p n m : Int) (hk : 1 ≤ k ∧ k ≤ 5) (hn : I64 m) : Pure Tryz.prog glR 48 [.agg [.v (.int .i64 k), .v (.int .i64 p), .v (.int .i64 n)], .v (.int .i64 m)] (.v (.int .i64 (codeG k m))) := by
  rcases (show k = 1 ∨ k = 2 ∨ k = 3 ∨ k = 4 ∨ k = 5 by omega) with rfl | rfl | rfl | rfl | rfl
  · exact code09_1 _ _ _ hn
  · exact code09_2 _ _ _ hn
  · exact code09_3 _ _ _ hn
  · exact code09_4 _ _ _ hn
  · exact code09_5 _ _ _ hn
def eCodeG : Entry := ⟨48, 3, fun l => match l with | [.agg [.v (.int .i64 k), .v (.int .i64 p), .v (.int .i64 n)], .v (.int .i64 m)] => some (some ((1 ≤ k ∧ k ≤ 5) ∧ I64 m), .v (.int .i64 (codeG k m)), []) | _ => none⟩
theorem eCodeG_ok : eCodeG.ok Tryz.prog glR := ⟨Am.enters_of Tryz.func48 (by kernel_rfl) (by kernel_rfl), by
  intro args c t bs h hc
  simp only [eCodeG] at h
  split at h <;> cases h
  replace hc := hc _ rfl
  exact code09_pure _ _ _ _ hc.1 hc.2⟩
attribute [local irreducible] wordS
set_option maxRecDepth 100000 in
theorem keyG_pure (k p n m w : Int) (hn : I64 m) : Pure Tryz.prog glR 49 [.agg [.v (.int .i64 k), .v (.int .i64 p), .v (.int .i64 n)], .v (.int .i64 m), .v (.int .u64 w)] (.v (.int .u64 (keyG k m w))) := by
  obtain ⟨b1, b2⟩ := ipick_bounds m (n := 14) (by omega)
  have hw : IntKind.u64.wrap (ipick m 14) = ipick m 14 := wrapU (by omega) (by omega)
  refine pure_of (C := ctxLwB Tryz.prog) ctxLwB_good Tryz.func49 (c := bodyOf Tryz.f49) (by rfl) (Nat.le_of_ble_eq_true (by rfl)) 4 0 [0, 1, 2, 3, 6, 7, 10, 17, 25] ?_
  conv => whnf
  refine ifB_eq (fun h => ?_) (fun h4 => ?_)
  · conv => whnf
    refine And.intro hn ?_
    conv => whnf
    rw [show keyG k m w = wordS m w from if_pos h]
  conv => whnf
  refine And.intro ⟨hn, by omega, by omega⟩ ?_
  conv => whnf
  repeat' (first | (refine ifB_t (by assumption) ?_; conv => whnf) | (refine ifB_f (by assumption) ?_; conv => whnf) | (refine ifB_dec (fun h => ?_) (fun h => ?_) <;> (first | (exfalso; omega) | (conv => whnf))) | (refine ifB_eq (fun h => ?_) (fun h => ?_) <;> (first | (exfalso; omega) | (conv => whnf))) | (refine ifB_ne (fun h => ?_) (fun h => ?_) <;> (first | (exfalso; omega) | (conv => whnf))) | (refine ifB_not ?_; conv => whnf) | (refine ifB_and ?_; conv => whnf) | (refine ifB_or ?_; conv => whnf) | (refine And.intro ?_ ?_; (first | omega | assumption | (exact allU_getD (by assumption) _) | (simp only [cutL]; omega) | (refine And.intro ?_ ?_ <;> first | assumption | exact allU_getD (by assumption) _) | (simp only [cutL, IntKind.wrap_u64, IntKind.wrap_i64] at *; omega) | decide); conv => whnf) | (refine ifB_mk (fun h => ?_) (fun h => ?_) <;> (conv => whnf)))
  all_goals (refine congrArg (fun x => T.v (Value.int _ x)) ?_; unfold keyG; rw [if_neg h4]; first | (simp [*]; done) | (simp [*]; rfl) | (simp_all; done))
def eKeyG : Entry := ⟨49, 3, fun l => match l with | [.agg [.v (.int .i64 k), .v (.int .i64 p), .v (.int .i64 n)], .v (.int .i64 m), .v (.int .u64 w)] => some (some (I64 m), .v (.int .u64 (keyG k m w)), []) | _ => none⟩
theorem eKeyG_ok : eKeyG.ok Tryz.prog glR := ⟨Am.enters_of Tryz.func49 (by kernel_rfl) (by kernel_rfl), by
  intro args c t bs h hc
  simp only [eKeyG] at h
  split at h <;> cases h
  replace hc := hc _ rfl
  exact keyG_pure _ _ _ _ _ hc⟩
noncomputable def ctxLwB2 (P : Program) : Ctx := ctx P glR [ePick09, eWord09, eKeyG, eCodeG] [] (noEq P) [] (fun _ h => by cases h)
theorem ctxLwB2_good : (ctxLwB2 Tryz.prog).good := ctx_good (by kernel_rfl) (AllOk.mem ⟨ePick09_ok, eWord09_ok, eKeyG_ok, eCodeG_ok, trivial⟩) glR_two
attribute [local irreducible] codeG keyG
set_option maxRecDepth 100000 in
theorem opG_pure (k p n a b c w : Int) (hk : 1 ≤ k ∧ k ≤ 5) (ha : I64 a) (hb : I64 b) (hc : I64 c) : Pure Tryz.prog glR 19 [.agg [.v (.int .i64 k), .v (.int .i64 p), .v (.int .i64 n)], .agg [.v (.int .i64 a), .v (.int .i64 b), .v (.int .i64 c)], .v (.int .u64 w)] (.agg [.v (.int .i64 (codeG k a)), .v (.int .u64 (keyG k b w)), .v (.int .u64 (valG k a c w))]) := by
  have hc' : I64 ([a, b, c].getD 2 0) := hc
  obtain ⟨b1, b2⟩ := ipick_bounds c (n := 10) (by omega)
  have hw : IntKind.u64.wrap (ipick c 10) = ipick c 10 := wrapU (by omega) (by omega)
  refine pure_of (C := ctxLwB2 Tryz.prog) ctxLwB2_good Tryz.func19 (c := bodyOf Tryz.f19) (by rfl) (Nat.le_of_ble_eq_true (by rfl)) 4 0 [0, 1, 2, 3, 4, 6, 7, 29] ?_
  conv => whnf
  repeat' (first | (refine ifB_t (by assumption) ?_; conv => whnf) | (refine ifB_f (by assumption) ?_; conv => whnf) | (refine ifB_dec (fun h => ?_) (fun h => ?_) <;> (first | (exfalso; omega) | (conv => whnf))) | (refine ifB_eq (fun h => ?_) (fun h => ?_) <;> (first | (exfalso; omega) | (conv => whnf))) | (refine ifB_ne (fun h => ?_) (fun h => ?_) <;> (first | (exfalso; omega) | (conv => whnf))) | (refine ifB_not ?_; conv => whnf) | (refine ifB_and ?_; conv => whnf) | (refine ifB_or ?_; conv => whnf) | (refine And.intro ?_ ?_; (first | omega | assumption | (exact allU_getD (by assumption) _) | (simp only [cutL]; omega) | (refine And.intro ?_ ?_ <;> first | assumption | exact allU_getD (by assumption) _) | (simp only [cutL, IntKind.wrap_u64, IntKind.wrap_i64] at *; omega) | decide); conv => whnf) | (refine ifB_mk (fun h => ?_) (fun h => ?_) <;> (conv => whnf)))
  · refine And.intro (show I64 c ∧ (0 : Int) < 10 ∧ (10 : Int) ≤ 4096 from ⟨hc, by omega, by omega⟩) ?_
    conv => whnf
    rw [show valG k a c w = ipick c 10 from if_pos (.inl (by assumption))]
    repeat' (first | exact trivial | exact rfl | (refine And.intro ?_ ?_) | ((conv => whnf); done) | ((conv => whnf); (first | rfl | (refine congrArg (fun b => T.v (Value.bool b)) ?_; first | rfl | exact (decide_eq_true (by omega)).symm | exact (decide_eq_false (by omega)).symm | exact decide_eq_decide.2 (by omega)) | (refine congrArg (fun b => T.v (Value.int _ b)) ?_; first | rfl | omega) | omega)) | (first | rfl | (refine congrArg (fun b => T.v (Value.bool b)) ?_; first | rfl | exact (decide_eq_true (by omega)).symm | exact (decide_eq_false (by omega)).symm | exact decide_eq_decide.2 (by omega)) | (refine congrArg (fun b => T.v (Value.int _ b)) ?_; first | rfl | omega) | omega))
    exact congrArg (fun x => T.v (Value.int _ x)) hw
  · refine And.intro (show I64 c ∧ (0 : Int) < 10 ∧ (10 : Int) ≤ 4096 from ⟨hc, by omega, by omega⟩) ?_
    conv => whnf
    rw [show valG k a c w = ipick c 10 from if_pos (.inr (by assumption))]
    repeat' (first | exact trivial | exact rfl | (refine And.intro ?_ ?_) | ((conv => whnf); done) | ((conv => whnf); (first | rfl | (refine congrArg (fun b => T.v (Value.bool b)) ?_; first | rfl | exact (decide_eq_true (by omega)).symm | exact (decide_eq_false (by omega)).symm | exact decide_eq_decide.2 (by omega)) | (refine congrArg (fun b => T.v (Value.int _ b)) ?_; first | rfl | omega) | omega)) | (first | rfl | (refine congrArg (fun b => T.v (Value.bool b)) ?_; first | rfl | exact (decide_eq_true (by omega)).symm | exact (decide_eq_false (by omega)).symm | exact decide_eq_decide.2 (by omega)) | (refine congrArg (fun b => T.v (Value.int _ b)) ?_; first | rfl | omega) | omega))
    exact congrArg (fun x => T.v (Value.int _ x)) hw
  · rw [show valG k a c w = wordS c w from if_neg (by rintro (h | h); exact absurd h (by assumption); exact absurd h (by assumption))]
    repeat' (first | exact trivial | exact rfl | (refine And.intro ?_ ?_) | ((conv => whnf); done) | ((conv => whnf); (first | rfl | (refine congrArg (fun b => T.v (Value.bool b)) ?_; first | rfl | exact (decide_eq_true (by omega)).symm | exact (decide_eq_false (by omega)).symm | exact decide_eq_decide.2 (by omega)) | (refine congrArg (fun b => T.v (Value.int _ b)) ?_; first | rfl | omega) | omega)) | (first | rfl | (refine congrArg (fun b => T.v (Value.bool b)) ?_; first | rfl | exact (decide_eq_true (by omega)).symm | exact (decide_eq_false (by omega)).symm | exact decide_eq_decide.2 (by omega)) | (refine congrArg (fun b => T.v (Value.int _ b)) ?_; first | rfl | omega) | omega))
def eOpG : Entry := ⟨19, 4, fun l => match l with | [.agg [.v (.int .i64 k), .v (.int .i64 p), .v (.int .i64 n)], .agg [.v (.int .i64 a), .v (.int .i64 b), .v (.int .i64 c)], .v (.int .u64 w)] => some (some ((1 ≤ k ∧ k ≤ 5) ∧ I64 a ∧ I64 b ∧ I64 c), .agg [.v (.int .i64 (codeG k a)), .v (.int .u64 (keyG k b w)), .v (.int .u64 (valG k a c w))], []) | _ => none⟩
theorem eOpG_ok : eOpG.ok Tryz.prog glR := ⟨Am.enters_of Tryz.func19 (by kernel_rfl) (by kernel_rfl), by
  intro args c t bs h hc
  simp only [eOpG] at h
  split at h <;> cases h
  replace hc := hc _ rfl
  exact opG_pure _ _ _ _ _ _ _ hc.1 hc.2.1 hc.2.2.1 hc.2.2.2⟩
end Go.Proofs.YtlcpcgdecodjfaaGreatDoor
namespace Go.Proofs.YtlcpcgdecodjfaaGreatDoor
open Go.RowKit Go.Proofs.YtlcpcgdecodjfaaGreatDoor.Am
set_option linter.unusedVariables false
set_option linter.unusedSimpArgs false

noncomputable def ctxKdE0 (P : Program) : Ctx := ctx P glR [eFitsT] [] (noEq P) [] (fun _ h => by cases h)
theorem ctxKdE0_good : (ctxKdE0 Tryz.prog).good := ctx_good (by kernel_rfl) (AllOk.mem ⟨eFitsT_ok, trivial⟩) glR_two
attribute [local irreducible] fitsB codeG keyG valG tabD
set_option maxRecDepth 100000 in
theorem newK_pure (k p n : Int) (h5 : k ≠ 5) (hf : fitsB k p n = true) : Pure Tryz.prog glR 32 [.agg [.v (.int .i64 k), .v (.int .i64 p), .v (.int .i64 n)]] (.tup [SO 0 0 0 0 false, .v (.int .i64 0)]) (SH [] [] []) := by
  refine pure_of (C := ctxKdE0 Tryz.prog) ctxKdE0_good Tryz.func32 (c := bodyOf Tryz.f32) (by rfl) (Nat.le_of_ble_eq_true (by rfl)) 4 0 [0, 1, 2, 3, 4, 7, 12] ?_
  conv => whnf
  refine And.intro hf ?_
  conv => whnf
  refine ifB_eq (fun h => absurd h h5) (fun _ => ?_)
  conv => whnf
  repeat' (first | exact trivial | exact rfl | (refine And.intro ?_ ?_) | ((conv => whnf); done) | ((conv => whnf); (first | rfl | (refine congrArg (fun b => T.v (Value.bool b)) ?_; first | rfl | exact (decide_eq_true (by omega)).symm | exact (decide_eq_false (by omega)).symm | exact decide_eq_decide.2 (by omega)) | (refine congrArg (fun b => T.v (Value.int _ b)) ?_; first | rfl | omega) | omega)) | (first | rfl | (refine congrArg (fun b => T.v (Value.bool b)) ?_; first | rfl | exact (decide_eq_true (by omega)).symm | exact (decide_eq_false (by omega)).symm | exact decide_eq_decide.2 (by omega)) | (refine congrArg (fun b => T.v (Value.int _ b)) ?_; first | rfl | omega) | omega))
def eNewK : Entry := ⟨32, 3, fun l => match l with | [.agg [.v (.int .i64 k), .v (.int .i64 p), .v (.int .i64 n)]] => some (some (k ≠ 5 ∧ fitsB k p n = true), .tup [SO 0 0 0 0 false, .v (.int .i64 0)], SH [] [] []) | _ => none⟩
theorem eNewK_ok : eNewK.ok Tryz.prog glR := ⟨Am.enters_of Tryz.func32 (by kernel_rfl) (by kernel_rfl), by
  intro args c t bs h hc
  simp only [eNewK] at h
  split at h <;> cases h
  replace hc := hc _ rfl
  exact newK_pure _ _ _ hc.1 hc.2⟩
/-- Keys and values behind so many raw calls. -/
def stK (k : Int) (m : Nat) (raw : List Int) : Nat → List Int × List Int
  | 0 => ([], [])
  | j + 1 => ((tabD k m (stK k m raw j).1 (stK k m raw j).2 (codeG k (raw.getD (j * 3) 0)) (keyG k (raw.getD (j * 3 + 1) 0) j) (valG k (raw.getD (j * 3) 0) (raw.getD (j * 3 + 2) 0) j)).1, (tabD k m (stK k m raw j).1 (stK k m raw j).2 (codeG k (raw.getD (j * 3) 0)) (keyG k (raw.getD (j * 3 + 1) 0) j) (valG k (raw.getD (j * 3) 0) (raw.getD (j * 3 + 2) 0) j)).2.1)
theorem stK_v (k : Int) (m : Nat) (raw : List Int) : ∀ j, j ≤ 30 → TabV k m (stK k m raw j).1 (stK k m raw j).2
  | 0, _ => tabV_nil k m
  | j + 1, h => tabD_v (stK_v k m raw j (by omega)) (u64_keyG ⟨by omega, by omega⟩) (u64_valG ⟨by omega, by omega⟩)
theorem allI_getD' {xs : List Int} (h : AllI xs) (i : Nat) : I64 (xs.getD i 0) := by
  by_cases hi : i < xs.length
  · exact h.at hi
  · rw [List.getD_eq_getElem?_getD, List.getElem?_eq_none (by omega)]; exact ⟨by decide, by decide⟩
noncomputable def ctxKdE (P : Program) : Ctx := ctx P glR [eNewK, eDoK, eOpG] [] (noEq P) [] (fun _ h => by cases h)
theorem ctxKdE_good : (ctxKdE Tryz.prog).good := ctx_good (by kernel_rfl) (AllOk.mem ⟨eNewK_ok, eDoK_ok, eOpG_ok, trivial⟩) glR_two
set_option maxRecDepth 100000 in
theorem stateK_pure (k p : Int) (n : Nat) (hk : k = 2 ∨ k = 3 ∨ k = 4) (hf : fitsB k p n = true) (m : Nat) (raw : List Int) (hx : AllI raw) : Pure Tryz.prog glR 10 [.agg [.v (.int .i64 k), .v (.int .i64 p), .v (.int .i64 n)], .fl [.i64, .i64, .i64] m raw] (SO 0 (stK k n raw (min m 30)).1.length (stK k n raw (min m 30)).2.length 0 false) (SH (stK k n raw (min m 30)).1 (stK k n raw (min m 30)).2 []) := by
  refine pure_wf fun hw => ?_
  obtain ⟨-, ⟨w1, w2⟩, -⟩ := hw
  simp only [List.length_cons, List.length_nil, Nat.zero_add, Nat.mul_one] at w1
  refine pure_of (C := ctxKdE Tryz.prog) ctxKdE_good Tryz.func10 (c := bodyOf Tryz.f10) (by rfl) (Nat.le_of_ble_eq_true (by rfl)) 4 0 [0, 1, 2, 4, 5, 7, 8, 10, 23, 42] ?_
  conv => whnf
  refine And.intro ⟨by omega, hf⟩ ?_
  conv => whnf
  refine TW.loopD ctxKdE_good 0 (base := 0) (lv := [0, 1, 2, 4, 5, 7, 8, 10, 23, 42]) [7] [20, 52, 53, 54] [(20, 20), (52, 52), (53, 53), (54, 54)] (fun j : Nat => [.v (.int .i64 j)]) (fun j => [.cs [.v (.int .u64 0), .ow 52 1 (stK k n raw j).1.length, .ow 53 1 (stK k n raw j).2.length, .ow 54 1 0, .v (.bool false)], .fl [.u64] (stK k n raw j).1, .fl [.u64] (stK k n raw j).2, .fl [.i64] []]) (fun j => j ≤ m ∧ j ≤ 30) (fun j => 30 - j) ?_
  conv => whnf
  refine ⟨⟨0, ⟨rfl, rfl, rfl⟩, ⟨by omega, by omega⟩⟩, fun j ⟨hj, hj2⟩ => ?_⟩
  conv => whnf
  refine ifB_dec (fun h => ?_) (fun h => ?_)
  · conv => whnf
    refine ifB_dec (fun h2 => ?_) (fun h2 => ?_)
    · conv => whnf
      refine And.intro (by omega) ?_
      conv => whnf
      refine And.intro ⟨by omega, allI_getD' hx _, allI_getD' hx _, allI_getD' hx _⟩ ?_
      conv => whnf
      have i0 : 0 + (j : Int).toNat * (2 + 1) + 0 = j * 3 := by omega
      have i1 : 0 + (j : Int).toNat * (2 + 1) + (0 + 1) = j * 3 + 1 := by omega
      have i2 : 0 + (j : Int).toNat * (2 + 1) + (0 + 1 + 1) = j * 3 + 2 := by omega
      have ew : IntKind.u64.wrap (j : Int) = j := wrapU (by omega) (by omega)
      have uj : U64 (IntKind.u64.wrap (j : Int)) := by rw [ew]; exact ⟨by omega, by omega⟩
      refine And.intro ⟨hk, hf, (by rw [Int.toNat_natCast]; exact stK_v k n raw j (by omega)), ⟨rfl, rfl, rfl⟩, u64_keyG uj, u64_valG uj⟩ ?_
      conv => whnf
      rw [i0, i1, i2, ew, wsucc (n := m) (by omega) w2]
      exact ⟨j + 1, [(20, 20), (148, 52), (149, 53), (150, 54)], ⟨rfl, rfl, rfl⟩, ⟨by omega, by omega⟩, by (try dsimp only); omega⟩
    · conv => whnf
      rw [show min m 30 = j by omega]
      repeat' (first | exact trivial | exact rfl | (refine And.intro ?_ ?_) | ((conv => whnf); done) | ((conv => whnf); (first | rfl | (refine congrArg (fun b => T.v (Value.bool b)) ?_; first | rfl | exact (decide_eq_true (by omega)).symm | exact (decide_eq_false (by omega)).symm | exact decide_eq_decide.2 (by omega)) | (refine congrArg (fun b => T.v (Value.int _ b)) ?_; first | rfl | omega) | omega)) | (first | rfl | (refine congrArg (fun b => T.v (Value.bool b)) ?_; first | rfl | exact (decide_eq_true (by omega)).symm | exact (decide_eq_false (by omega)).symm | exact decide_eq_decide.2 (by omega)) | (refine congrArg (fun b => T.v (Value.int _ b)) ?_; first | rfl | omega) | omega))
  · conv => whnf
    rw [show min m 30 = j by omega]
    repeat' (first | exact trivial | exact rfl | (refine And.intro ?_ ?_) | ((conv => whnf); done) | ((conv => whnf); (first | rfl | (refine congrArg (fun b => T.v (Value.bool b)) ?_; first | rfl | exact (decide_eq_true (by omega)).symm | exact (decide_eq_false (by omega)).symm | exact decide_eq_decide.2 (by omega)) | (refine congrArg (fun b => T.v (Value.int _ b)) ?_; first | rfl | omega) | omega)) | (first | rfl | (refine congrArg (fun b => T.v (Value.bool b)) ?_; first | rfl | exact (decide_eq_true (by omega)).symm | exact (decide_eq_false (by omega)).symm | exact decide_eq_decide.2 (by omega)) | (refine congrArg (fun b => T.v (Value.int _ b)) ?_; first | rfl | omega) | omega))
def eStateK : Entry := ⟨10, 4, fun l => match l with | [.agg [.v (.int .i64 k), .v (.int .i64 p), .v (.int .i64 n)], .fl [.i64, .i64, .i64] m raw] => some (some ((k = 2 ∨ k = 3 ∨ k = 4) ∧ fitsB k p n = true ∧ AllI raw), SO 0 (stK k n.toNat raw (min m 30)).1.length (stK k n.toNat raw (min m 30)).2.length 0 false, SH (stK k n.toNat raw (min m 30)).1 (stK k n.toNat raw (min m 30)).2 []) | _ => none⟩
theorem eStateK_ok : eStateK.ok Tryz.prog glR := ⟨Am.enters_of Tryz.func10 (by kernel_rfl) (by kernel_rfl), by
  intro args c t bs h hc
  simp only [eStateK] at h
  split at h <;> cases h
  replace hc := hc _ rfl
  exact (by have := fitsK hc.2.1; rename_i n m raw; obtain ⟨n0, rfl⟩ := Int.eq_ofNat_of_zero_le (a := n) (by omega); exact stateK_pure _ _ n0 hc.1 hc.2.1 _ _ hc.2.2)⟩
end Go.Proofs.YtlcpcgdecodjfaaGreatDoor
namespace Go.Proofs.YtlcpcgdecodjfaaGreatDoor
open Go.RowKit Go.Proofs.YtlcpcgdecodjfaaGreatDoor.Am
set_option linter.unusedVariables false
set_option linter.unusedSimpArgs false

def eLsF (ls : Int → Int → Bool) : Entry := ⟨24, 3, fun l => match l with
  | [.v (.int .u64 a), .v (.int .u64 b)] => some (some (U64 a ∧ U64 b), .v (.bool (ls a b)), [])
  | _ => none⟩
/-- What is known of floats and words, besides. -/
structure OrdF (bf : Int → Int → Bool) (wf : Int → Int) (wb : Int → Bool) (rf : Int → Int) (ls : Int → Int → Bool) : Prop where
  H : OrdH bf wf wb rf
  K : Awk13 bf wf wb rf
  less : (eLsF ls).ok Tryz.prog glM
  enc : (eEnc4 bf rf).ok Tryz.prog glR
  wt : ∃ wt : Int → Int, ∀ a b, bf a b = decide (wt b < wt a)
  lsr : ∀ a b, ls a b = decide (rf a < rf b)
  rwf : ∀ a, U64 a → wb a = true → rf (wf a) = a ∧ U64 (wf a)
  ord : ∀ {m n : Nat} {ks vs : List Int}, TabV 4 m ks vs → ks.length = n → OrdV wb m n (entK rf ks vs n) ∧ rises (rkL rf ks n)
theorem next_iff {n : Nat} {xs : List Int} {a val : Int} (hr : rises (rk xs n)) {j : Nat} (hj : j < n) : (a < xs.getD (j * 2) 0 ∨ (val = 0 ∧ ¬ xs.getD (j * 2) 0 < a)) ↔ nxO xs n a val ≤ j := by
  have hal := atO_le xs n a
  by_cases h1 : j < atO xs n a
  · have := atO_lt h1
    have h2 : atO xs n a ≤ nxO xs n a val := by unfold nxO; split <;> omega
    constructor
    · rintro (h | h) <;> omega
    · intro h; omega
  · have h2 := atO_ge hr (by omega : atO xs n a ≤ j) hj
    by_cases h0 : val = 0
    · have : nxO xs n a val = atO xs n a := by unfold nxO; rw [if_neg (fun h => h.2 h0)]
      rw [this]
      exact ⟨fun _ => by omega, fun _ => .inr ⟨h0, by omega⟩⟩
    · cases hi : isO xs n a
      · have e : nxO xs n a val = atO xs n a := by unfold nxO; rw [hi, if_neg (fun h => absurd h.1 Bool.false_ne_true)]
        have := isO_false hi hr hj
        rw [e]
        exact ⟨fun _ => by omega, fun _ => .inl (by omega)⟩
      · have e : nxO xs n a val = atO xs n a + 1 := by unfold nxO; rw [hi, if_pos ⟨rfl, h0⟩]
        have hat := isO_true hi
        rw [e]
        by_cases h3 : j = atO xs n a
        · subst h3
          constructor
          · rintro (h | h)
            · omega
            · exact absurd h.1 h0
          · intro h; omega
        · have := rkr hr (i := atO xs n a) (j := j) (by omega) hj
          exact ⟨fun _ => by omega, fun _ => .inl (by omega)⟩
noncomputable def ctxOrT (P : Program) (heq : ∀ t, hasN [59] t = true → P.stoodInHeld t = false) (bf : Int → Int → Bool) (wf : Int → Int) (wb : Int → Bool) (rf : Int → Int) (ls : Int → Int → Bool) : Ctx := ctx P glM [eAwk13, eConf13, eStateK, eEnc4 bf rf, eKey13, eApplyO bf wf wb rf, eAtO bf wf wb, eLsF ls, eWords] [59] heq [] (fun _ h => by cases h)
theorem ctxOrT_good {bf : Int → Int → Bool} {wf : Int → Int} {wb : Int → Bool} {rf : Int → Int} {ls : Int → Int → Bool} (F : OrdF bf wf wb rf ls) : (ctxOrT Tryz.prog respEq bf wf wb rf ls).good := by
  obtain ⟨wt, hwt⟩ := F.wt
  exact ctx_good (by kernel_rfl) (AllOk.mem ⟨eAwk13_ok F.H hwt F.K, entry_lift eConf13_ok, entry_lift eStateK_ok, entry_lift F.enc, entry_lift eKey13_ok, eApplyO_ok F.H, eAtO_ok F.H hwt, F.less, entry_lift eWords_ok, trivial⟩) glM_two
attribute [local irreducible] appR atRR keyW ipick wordsO ordDo stK entK atR rkL
end Go.Proofs.YtlcpcgdecodjfaaGreatDoor
namespace Go.Proofs.YtlcpcgdecodjfaaGreatDoor
open Go.RowKit Go.Proofs.YtlcpcgdecodjfaaGreatDoor.Am
set_option linter.unusedVariables false
set_option linter.unusedSimpArgs false

theorem ordH : OrdH bBefore iWord bWordOk iRank := ⟨eBf_ok, entry_lift eWord_ok, entry_lift eRank_ok, fun a ha => u64_rank ha, fun a ha => p_wordOk ha⟩
theorem ordV_one : OrdV bWordOk 1 1 [9223372036854775808, 2] := by
  refine ⟨rfl, Nat.le_refl _, allU_dec (by decide +kernel), fun i h0 h1 => ?_, fun i hi => ?_⟩
  · rw [rk_len] at h1; omega
  · obtain rfl : i = 0 := by omega
    decide +kernel
theorem words_one : wordsO bBefore 1 1 [9223372036854775808, 2] = [1, 1, 9223372036854775808, 2, 0, 0] := by decide +kernel
theorem fits_one : fitsB 4 1 ((1 : Nat) : Int) = true := by decide +kernel
theorem awk13 : Awk13 bBefore iWord bWordOk iRank where
  l1 := by decide +kernel
  l2 := by decide +kernel
  a1 := by
    rw [← words_one]
    exact (atRR_words fits_one ordV_one 1).trans (by decide +kernel)
  a2 := by
    rw [← words_one]
    exact (atRR_words fits_one ordV_one 2).trans (by decide +kernel)
  w1 := by
    rw [← words_one]
    exact (wayR_words fits_one ordV_one 7).trans (by decide +kernel)
  d1 := by
    rw [← words_one]
    exact (appR_words fits_one ordV_one 7 9223372036854775808 0).trans (by decide +kernel)
  a3 := by
    have h : ¬ OpenOk bBefore bWordOk 4 1 1 [1, 0, 9223372036854775808, 2, 0, 0] := fun h => by
      have := h.2.2.2
      revert this
      decide +kernel
    rw [show atRR bBefore iWord bWordOk 4 1 1 [1, 0, 9223372036854775808, 2, 0, 0] 1 = _ from if_neg h]
    decide +kernel
theorem rank_mid {y : Int} (h0 : 0 ≤ y) (h1 : y < 5000) : iRank (4611686018427387904 + y) = 13835058055282163712 + y := by
  obtain ⟨n, rfl⟩ := Int.eq_ofNat_of_zero_le h0
  unfold iRank
  rw [show (4611686018427387904 + (n : Int)).toNat = 4611686018427387904 + n by omega]
  have hm : Flt.mag (4611686018427387904 + n) = 4611686018427387904 + n := by unfold Flt.mag Flt.sgnW; omega
  have hc : Flt.canon (4611686018427387904 + n) = 4611686018427387904 + n := by
    unfold Flt.canon; rw [hm, if_neg (by unfold Flt.infR; omega), if_neg (by omega)]
  unfold Flt.rank
  rw [hc, if_pos (by unfold Flt.sgnW; omega)]
  unfold Flt.sgnW; omega
theorem key_ranks : ∀ w ∈ wordL 0, iRank w < 13835058055282163712 ∨ 13835058055282168712 ≤ iRank w := by decide +kernel
theorem keyW_mem (x : Int) : keyW x ∈ wordL 0 := by
  unfold keyW wordS
  obtain ⟨b1, b2⟩ := ipick_bounds (ipick x 13) (n := 14) (by omega)
  have hl : (ipick (ipick x 13) 14).toNat < (wordL 0).length := by show _ < 14; omega
  rw [List.getD_eq_getElem?_getD, List.getElem?_eq_getElem hl]
  exact List.getElem_mem hl
theorem key_mid (x y : Int) (h0 : 0 ≤ y) (h1 : y < 5000) : iRank (keyW x) ≠ iRank (4611686018427387904 + y) := by
  rw [rank_mid h0 h1]
  have := key_ranks _ (keyW_mem x)
  omega
end Go.Proofs.YtlcpcgdecodjfaaGreatDoor
