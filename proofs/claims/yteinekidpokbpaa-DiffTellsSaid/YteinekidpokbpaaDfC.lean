/- diff: Zero; words and writes of raw numbers. -/
import Derived.Test.YteinekidpokbpaaDfB
namespace Go.Proofs.Yteinekidpokbpaa.DfT
open Go.RowKit Go.Proofs.Yteinekidpokbpaa.Am Go.Proofs.Yteinekidpokbpaa Go.Proofs.Yteinekidpokbpaa.PrT
set_option linter.unusedVariables false
set_option linter.unusedSimpArgs false

set_option maxRecDepth 100000 in
theorem zf_pure (x : Int) : Pure Try.prog glR 26 [.v (.int .u64 x)] (.v (.bool (!(x == 0)))) := by
  refine pure_of (C := ctx0 Try.prog) ctx0_good Try.func26 (c := bodyOf Try.f26) (by rfl) (Nat.le_of_ble_eq_true (by rfl)) 4 0 [0, 2] ?_
  conv => whnf
  repeat' (first | exact trivial | exact rfl | (refine And.intro ?_ ?_) | ((conv => whnf); done) | ((conv => whnf); (first | rfl | (refine congrArg (fun b => T.v (Value.bool b)) ?_; first | rfl | exact (decide_eq_true (by omega)).symm | exact (decide_eq_false (by omega)).symm | exact decide_eq_decide.2 (by omega)) | (refine congrArg (fun b => T.v (Value.int _ b)) ?_; first | rfl | omega) | omega)) | (first | rfl | (refine congrArg (fun b => T.v (Value.bool b)) ?_; first | rfl | exact (decide_eq_true (by omega)).symm | exact (decide_eq_false (by omega)).symm | exact decide_eq_decide.2 (by omega)) | (refine congrArg (fun b => T.v (Value.int _ b)) ?_; first | rfl | omega) | omega))
def eZf : Entry := ⟨26, 3, fun l => match l with | [.v (.int .u64 x)] => some (none, .v (.bool (!(x == 0))), []) | _ => none⟩
theorem eZf_ok : eZf.ok Try.prog glR := ⟨Am.enters_of Try.func26 (by kernel_rfl) (by kernel_rfl), by
  intro args c t bs h hc
  simp only [eZf] at h
  split at h <;> cases h
  exact zf_pure _⟩
def zI (xs : List Int) : Int := if zB xs = true then -1 else ((xs.findIdx fun x => x != 0 : Nat) : Int)
theorem zI_false {xs : List Int} {j : Nat} (hj : j < xs.length) (hz : ∀ i, i < j → xs.getD i 0 = 0) (h : xs.getD j 0 ≠ 0) : zI xs = j := by
  unfold zI
  rw [zB_false hj h, if_neg (by decide)]
  have : xs.findIdx (fun x => x != 0) = j := by
    rw [List.findIdx_eq hj]
    constructor
    · rw [List.getD_eq_getElem?_getD, List.getElem?_eq_getElem hj] at h; simpa using h
    · intro i hi
      have := hz i hi
      rw [List.getD_eq_getElem?_getD, List.getElem?_eq_getElem (by omega)] at this
      simpa using this
  rw [this]
noncomputable def ctxIf (P : Program) : Ctx := ctx P glR [eZf] [] (noEq P) [] (fun _ h => by cases h)
theorem ctxIf_good : (ctxIf Try.prog).good := ctx_good (by kernel_rfl) (AllOk.mem ⟨eZf_ok, trivial⟩) glR_two
set_option maxRecDepth 100000 in
theorem idx_pure (n : Nat) (xs : List Int) : Pure Try.prog glR 32 [.fl [.u64] n xs, .v (.func (.func 26) ⟨[]⟩ ⟨[]⟩)] (.v (.int .i64 (zI xs))) := by
  refine pure_wf fun hw => ?_
  obtain ⟨⟨w1, w2⟩, -⟩ := hw
  simp only [List.length_cons, List.length_nil, Nat.zero_add, Nat.mul_one] at w1
  refine pure_of (C := ctxIf Try.prog) ctxIf_good Try.func32 (c := bodyOf Try.f32) (by rfl) (Nat.le_of_ble_eq_true (by rfl)) 4 0 [0, 1, 4, 5, 7, 8, 9, 16] ?_
  conv => whnf
  refine TW.loopD ctxIf_good 0 (base := 0) (lv := [0, 1, 4, 5, 7, 8, 9, 16]) [8] [] [] (fun j : Nat => [.v (.int .i64 j)]) (fun _ => []) (fun j => j ≤ n ∧ ∀ i, i < j → xs.getD i 0 = 0) (fun j => n - j) ?_
  conv => whnf
  refine ⟨⟨0, ⟨rfl, rfl, rfl⟩, by omega, fun i hi => by omega⟩, fun j ⟨hj, hz⟩ => ?_⟩
  conv => whnf
  refine ifB_dec (fun h => ?_) (fun h => ?_)
  · conv => whnf
    repeat (refine And.intro (by omega) ?_; conv => whnf)
    have E1 : 0 + (j : Int).toNat * (0 + 1) = j := by omega
    rw [E1]
    refine ifB_ne (x := xs.getD j 0) (y := 0) (fun h1 => ?_) (fun h1 => ?_)
    · conv => whnf
      rw [zI_false (by omega) hz h1]
      repeat' (first | exact trivial | exact rfl | (refine And.intro ?_ ?_) | ((conv => whnf); done) | ((conv => whnf); (first | rfl | (refine congrArg (fun b => T.v (Value.bool b)) ?_; first | rfl | exact (decide_eq_true (by omega)).symm | exact (decide_eq_false (by omega)).symm | exact decide_eq_decide.2 (by omega)) | (refine congrArg (fun b => T.v (Value.int _ b)) ?_; first | rfl | omega) | omega)) | (first | rfl | (refine congrArg (fun b => T.v (Value.bool b)) ?_; first | rfl | exact (decide_eq_true (by omega)).symm | exact (decide_eq_false (by omega)).symm | exact decide_eq_decide.2 (by omega)) | (refine congrArg (fun b => T.v (Value.int _ b)) ?_; first | rfl | omega) | omega))
    · conv => whnf
      rw [wsucc (n := n) (by omega) w2]
      refine ⟨j + 1, [], ⟨rfl, rfl, rfl⟩, ⟨by omega, fun i hi => ?_⟩, by (try dsimp only); omega⟩
      by_cases e : i = j
      · rw [e]; exact h1
      · exact hz i (by omega)
  · conv => whnf
    have : zI xs = -1 := by unfold zI; rw [if_pos (zB_true fun i hi => hz i (by omega))]
    rw [this]
    repeat' (first | exact trivial | exact rfl | (refine And.intro ?_ ?_) | ((conv => whnf); done) | ((conv => whnf); (first | rfl | (refine congrArg (fun b => T.v (Value.bool b)) ?_; first | rfl | exact (decide_eq_true (by omega)).symm | exact (decide_eq_false (by omega)).symm | exact decide_eq_decide.2 (by omega)) | (refine congrArg (fun b => T.v (Value.int _ b)) ?_; first | rfl | omega) | omega)) | (first | rfl | (refine congrArg (fun b => T.v (Value.bool b)) ?_; first | rfl | exact (decide_eq_true (by omega)).symm | exact (decide_eq_false (by omega)).symm | exact decide_eq_decide.2 (by omega)) | (refine congrArg (fun b => T.v (Value.int _ b)) ?_; first | rfl | omega) | omega))
def eIdx : Entry := ⟨32, 4, fun l => match l with
  | [.fl [.u64] n xs, .v (.func (.func f) ⟨[]⟩ ⟨[]⟩)] => match Nat.beq f 26 with
    | true => some (none, .v (.int .i64 (zI xs)), [])
    | false => none
  | _ => none⟩
theorem eIdx_ok : eIdx.ok Try.prog glR := ⟨Am.enters_of Try.func32 (by kernel_rfl) (by kernel_rfl), by
  intro args c t bs h hc
  simp only [eIdx] at h
  split at h
  · split at h
    · rename_i hf
      have hf := Nat.eq_of_beq_eq_true hf
      subst hf
      cases h
      exact idx_pure _ _
    · cases h
  · cases h⟩
noncomputable def ctxCf (P : Program) : Ctx := ctx P glR [eIdx] [] (noEq P) [] (fun _ h => by cases h)
theorem ctxCf_good : (ctxCf Try.prog).good := ctx_good (by kernel_rfl) (AllOk.mem ⟨eIdx_ok, trivial⟩) glR_two
theorem zB_zI (xs : List Int) : (decide (0 ≤ zI xs)) = !zB xs := by
  unfold zI
  cases zB xs
  · simp
  · simp
def eCf : Entry := ⟨25, 5, fun l => match l with
  | [.fl [.u64] n xs, .v (.func (.func f) ⟨[]⟩ ⟨[]⟩)] => match Nat.beq f 26 with
    | true => some (none, .v (.bool (!zB xs)), [])
    | false => none
  | _ => none⟩
set_option maxRecDepth 100000 in
theorem cf_pure (n : Nat) (xs : List Int) : Pure Try.prog glR 25 [.fl [.u64] n xs, .v (.func (.func 26) ⟨[]⟩ ⟨[]⟩)] (.v (.bool (!zB xs))) := by
  rw [← zB_zI]
  refine pure_of (C := ctxCf Try.prog) ctxCf_good Try.func25 (c := bodyOf Try.f25) (by rfl) (Nat.le_of_ble_eq_true (by rfl)) 4 0 [0, 1, 4] ?_
  conv => whnf
  repeat' (first | exact trivial | exact rfl | (refine And.intro ?_ ?_) | ((conv => whnf); done) | ((conv => whnf); (first | rfl | (refine congrArg (fun b => T.v (Value.bool b)) ?_; first | rfl | exact (decide_eq_true (by omega)).symm | exact (decide_eq_false (by omega)).symm | exact decide_eq_decide.2 (by omega)) | (refine congrArg (fun b => T.v (Value.int _ b)) ?_; first | rfl | omega) | omega)) | (first | rfl | (refine congrArg (fun b => T.v (Value.bool b)) ?_; first | rfl | exact (decide_eq_true (by omega)).symm | exact (decide_eq_false (by omega)).symm | exact decide_eq_decide.2 (by omega)) | (refine congrArg (fun b => T.v (Value.int _ b)) ?_; first | rfl | omega) | omega))
theorem eCf_ok : eCf.ok Try.prog glR := ⟨Am.enters_of Try.func25 (by kernel_rfl) (by kernel_rfl), by
  intro args c t bs h hc
  simp only [eCf] at h
  split at h
  · split at h
    · rename_i hf
      have hf := Nat.eq_of_beq_eq_true hf
      subst hf
      cases h
      exact cf_pure _ _
    · cases h
  · cases h⟩
noncomputable def ctxDz (P : Program) : Ctx := ctx P glR [eCf] [] (noEq P) [] (fun _ h => by cases h)
theorem ctxDz_good : (ctxDz Try.prog).good := ctx_good (by kernel_rfl) (AllOk.mem ⟨eCf_ok, trivial⟩) glR_two
set_option maxRecDepth 100000 in
theorem dzero_pure (n : Nat) (xs : List Int) : Pure Try.prog glR 16 [.fl [.u64] n xs] (.v (.bool (zB xs))) := by
  have e : zB xs = !(!zB xs) := by simp
  rw [e]
  refine pure_of (C := ctxDz Try.prog) ctxDz_good Try.func16 (c := bodyOf Try.f16) (by rfl) (Nat.le_of_ble_eq_true (by rfl)) 4 0 [0, 2] ?_
  conv => whnf
  repeat' (first | exact trivial | exact rfl | (refine And.intro ?_ ?_) | ((conv => whnf); done) | ((conv => whnf); (first | rfl | (refine congrArg (fun b => T.v (Value.bool b)) ?_; first | rfl | exact (decide_eq_true (by omega)).symm | exact (decide_eq_false (by omega)).symm | exact decide_eq_decide.2 (by omega)) | (refine congrArg (fun b => T.v (Value.int _ b)) ?_; first | rfl | omega) | omega)) | (first | rfl | (refine congrArg (fun b => T.v (Value.bool b)) ?_; first | rfl | exact (decide_eq_true (by omega)).symm | exact (decide_eq_false (by omega)).symm | exact decide_eq_decide.2 (by omega)) | (refine congrArg (fun b => T.v (Value.int _ b)) ?_; first | rfl | omega) | omega))
def eDZero : Entry := ⟨16, 6, fun l => match l with | [.fl [.u64] n xs] => some (none, .v (.bool (zB xs)), []) | _ => none⟩
theorem eDZero_ok : eDZero.ok Try.prog glR := ⟨Am.enters_of Try.func16 (by kernel_rfl) (by kernel_rfl), by
  intro args c t bs h hc
  simp only [eDZero] at h
  split at h <;> cases h
  exact dzero_pure _ _⟩
/-! ### words and writes of raw numbers -/
def AllI (xs : List Int) : Prop := ∀ x ∈ xs, I64 x
theorem AllI.at {xs : List Int} (h : AllI xs) {i : Nat} (hi : i < xs.length) : I64 (xs.getD i 0) := by
  rw [List.getD_eq_getElem?_getD, List.getElem?_eq_getElem hi]; exact h _ (List.getElem_mem hi)
def wrd (raw : List Int) (j n : Nat) : List Int := (raw.take j).map (fun x => ipick x 4) ++ List.replicate (n - j) 0
/-- So many words of raw numbers. -/
def wrdS (raw : List Int) (n : Nat) : List Int := wrd raw (min n raw.length) n
theorem wrd_len {raw : List Int} {j n : Nat} (h1 : j ≤ raw.length) (h2 : j ≤ n) : (wrd raw j n).length = n := by unfold wrd; simp; omega
theorem wrdS_len (raw : List Int) (n : Nat) : (wrdS raw n).length = n := wrd_len (Nat.min_le_right ..) (Nat.min_le_left ..)
theorem wrd_set {raw : List Int} {j n : Nat} (h1 : j < raw.length) (h2 : j < n) : (wrd raw j n).set j (ipick (raw.getD j 0) 4) = wrd raw (j + 1) n := by
  have l1 : ((raw.take j).map fun x => ipick x 4).length = j := by simp; omega
  unfold wrd
  rw [List.set_append_right _ _ (by omega), l1, Nat.sub_self, show n - j = (n - (j + 1)) + 1 by omega, List.replicate_succ, List.set_cons_zero, take_snoc h1, List.map_append, List.append_assoc]
  rfl
noncomputable def ctxWd (P : Program) : Ctx := ctx P glR [ePick05] [] (noEq P) [] (fun _ h => by cases h)
theorem ctxWd_good : (ctxWd Try.prog).good := ctx_good (by kernel_rfl) (AllOk.mem ⟨ePick05_ok, trivial⟩) glR_two
set_option maxRecDepth 100000 in
theorem words_pure (m n : Nat) (raw : List Int) (hn : n ≤ 4096) (hr : AllI raw) : Pure Try.prog glR 9 [.fl [.i64] m raw, .v (.int .i64 n)] (.ow 0 1 n) [(0, .fl [.u64] (wrdS raw n))] := by
  refine pure_wf fun hw => ?_
  obtain ⟨⟨w1, w2⟩, -⟩ := hw
  simp only [List.length_cons, List.length_nil, Nat.zero_add, Nat.mul_one] at w1
  refine pure_of (C := ctxWd Try.prog) ctxWd_good Try.func9 (c := bodyOf Try.f9) (by rfl) (Nat.le_of_ble_eq_true (by rfl)) 4 0 [0, 1, 4, 5, 6, 17] ?_
  conv => whnf
  refine And.intro ⟨by omega, by omega, by omega⟩ ?_
  conv => whnf
  rw [Int.toNat_natCast, show List.replicate (mulN n (0 + 1)) 0 = wrd raw 0 n by rw [mulN_eq]; unfold wrd; simp]
  refine TW.loopD ctxWd_good 0 (base := 0) (lv := [0, 1, 4, 5, 6, 17]) [6] [32] [(32, 32)] (fun j : Nat => [.v (.int .i64 j)]) (fun j => [.fl [.u64] (wrd raw j n)]) (fun j => j ≤ n ∧ j ≤ m) (fun j => n - j) ?_
  conv => whnf
  refine ⟨⟨0, ⟨rfl, rfl, rfl⟩, by omega, by omega⟩, fun j ⟨hj, hz⟩ => ?_⟩
  conv => whnf
  refine ifB_dec (fun h => ?_) (fun h => ?_)
  · conv => whnf
    refine ifB_dec (fun h1 => ?_) (fun h1 => ?_)
    · conv => whnf
      refine And.intro (by omega) ?_
      conv => whnf
      have E1 : 0 + (j : Int).toNat * (0 + 1) = j := by omega
      have hI : I64 (raw.getD j 0) := hr.at (by omega)
      obtain ⟨p1, p2⟩ := ipick_bounds (raw.getD j 0) (n := 4) (by decide)
      rw [E1]
      refine And.intro ⟨hI, by decide, by decide⟩ ?_
      conv => whnf
      repeat (refine And.intro (by omega) ?_; conv => whnf)
      rw [wrapU (a := ipick (raw.getD j 0) 4) (by omega) (by omega), wsucc (j := j) (n := n) (by omega) (by omega), addN_eq, show 0 + (0 + (j : Int).toNat) * (0 + 1) + 0 = j by omega, wrd_set (by omega) (by omega)]
      exact ⟨j + 1, [(32, 32)], ⟨rfl, rfl, rfl⟩, ⟨by omega, by omega⟩, by (try dsimp only); omega⟩
    · conv => whnf
      rw [show wrd raw j n = wrdS raw n by unfold wrdS; rw [show min n raw.length = j by omega]]
      repeat' (first | exact trivial | exact rfl | (refine And.intro ?_ ?_) | ((conv => whnf); done) | ((conv => whnf); (first | rfl | (refine congrArg (fun b => T.v (Value.bool b)) ?_; first | rfl | exact (decide_eq_true (by omega)).symm | exact (decide_eq_false (by omega)).symm | exact decide_eq_decide.2 (by omega)) | (refine congrArg (fun b => T.v (Value.int _ b)) ?_; first | rfl | omega) | omega)) | (first | rfl | (refine congrArg (fun b => T.v (Value.bool b)) ?_; first | rfl | exact (decide_eq_true (by omega)).symm | exact (decide_eq_false (by omega)).symm | exact decide_eq_decide.2 (by omega)) | (refine congrArg (fun b => T.v (Value.int _ b)) ?_; first | rfl | omega) | omega))
  · conv => whnf
    rw [show wrd raw j n = wrdS raw n by unfold wrdS; rw [show min n raw.length = j by omega]]
    repeat' (first | exact trivial | exact rfl | (refine And.intro ?_ ?_) | ((conv => whnf); done) | ((conv => whnf); (first | rfl | (refine congrArg (fun b => T.v (Value.bool b)) ?_; first | rfl | exact (decide_eq_true (by omega)).symm | exact (decide_eq_false (by omega)).symm | exact decide_eq_decide.2 (by omega)) | (refine congrArg (fun b => T.v (Value.int _ b)) ?_; first | rfl | omega) | omega)) | (first | rfl | (refine congrArg (fun b => T.v (Value.bool b)) ?_; first | rfl | exact (decide_eq_true (by omega)).symm | exact (decide_eq_false (by omega)).symm | exact decide_eq_decide.2 (by omega)) | (refine congrArg (fun b => T.v (Value.int _ b)) ?_; first | rfl | omega) | omega))
def eWords : Entry := ⟨9, 4, fun l => match l with | [.fl [.i64] m raw, .v (.int .i64 n)] => some (some (0 ≤ n ∧ n ≤ 4096 ∧ AllI raw), .ow 0 1 n.toNat, [(0, .fl [.u64] (wrdS raw n.toNat))]) | _ => none⟩
theorem eWords_ok : eWords.ok Try.prog glR := ⟨Am.enters_of Try.func9 (by kernel_rfl) (by kernel_rfl), by
  intro args c t bs h hc
  simp only [eWords] at h
  split at h <;> cases h
  replace hc := hc _ rfl
  exact (by obtain ⟨n, rfl⟩ := Int.eq_ofNat_of_zero_le hc.1; exact words_pure _ n _ (by omega) hc.2.2)⟩
/-- Writes of raw numbers, at n places from base on. -/
def wrs (L : List R) (base : Int) (n j : Nat) : List R := (L.take j).map fun r => (base + ipick r.1 n, ipick r.2 4)
def wrsS (L : List R) (base : Int) (n : Nat) : List R := if n = 0 then [] else wrs L base n 20
theorem wrs_len (L : List R) (base : Int) (n j : Nat) : (wrs L base n j).length = min j L.length := by unfold wrs; simp
theorem take_snocR {T : List R} {j : Nat} (h : j < T.length) : T.take (j + 1) = T.take j ++ [gR T j] := by
  rw [List.take_add_one]; unfold gR; rw [List.getD_eq_getElem?_getD, List.getElem?_eq_getElem h]; rfl
theorem wrs_succ {L : List R} {j : Nat} (base : Int) (n : Nat) (h : j < L.length) : wrs L base n (j + 1) = wrs L base n j ++ [(base + ipick (kR L j) n, ipick (gR L j).2 4)] := by
  unfold wrs; rw [take_snocR h, List.map_append]; rfl
theorem recs2_get {m j : Nat} {xs : List Int} (h : j < m) : gR (recs m 2 xs) j = (xs.getD (j * 2) 0, xs.getD (j * 2 + 1) 0) := by rw [recs_get xs h]; rfl
attribute [local irreducible] recs wrs
set_option maxHeartbeats 1000000 in
set_option maxRecDepth 100000 in
theorem writes_pure (m n : Nat) (raw : List Int) (base : Int) (hb : 0 ≤ base ∧ base ≤ 4096) (hn : n ≤ 4096) (hr : AllI raw) : Pure Try.prog glR 10 [.fl [.i64, .i64] m raw, .v (.int .i64 base), .v (.int .i64 n)] (.ow 0 2 (wrsS (recs m 2 raw) base n).length) [(0, .fl [.i64, .u64] (flat 2 (wrsS (recs m 2 raw) base n)))] := by
  refine pure_wf fun hw => ?_
  obtain ⟨⟨w1, w2⟩, -⟩ := hw
  simp only [List.length_cons, List.length_nil, Nat.zero_add, Nat.mul_one] at w1
  have hLl := recs_len m 2 raw
  have hLg : ∀ j, j < m → gR (recs m 2 raw) j = (raw.getD (j * 2) 0, raw.getD (j * 2 + 1) 0) := fun j hj => recs2_get hj
  generalize recs m 2 raw = L at *
  refine pure_of (C := ctxWd Try.prog) ctxWd_good Try.func10 (c := bodyOf Try.f10) (by rfl) (Nat.le_of_ble_eq_true (by rfl)) 4 0 [0, 1, 2, 6, 7, 8, 20] ?_
  conv => whnf
  refine TW.nilOwn 7 5000 2 (.fl [.i64, .u64] []) rfl rfl (.inr ⟨_, _, rfl⟩) (by decide) ?_
  refine TW.loopD ctxWd_good 0 (base := 0) (lv := [0, 1, 2, 6, 7, 8, 20]) [7, 8] [5000] [(5000, 5000)] (fun x : Nat × List R => [.ow 5000 2 x.2.length, .v (.int .i64 x.1)]) (fun x => [.fl [.i64, .u64] (flat 2 x.2)]) (fun x => x.1 ≤ m ∧ x.1 ≤ 20 ∧ x.2 = wrs L base n x.1 ∧ x.2.length = x.1 ∧ (n = 0 → x.1 = 0)) (fun x => m - x.1) ?_
  conv => whnf
  refine ⟨⟨(0, []), ⟨rfl, rfl, rfl⟩, Nat.zero_le _, Nat.zero_le _, by unfold wrs; rfl, rfl, fun _ => rfl⟩, fun ⟨j, U⟩ ⟨hj, hj2, hU, hUl, hn0⟩ => ?_⟩
  replace hj : j ≤ m := hj
  replace hj2 : j ≤ 20 := hj2
  replace hU : U = wrs L base n j := hU
  replace hUl : U.length = j := hUl
  replace hn0 : n = 0 → j = 0 := hn0
  conv => whnf
  refine ifB_dec (fun h => ?_) (fun h => ?_)
  · replace h : (j : Int) < m := h
    have hLj := hLg j (by omega)
    have hws := wrs_succ base n (L := L) (j := j) (by omega)
    conv => whnf
    refine ifB_dec (fun h2 => ?_) (fun h2 => ?_)
    · replace h2 : (j : Int) < 20 := h2
      conv => whnf
      refine ifB_dec (fun h3 => ?_) (fun h3 => ?_)
      · replace h3 : (0 : Int) < n := h3
        conv => whnf
        repeat (refine And.intro (by first | omega | (dsimp only; omega)) ?_; conv => whnf)
        have E0 : raw.getD (0 + (((j, U) : Nat × List R).1 : Int).toNat * (1 + 1)) 0 = kR L j := by
          unfold kR; rw [hLj, show 0 + (((j, U) : Nat × List R).1 : Int).toNat * (1 + 1) = j * 2 by dsimp only; omega]
        have E2 : raw.getD (0 + 1 + (((j, U) : Nat × List R).1 : Int).toNat * (1 + 1)) 0 = (gR L j).2 := by
          rw [hLj, show 0 + 1 + (((j, U) : Nat × List R).1 : Int).toNat * (1 + 1) = j * 2 + 1 by dsimp only; omega]
        have i0 : I64 (kR L j) := by unfold kR; rw [hLj]; exact hr.at (by omega)
        have i1 : I64 (gR L j).2 := by rw [hLj]; exact hr.at (by omega)
        rw [E0]
        refine And.intro ⟨i0, h3, by omega⟩ ?_
        conv => whnf
        repeat (refine And.intro (by first | omega | (dsimp only; omega)) ?_; conv => whnf)
        rw [E2]
        refine And.intro ⟨i1, by decide, by decide⟩ ?_
        conv => whnf
        generalize kR L j = A at *
        generalize (gR L j).2 = B at *
        obtain ⟨p1, p2⟩ := ipick_bounds A (n := n) (by omega)
        obtain ⟨p3, p4⟩ := ipick_bounds B (n := 4) (by decide)
        generalize ipick A n = a at *
        generalize ipick B 4 = b at *
        repeat (refine And.intro (by first | omega | (show U.length + 1 ≤ 1099511627776; omega)) ?_; conv => whnf)
        rw [wsucc (j := j) (n := m) (by omega) w2, wrap64 (a := base + a) (by omega) (by omega), wrapU (a := b) (by omega) (by omega)]
        refine ⟨(j + 1, U ++ [(base + a, b)]), [(168, 5000)], ⟨rfl, ?_, ?_⟩, ⟨(by omega : j + 1 ≤ m), (by omega : j + 1 ≤ 20), ?_, ?_, fun q => absurd q (by omega)⟩, by dsimp only; omega⟩
        · show _ = (7, Am.T.ow 5000 2 (U ++ [(base + a, b)]).length) :: _
          rw [List.length_append]; rfl
        · show _ = (5000, Blk.fl [.i64, .u64] (flat 2 (U ++ [(base + a, b)]))) :: _
          rw [flat_append]; rfl
        · dsimp only; rw [hU, hws]
        · dsimp only; rw [List.length_append, hUl]; rfl
      · replace h3 : ¬ (0 : Int) < n := h3
        conv => whnf
        have e : U = wrsS L base n := by
          rw [hU, hn0 (by omega)]; unfold wrsS; rw [if_pos (by omega)]; unfold wrs; rfl
        rw [← e]
        repeat' (first | exact trivial | exact rfl | (refine And.intro ?_ ?_) | ((conv => whnf); done) | ((conv => whnf); (first | rfl | (refine congrArg (fun b => T.v (Value.bool b)) ?_; first | rfl | exact (decide_eq_true (by omega)).symm | exact (decide_eq_false (by omega)).symm | exact decide_eq_decide.2 (by omega)) | (refine congrArg (fun b => T.v (Value.int _ b)) ?_; first | rfl | omega) | omega)) | (first | rfl | (refine congrArg (fun b => T.v (Value.bool b)) ?_; first | rfl | exact (decide_eq_true (by omega)).symm | exact (decide_eq_false (by omega)).symm | exact decide_eq_decide.2 (by omega)) | (refine congrArg (fun b => T.v (Value.int _ b)) ?_; first | rfl | omega) | omega))
    · replace h2 : ¬ (j : Int) < 20 := h2
      conv => whnf
      have e : U = wrsS L base n := by
        rw [hU]; unfold wrsS
        split
        · rename_i q; rw [hn0 q]; unfold wrs; rfl
        · rw [show j = 20 by omega]
      rw [← e]
      repeat' (first | exact trivial | exact rfl | (refine And.intro ?_ ?_) | ((conv => whnf); done) | ((conv => whnf); (first | rfl | (refine congrArg (fun b => T.v (Value.bool b)) ?_; first | rfl | exact (decide_eq_true (by omega)).symm | exact (decide_eq_false (by omega)).symm | exact decide_eq_decide.2 (by omega)) | (refine congrArg (fun b => T.v (Value.int _ b)) ?_; first | rfl | omega) | omega)) | (first | rfl | (refine congrArg (fun b => T.v (Value.bool b)) ?_; first | rfl | exact (decide_eq_true (by omega)).symm | exact (decide_eq_false (by omega)).symm | exact decide_eq_decide.2 (by omega)) | (refine congrArg (fun b => T.v (Value.int _ b)) ?_; first | rfl | omega) | omega))
  · replace h : ¬ (j : Int) < m := h
    conv => whnf
    have e : U = wrsS L base n := by
      rw [hU]; unfold wrsS
      split
      · rename_i q; rw [hn0 q]; unfold wrs; rfl
      · unfold wrs; rw [List.take_of_length_le (by omega), List.take_of_length_le (by omega)]
    rw [← e]
    repeat' (first | exact trivial | exact rfl | (refine And.intro ?_ ?_) | ((conv => whnf); done) | ((conv => whnf); (first | rfl | (refine congrArg (fun b => T.v (Value.bool b)) ?_; first | rfl | exact (decide_eq_true (by omega)).symm | exact (decide_eq_false (by omega)).symm | exact decide_eq_decide.2 (by omega)) | (refine congrArg (fun b => T.v (Value.int _ b)) ?_; first | rfl | omega) | omega)) | (first | rfl | (refine congrArg (fun b => T.v (Value.bool b)) ?_; first | rfl | exact (decide_eq_true (by omega)).symm | exact (decide_eq_false (by omega)).symm | exact decide_eq_decide.2 (by omega)) | (refine congrArg (fun b => T.v (Value.int _ b)) ?_; first | rfl | omega) | omega))
def eWrites : Entry := ⟨10, 4, fun l => match l with | [.fl [.i64, .i64] m raw, .v (.int .i64 base), .v (.int .i64 n)] => some (some ((0 ≤ base ∧ base ≤ 4096) ∧ (0 ≤ n ∧ n ≤ 4096) ∧ AllI raw), .ow 0 2 (wrsS (recs m 2 raw) base n.toNat).length, [(0, .fl [.i64, .u64] (flat 2 (wrsS (recs m 2 raw) base n.toNat)))]) | _ => none⟩
theorem eWrites_ok : eWrites.ok Try.prog glR := ⟨Am.enters_of Try.func10 (by kernel_rfl) (by kernel_rfl), by
  intro args c t bs h hc
  simp only [eWrites] at h
  split at h <;> cases h
  replace hc := hc _ rfl
  exact (by obtain ⟨n, rfl⟩ := Int.eq_ofNat_of_zero_le hc.2.1.1; exact writes_pure _ n _ _ hc.1 (by omega) hc.2.2)⟩
end Go.Proofs.Yteinekidpokbpaa.DfT
