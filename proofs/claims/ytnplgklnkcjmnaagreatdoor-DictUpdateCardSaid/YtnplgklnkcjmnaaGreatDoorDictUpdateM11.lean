/- Texts put together: DcJ, DcK, DcL, DcM, DcN, DcO. -/
import Derived.Test.YtnplgklnkcjmnaaGreatDoorDictUpdateM10
namespace Go.Proofs.YtnplgklnkcjmnaaGreatDoor.DcT
open Go.RowKit Go.Proofs.YtnplgklnkcjmnaaGreatDoor.Am Go.Proofs.YtnplgklnkcjmnaaGreatDoor Go.Proofs.YtnplgklnkcjmnaaGreatDoor.PrT
set_option linter.unusedVariables false
set_option linter.unusedSimpArgs false


noncomputable def ePairs : Entry := ⟨16, 8, fun l => match l with
  | [.agg [.v (.int .i64 k), .v (.int .i64 p), .v (.int .i64 n)], .fl [.u64] q w] => some (some (AllU w ∧ q ≤ 10000), .tup [.ow 0 2 (opK 2 3 k p n w).length, .v (.int .i64 (opE 2 3 k p n w))], [(0, .fl [.u64, .u64] (flat 2 (prD (opK 2 3 k p n w) (opV 2 3 k p n w))))])
  | _ => none⟩
theorem ePairs_ok : ePairs.ok Tryz.prog glM := ⟨Am.enters_of Tryz.func16 (by kernel_rfl) (by kernel_rfl), by
  intro args c t bs h hc
  simp only [ePairs] at h
  split at h <;> cases h
  obtain ⟨h1, h2⟩ := hc _ rfl
  exact pairs_pure _ _ _ _ _ h1 h2⟩
noncomputable def iCall : Inl := ⟨57, Tryz.f57, bodyOf Tryz.f57, [0, 1, 2, 4, 5, 6, 7, 8, 11, 14, 17]⟩
theorem iCall_ok : iCall.ok Tryz.prog := Inl.mk_ok Tryz.func57 (by rfl) (by kernel_rfl) (by kernel_rfl)
noncomputable def iCall1 : Inl := ⟨90, Tryz.f90, bodyOf Tryz.f90, [0, 1, 3, 4, 5, 6]⟩
theorem iCall1_ok : iCall1.ok Tryz.prog := Inl.mk_ok Tryz.func90 (by rfl) (by kernel_rfl) (by kernel_rfl)
noncomputable def iCall2 : Inl := ⟨92, Tryz.f92, bodyOf Tryz.f92, [0, 1, 2, 4, 5, 6, 7]⟩
theorem iCall2_ok : iCall2.ok Tryz.prog := Inl.mk_ok Tryz.func92 (by rfl) (by kernel_rfl) (by kernel_rfl)
noncomputable def iCall3 : Inl := ⟨93, Tryz.f93, bodyOf Tryz.f93, [0, 1, 3, 4, 5, 6, 13]⟩
theorem iCall3_ok : iCall3.ok Tryz.prog := Inl.mk_ok Tryz.func93 (by rfl) (by kernel_rfl) (by kernel_rfl)
noncomputable def iCall4 : Inl := ⟨95, Tryz.f95, bodyOf Tryz.f95, [0, 1, 2, 4, 5, 6, 8, 9, 10, 22]⟩
theorem iCall4_ok : iCall4.ok Tryz.prog := Inl.mk_ok Tryz.func95 (by rfl) (by kernel_rfl) (by kernel_rfl)
noncomputable def iUnless : Inl := ⟨91, Tryz.f91, bodyOf Tryz.f91, [0, 1, 4, 5]⟩
theorem iUnless_ok : iUnless.ok Tryz.prog := Inl.mk_ok Tryz.func91 (by rfl) (by kernel_rfl) (by kernel_rfl)
noncomputable def ctxApD_inl : List Inl := [iCall, iCall1, iCall2, iCall3, iCall4, iUnless, iPairs, iPairs1, iGet, iPut]
theorem ctxApD_inlOk : InlOk Tryz.prog ctxApD_inl := ⟨iCall_ok, iCall1_ok, iCall2_ok, iCall3_ok, iCall4_ok, iUnless_ok, iPairs_ok, iPairs1_ok, iGet_ok, iPut_ok, trivial⟩
noncomputable def ctxApD (P : Program) (h : InlOk P ctxApD_inl) : Ctx := ctx P glM [eOpenDY, eWordsD, eFindP, ePut, eDel, eList] [] (noEq P) ctxApD_inl h.mem
theorem ctxApD_good : (ctxApD Tryz.prog ctxApD_inlOk).good := ctx_good (by kernel_rfl) (AllOk.mem ⟨eOpenDY_ok, eWordsD_ok, eFindP_ok, ePut_ok, eDel_ok, eList_ok, trivial⟩) glM_two
attribute [local irreducible] fitsB rightT okD encT homeI tabT opK opV opE prD tabD upS recs fndP putL putE delL delE hereK atK insK delK nxK lstP rsK
section
variable {p : Int} {m q : Nat} {w : List Int} {code key val : Int}
/-- What is to be shown of a call. -/
def ApG (p : Int) (m q : Nat) (w : List Int) (code key val : Int) : Prop := Pure Tryz.prog glM 23 [.agg [.v (.int .i64 3), .v (.int .i64 p), .v (.int .i64 m)], .fl [.u64] q w, .agg [.v (.int .i64 code), .v (.int .u64 key), .v (.int .u64 val)]]
  (.tup [.ow 0 1 (encT 2 m (tabD 3 m (opK 2 3 3 p m w) (opV 2 3 3 p m w) code key val).1 (tabD 3 m (opK 2 3 3 p m w) (opV 2 3 3 p m w) code key val).2.1).length, .agg [.v (.int .i64 (tabD 3 m (opK 2 3 3 p m w) (opV 2 3 3 p m w) code key val).2.2.1), .v (.int .u64 (tabD 3 m (opK 2 3 3 p m w) (opV 2 3 3 p m w) code key val).2.2.2)], .v (.int .i64 0)])
  [(0, .fl [.u64] (encT 2 m (tabD 3 m (opK 2 3 3 p m w) (opV 2 3 3 p m w) code key val).1 (tabD 3 m (opK 2 3 3 p m w) (opV 2 3 3 p m w) code key val).2.1))]
variable (hu : AllU w) (e0 : opE 2 3 3 p m w = 0) (hf : fitsB 3 p m = true) (hT : TabV 3 m (opK 2 3 3 p m w) (opV 2 3 3 p m w)) (hk : U64 key) (hv : U64 val)
set_option maxHeartbeats 2000000 in
set_option maxRecDepth 100000 in
include hu e0 hf hT in
theorem ap_count : ApG p m q w 9 key val := by
  have hn := fitsK hf
  unfold ApG
  rw [tabD_count rfl]
  refine pure_of (C := ctxApD Tryz.prog ctxApD_inlOk) ctxApD_good Tryz.func23 (c := bodyOf Tryz.f23) (by rfl) (Nat.le_of_ble_eq_true (by rfl)) 4 5 [0, 1, 2, 3, 5, 6, 7, 8, 9, 10, 11, 12, 13, 21, 26, 47] ?_
  conv => whnf
  refine And.intro ⟨hu, e0⟩ ?_
  conv => whnf
  rw [Int.toNat_natCast]
  generalize opK 2 3 3 p m w = ks at *
  generalize opV 2 3 3 p m w = vs at *
  have hkl := hT.len
  have htb := hT.tb kv2
  have htu := htb.u
  have htl : (tabT 2 m ks vs).length = 4 * m := by rw [htb.len]; omega
  have hec : encT 2 m ks vs = (ks.length : Int) :: tabT 2 m ks vs := by unfold encT; rfl
  have hel : (encT 2 m ks vs).length = 1 + 4 * m := by rw [hT.enc_len kv2]; omega
  repeat (refine And.intro (by omega) ?_; conv => whnf)
  dsimp only
  rw [hel, hec]
  repeat' (first | exact trivial | exact rfl | (refine And.intro ?_ ?_) | ((conv => whnf); done) | ((conv => whnf); (first | rfl | (refine congrArg (fun b => T.v (Value.bool b)) ?_; first | rfl | exact (decide_eq_true (by omega)).symm | exact (decide_eq_false (by omega)).symm | exact decide_eq_decide.2 (by omega)) | (refine congrArg (fun b => T.v (Value.int _ b)) ?_; first | rfl | omega) | omega)) | (first | rfl | (refine congrArg (fun b => T.v (Value.bool b)) ?_; first | rfl | exact (decide_eq_true (by omega)).symm | exact (decide_eq_false (by omega)).symm | exact decide_eq_decide.2 (by omega)) | (refine congrArg (fun b => T.v (Value.int _ b)) ?_; first | rfl | omega) | omega))
set_option maxHeartbeats 2000000 in
set_option maxRecDepth 100000 in
include hu e0 hf hT in
theorem ap_other (h : code ≠ 9 ∧ code ≠ 10 ∧ code ≠ 11 ∧ code ≠ 7 ∧ code ≠ 8) : ApG p m q w code key val := by
  have hn := fitsK hf
  obtain ⟨h1, h2, h3, h4, h5⟩ := h
  have htd : tabD 3 m (opK 2 3 3 p m w) (opV 2 3 3 p m w) code key val = (opK 2 3 3 p m w, opV 2 3 3 p m w, 10, 0) := by
    by_cases hx : key ≤ 4611686018427387904
    · rw [tabD_mk kv2 h1 hx]
      unfold plcD
      rw [if_neg h4, if_neg h5, if_neg (fun q => by cases q.2), if_neg (fun q => h2 q.1), if_neg (fun q => by cases q.2), if_neg (fun q => h3 q.1)]
    · exact tabD_bad kv2 h1 hx
  unfold ApG
  rw [htd]
  refine pure_of (C := ctxApD Tryz.prog ctxApD_inlOk) ctxApD_good Tryz.func23 (c := bodyOf Tryz.f23) (by rfl) (Nat.le_of_ble_eq_true (by rfl)) 4 5 [0, 1, 2, 3, 5, 6, 7, 8, 9, 10, 11, 12, 13, 21, 26, 47] ?_
  conv => whnf
  refine And.intro ⟨hu, e0⟩ ?_
  conv => whnf
  rw [Int.toNat_natCast]
  generalize opK 2 3 3 p m w = ks at *
  generalize opV 2 3 3 p m w = vs at *
  have hkl := hT.len
  have htb := hT.tb kv2
  have htu := htb.u
  have htl : (tabT 2 m ks vs).length = 4 * m := by rw [htb.len]; omega
  have hec : encT 2 m ks vs = (ks.length : Int) :: tabT 2 m ks vs := by unfold encT; rfl
  have hel : (encT 2 m ks vs).length = 1 + 4 * m := by rw [hT.enc_len kv2]; omega
  dsimp only
  rw [hel, hec]
  refine ifB_f (by simpa using h1) ?_
  conv => whnf
  refine ifB_f (by simpa using h2) ?_
  conv => whnf
  refine ifB_f (by simpa using h3) ?_
  conv => whnf
  refine ifB_f (by simpa using h4) ?_
  conv => whnf
  refine ifB_f (by simpa using h5) ?_
  conv => whnf
  repeat (refine And.intro (by omega) ?_; conv => whnf)
  repeat' (first | exact trivial | exact rfl | (refine And.intro ?_ ?_) | ((conv => whnf); done) | ((conv => whnf); (first | rfl | (refine congrArg (fun b => T.v (Value.bool b)) ?_; first | rfl | exact (decide_eq_true (by omega)).symm | exact (decide_eq_false (by omega)).symm | exact decide_eq_decide.2 (by omega)) | (refine congrArg (fun b => T.v (Value.int _ b)) ?_; first | rfl | omega) | omega)) | (first | rfl | (refine congrArg (fun b => T.v (Value.bool b)) ?_; first | rfl | exact (decide_eq_true (by omega)).symm | exact (decide_eq_false (by omega)).symm | exact decide_eq_decide.2 (by omega)) | (refine congrArg (fun b => T.v (Value.int _ b)) ?_; first | rfl | omega) | omega))
set_option maxHeartbeats 2000000 in
set_option maxRecDepth 100000 in
include hu e0 hf hT in
theorem ap_big (hc : code = 10 ∨ code = 11 ∨ code = 7 ∨ code = 8) (hx : ¬ key ≤ 4611686018427387904) : ApG p m q w code key val := by
  have hn := fitsK hf
  unfold ApG
  rw [tabD_bad kv2 (by omega) hx]
  rcases hc with rfl | rfl | rfl | rfl
  all_goals (
    refine pure_of (C := ctxApD Tryz.prog ctxApD_inlOk) ctxApD_good Tryz.func23 (c := bodyOf Tryz.f23) (by rfl) (Nat.le_of_ble_eq_true (by rfl)) 4 5 [0, 1, 2, 3, 5, 6, 7, 8, 9, 10, 11, 12, 13, 21, 26, 47] ?_
    conv => whnf
    refine And.intro ⟨hu, e0⟩ ?_
    conv => whnf
    rw [Int.toNat_natCast]
    generalize opK 2 3 3 p m w = ks at *
    generalize opV 2 3 3 p m w = vs at *
    have hkl := hT.len
    have htb := hT.tb kv2
    have htu := htb.u
    have htl : (tabT 2 m ks vs).length = 4 * m := by rw [htb.len]; omega
    have hec : encT 2 m ks vs = (ks.length : Int) :: tabT 2 m ks vs := by unfold encT; rfl
    have hel : (encT 2 m ks vs).length = 1 + 4 * m := by rw [hT.enc_len kv2]; omega
    dsimp only
    rw [hel, hec]
    refine ifB_t (show (bif false then true else decide (key > 4611686018427387904)) = true from decide_eq_true (by omega)) ?_
    conv => whnf
    repeat (refine And.intro (by omega) ?_; conv => whnf)
    repeat' (first | exact trivial | exact rfl | (refine And.intro ?_ ?_) | ((conv => whnf); done) | ((conv => whnf); (first | rfl | (refine congrArg (fun b => T.v (Value.bool b)) ?_; first | rfl | exact (decide_eq_true (by omega)).symm | exact (decide_eq_false (by omega)).symm | exact decide_eq_decide.2 (by omega)) | (refine congrArg (fun b => T.v (Value.int _ b)) ?_; first | rfl | omega) | omega)) | (first | rfl | (refine congrArg (fun b => T.v (Value.bool b)) ?_; first | rfl | exact (decide_eq_true (by omega)).symm | exact (decide_eq_false (by omega)).symm | exact decide_eq_decide.2 (by omega)) | (refine congrArg (fun b => T.v (Value.int _ b)) ?_; first | rfl | omega) | omega)))
set_option maxHeartbeats 2000000 in
set_option maxRecDepth 100000 in
include hu e0 hf hT hk in
theorem ap_get (hx : key ≤ 4611686018427387904) : ApG p m q w 10 key val := by
  have hn := fitsK hf
  obtain ⟨u1, u2⟩ := id hk
  have e1 : IntKind.u64.wrap (key + 1) = key + 1 := wrapU (by omega) (by omega)
  have fG := fun ha => get_here hT (x := key) (val := val) hx ha
  have fN := fun ha => get_no hT (x := key) (val := val) hx ha
  obtain ⟨f1, f2⟩ := dfnd hT (by omega) (by omega) key (by omega)
  unfold ApG
  cases hh : hereK 3 (opK 2 3 3 p m w) key
  · rw [fN hh]
    have f2 := f2 hh
    refine pure_of (C := ctxApD Tryz.prog ctxApD_inlOk) ctxApD_good Tryz.func23 (c := bodyOf Tryz.f23) (by rfl) (Nat.le_of_ble_eq_true (by rfl)) 4 5 [0, 1, 2, 3, 5, 6, 7, 8, 9, 10, 11, 12, 13, 21, 26, 47] ?_
    conv => whnf
    refine And.intro ⟨hu, e0⟩ ?_
    conv => whnf
    rw [Int.toNat_natCast]
    generalize opK 2 3 3 p m w = ks at *
    generalize opV 2 3 3 p m w = vs at *
    have hkl := hT.len
    have htb := hT.tb kv2
    have htu := htb.u
    have htl : (tabT 2 m ks vs).length = 4 * m := by rw [htb.len]; omega
    have hec : encT 2 m ks vs = (ks.length : Int) :: tabT 2 m ks vs := by unfold encT; rfl
    have hel : (encT 2 m ks vs).length = 1 + 4 * m := by rw [hT.enc_len kv2]; omega
    dsimp only
    rw [hel, hec]
    refine ifB_f (show (bif false then true else decide (key > 4611686018427387904)) = false from decide_eq_false (by omega)) ?_
    conv => whnf
    refine And.intro ⟨by omega, htu⟩ ?_
    conv => whnf
    rw [e1, f2]
    conv => whnf
    repeat (refine And.intro (by omega) ?_; conv => whnf)
    repeat' (first | exact trivial | exact rfl | (refine And.intro ?_ ?_) | ((conv => whnf); done) | ((conv => whnf); (first | rfl | (refine congrArg (fun b => T.v (Value.bool b)) ?_; first | rfl | exact (decide_eq_true (by omega)).symm | exact (decide_eq_false (by omega)).symm | exact decide_eq_decide.2 (by omega)) | (refine congrArg (fun b => T.v (Value.int _ b)) ?_; first | rfl | omega) | omega)) | (first | rfl | (refine congrArg (fun b => T.v (Value.bool b)) ?_; first | rfl | exact (decide_eq_true (by omega)).symm | exact (decide_eq_false (by omega)).symm | exact decide_eq_decide.2 (by omega)) | (refine congrArg (fun b => T.v (Value.int _ b)) ?_; first | rfl | omega) | omega))
  · rw [fG hh]
    obtain ⟨pp, hp, f1, f3⟩ := f1 hh
    have hi2 : IntKind.i64.wrap (IntKind.i64.wrap ((pp : Int) * 2) + 1) = ((pp * 2 + 1 : Nat) : Int) := by
      rw [wrap64 (a := (pp : Int) * 2) (by omega) (by omega), wrap64 (by omega) (by omega)]; omega
    refine pure_of (C := ctxApD Tryz.prog ctxApD_inlOk) ctxApD_good Tryz.func23 (c := bodyOf Tryz.f23) (by rfl) (Nat.le_of_ble_eq_true (by rfl)) 4 5 [0, 1, 2, 3, 5, 6, 7, 8, 9, 10, 11, 12, 13, 21, 26, 47] ?_
    conv => whnf
    refine And.intro ⟨hu, e0⟩ ?_
    conv => whnf
    rw [Int.toNat_natCast]
    generalize opK 2 3 3 p m w = ks at *
    generalize opV 2 3 3 p m w = vs at *
    have hkl := hT.len
    have htb := hT.tb kv2
    have htu := htb.u
    have htl : (tabT 2 m ks vs).length = 4 * m := by rw [htb.len]; omega
    have hec : encT 2 m ks vs = (ks.length : Int) :: tabT 2 m ks vs := by unfold encT; rfl
    have hel : (encT 2 m ks vs).length = 1 + 4 * m := by rw [hT.enc_len kv2]; omega
    dsimp only
    rw [hel, hec]
    refine ifB_f (show (bif false then true else decide (key > 4611686018427387904)) = false from decide_eq_false (by omega)) ?_
    conv => whnf
    refine And.intro ⟨by omega, htu⟩ ?_
    conv => whnf
    rw [e1, f1]
    conv => whnf
    rw [if_neg (show ¬ (pp : Int) < 0 by omega), hi2]
    repeat (refine And.intro (by omega) ?_; conv => whnf)
    rw [show (tabT 2 m ks vs).getD (0 + addN 0 ((pp * 2 + 1 : Nat) : Int).toNat * (0 + 1)) 0 = vs.getD (atK 3 ks key) 0 by rw [addN_eq, show 0 + (0 + ((pp * 2 + 1 : Nat) : Int).toNat) * (0 + 1) = pp * 2 + 1 by omega]; exact f3]
    repeat' (first | exact trivial | exact rfl | (refine And.intro ?_ ?_) | ((conv => whnf); done) | ((conv => whnf); (first | rfl | (refine congrArg (fun b => T.v (Value.bool b)) ?_; first | rfl | exact (decide_eq_true (by omega)).symm | exact (decide_eq_false (by omega)).symm | exact decide_eq_decide.2 (by omega)) | (refine congrArg (fun b => T.v (Value.int _ b)) ?_; first | rfl | omega) | omega)) | (first | rfl | (refine congrArg (fun b => T.v (Value.bool b)) ?_; first | rfl | exact (decide_eq_true (by omega)).symm | exact (decide_eq_false (by omega)).symm | exact decide_eq_decide.2 (by omega)) | (refine congrArg (fun b => T.v (Value.int _ b)) ?_; first | rfl | omega) | omega))
set_option maxHeartbeats 2000000 in
set_option maxRecDepth 100000 in
include hu e0 hf hT hk hv in
theorem ap_put (hx : key ≤ 4611686018427387904) : ApG p m q w 11 key val := by
  have hn := fitsK hf
  obtain ⟨u1, u2⟩ := id hk
  have e1 : IntKind.u64.wrap (key + 1) = key + 1 := wrapU (by omega) (by omega)
  have uk1 : U64 (key + 1) := by unfold U64; omega
  have fH := fun ha => put_here hT (by omega) (by omega) (x := key) ⟨u1, hx⟩ hv ha
  have fN := fun ha => put_new hT (by omega) (by omega) (x := key) ⟨u1, hx⟩ hv ha
  have fF := fun ha => put_full hT (x := key) (val := val) ⟨u1, hx⟩ ha
  obtain ⟨f1, f2⟩ := dfnd hT (by omega) (by omega) key (by omega)
  unfold ApG
  cases hh : hereK 3 (opK 2 3 3 p m w) key
  · by_cases hl : (opK 2 3 3 p m w).length = m
    · rw [fF hh hl]
      have f2 := f2 hh
      refine pure_of (C := ctxApD Tryz.prog ctxApD_inlOk) ctxApD_good Tryz.func23 (c := bodyOf Tryz.f23) (by rfl) (Nat.le_of_ble_eq_true (by rfl)) 4 5 [0, 1, 2, 3, 5, 6, 7, 8, 9, 10, 11, 12, 13, 21, 26, 47] ?_
      conv => whnf
      refine And.intro ⟨hu, e0⟩ ?_
      conv => whnf
      rw [Int.toNat_natCast]
      generalize opK 2 3 3 p m w = ks at *
      generalize opV 2 3 3 p m w = vs at *
      have hkl := hT.len
      have htb := hT.tb kv2
      have htu := htb.u
      have htl : (tabT 2 m ks vs).length = 4 * m := by rw [htb.len]; omega
      have hec : encT 2 m ks vs = (ks.length : Int) :: tabT 2 m ks vs := by unfold encT; rfl
      have hel : (encT 2 m ks vs).length = 1 + 4 * m := by rw [hT.enc_len kv2]; omega
      dsimp only
      rw [hel, hec]
      refine ifB_f (show (bif false then true else decide (key > 4611686018427387904)) = false from decide_eq_false (by omega)) ?_
      conv => whnf
      refine And.intro ⟨by omega, htu⟩ ?_
      conv => whnf
      rw [e1, f2]
      conv => whnf
      refine ifB_t (show ((ks.length : Int) == m) = true by simp; omega) ?_
      conv => whnf
      repeat (refine And.intro (by omega) ?_; conv => whnf)
      repeat' (first | exact trivial | exact rfl | (refine And.intro ?_ ?_) | ((conv => whnf); done) | ((conv => whnf); (first | rfl | (refine congrArg (fun b => T.v (Value.bool b)) ?_; first | rfl | exact (decide_eq_true (by omega)).symm | exact (decide_eq_false (by omega)).symm | exact decide_eq_decide.2 (by omega)) | (refine congrArg (fun b => T.v (Value.int _ b)) ?_; first | rfl | omega) | omega)) | (first | rfl | (refine congrArg (fun b => T.v (Value.bool b)) ?_; first | rfl | exact (decide_eq_true (by omega)).symm | exact (decide_eq_false (by omega)).symm | exact decide_eq_decide.2 (by omega)) | (refine congrArg (fun b => T.v (Value.int _ b)) ?_; first | rfl | omega) | omega))
    · obtain ⟨hd, hT2, hP⟩ := fN hh hl
      rw [hd]
      have f2 := f2 hh
      refine pure_of (C := ctxApD Tryz.prog ctxApD_inlOk) ctxApD_good Tryz.func23 (c := bodyOf Tryz.f23) (by rfl) (Nat.le_of_ble_eq_true (by rfl)) 4 5 [0, 1, 2, 3, 5, 6, 7, 8, 9, 10, 11, 12, 13, 21, 26, 47] ?_
      conv => whnf
      refine And.intro ⟨hu, e0⟩ ?_
      conv => whnf
      rw [Int.toNat_natCast]
      generalize opK 2 3 3 p m w = ks at *
      generalize opV 2 3 3 p m w = vs at *
      have hkl := hT.len
      have htb := hT.tb kv2
      have htu := htb.u
      have htl : (tabT 2 m ks vs).length = 4 * m := by rw [htb.len]; omega
      have hec : encT 2 m ks vs = (ks.length : Int) :: tabT 2 m ks vs := by unfold encT; rfl
      have hel : (encT 2 m ks vs).length = 1 + 4 * m := by rw [hT.enc_len kv2]; omega
      have htl2 : (tabT 2 m (insK ks (atK 3 ks key) key) (insK vs (atK 3 ks key) val)).length = 4 * m := by rw [(hT2.tb kv2).len]; omega
      have hil := insK_len (l := ks) (a := atK 3 ks key) (w := key) (atK_le _ _ _)
      have hec2 : encT 2 m (insK ks (atK 3 ks key) key) (insK vs (atK 3 ks key) val) = ((ks.length + 1 : Nat) : Int) :: tabT 2 m (insK ks (atK 3 ks key) key) (insK vs (atK 3 ks key) val) := by unfold encT; rw [hil]
      have hel2 : (encT 2 m (insK ks (atK 3 ks key) key) (insK vs (atK 3 ks key) val)).length = 1 + 4 * m := by rw [hT2.enc_len kv2]; omega
      dsimp only
      rw [hel2, hec2]
      refine ifB_f (show (bif false then true else decide (key > 4611686018427387904)) = false from decide_eq_false (by omega)) ?_
      conv => whnf
      refine And.intro ⟨by omega, htu⟩ ?_
      conv => whnf
      rw [e1, f2]
      conv => whnf
      refine ifB_f (show ((ks.length : Int) == m) = false by simp; omega) ?_
      conv => whnf
      rw [e1]
      refine And.intro ⟨by omega, htu, uk1⟩ ?_
      conv => whnf
      rw [hP, htl2, show IntKind.u64.wrap ((ks.length : Int) + 1) = ((ks.length + 1 : Nat) : Int) by rw [wrapU (by omega) (by omega)]; omega]
      repeat (refine And.intro (by omega) ?_; conv => whnf)
      repeat' (first | exact trivial | exact rfl | (refine And.intro ?_ ?_) | ((conv => whnf); done) | ((conv => whnf); (first | rfl | (refine congrArg (fun b => T.v (Value.bool b)) ?_; first | rfl | exact (decide_eq_true (by omega)).symm | exact (decide_eq_false (by omega)).symm | exact decide_eq_decide.2 (by omega)) | (refine congrArg (fun b => T.v (Value.int _ b)) ?_; first | rfl | omega) | omega)) | (first | rfl | (refine congrArg (fun b => T.v (Value.bool b)) ?_; first | rfl | exact (decide_eq_true (by omega)).symm | exact (decide_eq_false (by omega)).symm | exact decide_eq_decide.2 (by omega)) | (refine congrArg (fun b => T.v (Value.int _ b)) ?_; first | rfl | omega) | omega))
  · obtain ⟨hd, hT2, hP⟩ := fH hh
    rw [hd]
    obtain ⟨pp, hp, f1, f3⟩ := f1 hh
    have hi2 : IntKind.i64.wrap (IntKind.i64.wrap ((pp : Int) * 2) + 1) = ((pp * 2 + 1 : Nat) : Int) := by
      rw [wrap64 (a := (pp : Int) * 2) (by omega) (by omega), wrap64 (by omega) (by omega)]; omega
    refine pure_of (C := ctxApD Tryz.prog ctxApD_inlOk) ctxApD_good Tryz.func23 (c := bodyOf Tryz.f23) (by rfl) (Nat.le_of_ble_eq_true (by rfl)) 4 5 [0, 1, 2, 3, 5, 6, 7, 8, 9, 10, 11, 12, 13, 21, 26, 47] ?_
    conv => whnf
    refine And.intro ⟨hu, e0⟩ ?_
    conv => whnf
    rw [Int.toNat_natCast]
    generalize opK 2 3 3 p m w = ks at *
    generalize opV 2 3 3 p m w = vs at *
    have hkl := hT.len
    have htb := hT.tb kv2
    have htu := htb.u
    have htl : (tabT 2 m ks vs).length = 4 * m := by rw [htb.len]; omega
    have hec : encT 2 m ks vs = (ks.length : Int) :: tabT 2 m ks vs := by unfold encT; rfl
    have hel : (encT 2 m ks vs).length = 1 + 4 * m := by rw [hT.enc_len kv2]; omega
    have htl2 : (tabT 2 m ks (vs.set (atK 3 ks key) val)).length = 4 * m := by rw [(hT2.tb kv2).len]; omega
    have hec2 : encT 2 m ks (vs.set (atK 3 ks key) val) = (ks.length : Int) :: tabT 2 m ks (vs.set (atK 3 ks key) val) := by unfold encT; rfl
    have hel2 : (encT 2 m ks (vs.set (atK 3 ks key) val)).length = 1 + 4 * m := by rw [hT2.enc_len kv2]; omega
    dsimp only
    rw [hel2, hec2]
    refine ifB_f (show (bif false then true else decide (key > 4611686018427387904)) = false from decide_eq_false (by omega)) ?_
    conv => whnf
    refine And.intro ⟨by omega, htu⟩ ?_
    conv => whnf
    rw [e1, f1]
    conv => whnf
    rw [if_neg (show ¬ (pp : Int) < 0 by omega), hi2]
    repeat (refine And.intro (by omega) ?_; conv => whnf)
    rw [e1, show (tabT 2 m ks vs).getD (0 + addN 0 ((pp * 2 + 1 : Nat) : Int).toNat * (0 + 1)) 0 = vs.getD (atK 3 ks key) 0 by rw [addN_eq, show 0 + (0 + ((pp * 2 + 1 : Nat) : Int).toNat) * (0 + 1) = pp * 2 + 1 by omega]; exact f3]
    refine And.intro ⟨by omega, htu, uk1⟩ ?_
    conv => whnf
    rw [hP, htl2]
    repeat (refine And.intro (by omega) ?_; conv => whnf)
    repeat' (first | exact trivial | exact rfl | (refine And.intro ?_ ?_) | ((conv => whnf); done) | ((conv => whnf); (first | rfl | (refine congrArg (fun b => T.v (Value.bool b)) ?_; first | rfl | exact (decide_eq_true (by omega)).symm | exact (decide_eq_false (by omega)).symm | exact decide_eq_decide.2 (by omega)) | (refine congrArg (fun b => T.v (Value.int _ b)) ?_; first | rfl | omega) | omega)) | (first | rfl | (refine congrArg (fun b => T.v (Value.bool b)) ?_; first | rfl | exact (decide_eq_true (by omega)).symm | exact (decide_eq_false (by omega)).symm | exact decide_eq_decide.2 (by omega)) | (refine congrArg (fun b => T.v (Value.int _ b)) ?_; first | rfl | omega) | omega))
set_option maxHeartbeats 2000000 in
set_option maxRecDepth 100000 in
include hu e0 hf hT hk hv in
theorem ap_del (hx : key ≤ 4611686018427387904) : ApG p m q w 7 key val := by
  have hn := fitsK hf
  obtain ⟨u1, u2⟩ := id hk
  have e1 : IntKind.u64.wrap (key + 1) = key + 1 := wrapU (by omega) (by omega)
  have fH := fun ha => del_here hT (by omega) (by omega) (x := key) ⟨u1, hx⟩ hv ha
  have fN := fun ha => del_no (ks := opK 2 3 3 p m w) (vs := opV 2 3 3 p m w) (m := m) kv2 (x := key) (val := val) hx ha
  obtain ⟨f1, f2⟩ := dfnd hT (by omega) (by omega) key (by omega)
  unfold ApG
  cases hh : hereK 3 (opK 2 3 3 p m w) key
  · rw [fN hh]
    have f2 := f2 hh
    refine pure_of (C := ctxApD Tryz.prog ctxApD_inlOk) ctxApD_good Tryz.func23 (c := bodyOf Tryz.f23) (by rfl) (Nat.le_of_ble_eq_true (by rfl)) 4 5 [0, 1, 2, 3, 5, 6, 7, 8, 9, 10, 11, 12, 13, 21, 26, 47] ?_
    conv => whnf
    refine And.intro ⟨hu, e0⟩ ?_
    conv => whnf
    rw [Int.toNat_natCast]
    generalize opK 2 3 3 p m w = ks at *
    generalize opV 2 3 3 p m w = vs at *
    have hkl := hT.len
    have htb := hT.tb kv2
    have htu := htb.u
    have htl : (tabT 2 m ks vs).length = 4 * m := by rw [htb.len]; omega
    have hec : encT 2 m ks vs = (ks.length : Int) :: tabT 2 m ks vs := by unfold encT; rfl
    have hel : (encT 2 m ks vs).length = 1 + 4 * m := by rw [hT.enc_len kv2]; omega
    dsimp only
    rw [hel, hec]
    refine ifB_f (show (bif false then true else decide (key > 4611686018427387904)) = false from decide_eq_false (by omega)) ?_
    conv => whnf
    refine And.intro ⟨by omega, htu⟩ ?_
    conv => whnf
    rw [e1, f2]
    conv => whnf
    repeat (refine And.intro (by omega) ?_; conv => whnf)
    repeat' (first | exact trivial | exact rfl | (refine And.intro ?_ ?_) | ((conv => whnf); done) | ((conv => whnf); (first | rfl | (refine congrArg (fun b => T.v (Value.bool b)) ?_; first | rfl | exact (decide_eq_true (by omega)).symm | exact (decide_eq_false (by omega)).symm | exact decide_eq_decide.2 (by omega)) | (refine congrArg (fun b => T.v (Value.int _ b)) ?_; first | rfl | omega) | omega)) | (first | rfl | (refine congrArg (fun b => T.v (Value.bool b)) ?_; first | rfl | exact (decide_eq_true (by omega)).symm | exact (decide_eq_false (by omega)).symm | exact decide_eq_decide.2 (by omega)) | (refine congrArg (fun b => T.v (Value.int _ b)) ?_; first | rfl | omega) | omega))
  · obtain ⟨hd, hT2, hP⟩ := fH hh
    rw [hd]
    obtain ⟨a1, -⟩ := hereK_t hh
    obtain ⟨pp, hp, f1, f3⟩ := f1 hh
    have hi2 : IntKind.i64.wrap (IntKind.i64.wrap ((pp : Int) * 2) + 1) = ((pp * 2 + 1 : Nat) : Int) := by
      rw [wrap64 (a := (pp : Int) * 2) (by omega) (by omega), wrap64 (by omega) (by omega)]; omega
    refine pure_of (C := ctxApD Tryz.prog ctxApD_inlOk) ctxApD_good Tryz.func23 (c := bodyOf Tryz.f23) (by rfl) (Nat.le_of_ble_eq_true (by rfl)) 4 5 [0, 1, 2, 3, 5, 6, 7, 8, 9, 10, 11, 12, 13, 21, 26, 47] ?_
    conv => whnf
    refine And.intro ⟨hu, e0⟩ ?_
    conv => whnf
    rw [Int.toNat_natCast]
    generalize opK 2 3 3 p m w = ks at *
    generalize opV 2 3 3 p m w = vs at *
    have hkl := hT.len
    have htb := hT.tb kv2
    have htu := htb.u
    have htl : (tabT 2 m ks vs).length = 4 * m := by rw [htb.len]; omega
    have hec : encT 2 m ks vs = (ks.length : Int) :: tabT 2 m ks vs := by unfold encT; rfl
    have hel : (encT 2 m ks vs).length = 1 + 4 * m := by rw [hT.enc_len kv2]; omega
    have htl2 : (tabT 2 m (delK ks (atK 3 ks key)) (delK vs (atK 3 ks key))).length = 4 * m := by rw [(hT2.tb kv2).len]; omega
    have hil := delK_len (l := ks) (a := atK 3 ks key) a1
    have hec2 : encT 2 m (delK ks (atK 3 ks key)) (delK vs (atK 3 ks key)) = ((ks.length - 1 : Nat) : Int) :: tabT 2 m (delK ks (atK 3 ks key)) (delK vs (atK 3 ks key)) := by unfold encT; rw [hil]
    have hel2 : (encT 2 m (delK ks (atK 3 ks key)) (delK vs (atK 3 ks key))).length = 1 + 4 * m := by rw [hT2.enc_len kv2]; omega
    dsimp only
    rw [hel2, hec2]
    refine ifB_f (show (bif false then true else decide (key > 4611686018427387904)) = false from decide_eq_false (by omega)) ?_
    conv => whnf
    refine And.intro ⟨by omega, htu⟩ ?_
    conv => whnf
    rw [e1, f1]
    conv => whnf
    rw [if_neg (show ¬ (pp : Int) < 0 by omega), hi2]
    repeat (refine And.intro (by omega) ?_; conv => whnf)
    rw [e1, show (tabT 2 m ks vs).getD (0 + addN 0 ((pp * 2 + 1 : Nat) : Int).toNat * (0 + 1)) 0 = vs.getD (atK 3 ks key) 0 by rw [addN_eq, show 0 + (0 + ((pp * 2 + 1 : Nat) : Int).toNat) * (0 + 1) = pp * 2 + 1 by omega]; exact f3]
    refine And.intro ⟨by omega, htu⟩ ?_
    conv => whnf
    rw [hP, htl2, show IntKind.u64.wrap ((ks.length : Int) - 1) = ((ks.length - 1 : Nat) : Int) by rw [wrapU (by omega) (by omega)]; omega]
    repeat (refine And.intro (by omega) ?_; conv => whnf)
    repeat' (first | exact trivial | exact rfl | (refine And.intro ?_ ?_) | ((conv => whnf); done) | ((conv => whnf); (first | rfl | (refine congrArg (fun b => T.v (Value.bool b)) ?_; first | rfl | exact (decide_eq_true (by omega)).symm | exact (decide_eq_false (by omega)).symm | exact decide_eq_decide.2 (by omega)) | (refine congrArg (fun b => T.v (Value.int _ b)) ?_; first | rfl | omega) | omega)) | (first | rfl | (refine congrArg (fun b => T.v (Value.bool b)) ?_; first | rfl | exact (decide_eq_true (by omega)).symm | exact (decide_eq_false (by omega)).symm | exact decide_eq_decide.2 (by omega)) | (refine congrArg (fun b => T.v (Value.int _ b)) ?_; first | rfl | omega) | omega))
set_option maxHeartbeats 2000000 in
set_option maxRecDepth 100000 in
include hu e0 hf hT in
theorem ap_next (hx : key ≤ 4611686018427387904) : ApG p m q w 8 key val := by
  have hn := fitsK hf
  have fX := next_is (ks := opK 2 3 3 p m w) (vs := opV 2 3 3 p m w) (m := m) kv2 (x := key) (val := val) hx
  have hku := fun i hi => hT.k_u kv2 (i := i) hi
  have hls : lstP 2 (tabT 2 m (opK 2 3 3 p m w) (opV 2 3 3 p m w)) = rsK 2 (opK 2 3 3 p m w) (opV 2 3 3 p m w) := hT.lst kv2 (by omega) (by omega)
  have hrl := rsK_len 2 (opK 2 3 3 p m w) (opV 2 3 3 p m w)
  have fI := fun j hj h1 h2 => nx_is hT kv2 (x := key) (val := val) (j := j) hj h1 h2
  unfold ApG
  rw [fX]
  refine pure_of (C := ctxApD Tryz.prog ctxApD_inlOk) ctxApD_good Tryz.func23 (c := bodyOf Tryz.f23) (by rfl) (Nat.le_of_ble_eq_true (by rfl)) 4 5 [0, 1, 2, 3, 5, 6, 7, 8, 9, 10, 11, 12, 13, 21, 26, 47] ?_
  conv => whnf
  refine And.intro ⟨hu, e0⟩ ?_
  conv => whnf
  rw [Int.toNat_natCast]
  generalize opK 2 3 3 p m w = ks at *
  generalize opV 2 3 3 p m w = vs at *
  have hkl := hT.len
  have htb := hT.tb kv2
  have htu := htb.u
  have htl : (tabT 2 m ks vs).length = 4 * m := by rw [htb.len]; omega
  have hec : encT 2 m ks vs = (ks.length : Int) :: tabT 2 m ks vs := by unfold encT; rfl
  have hel : (encT 2 m ks vs).length = 1 + 4 * m := by rw [hT.enc_len kv2]; omega
  refine ifB_f (show (bif false then true else decide (key > 4611686018427387904)) = false from decide_eq_false (by omega)) ?_
  conv => whnf
  intro l
  conv => whnf
  repeat (refine And.intro (by first | omega | exact ⟨by omega, htu⟩) ?_; conv => whnf)
  rw [hls, hrl]
  refine TW.loopD ctxApD_good 4 (base := 7000000) (lv := [0, 1, 4, 9, 10, 11, 12, 22]) [11] [] [] (fun j : Nat => [.v (.int .i64 j)]) (fun _ => []) (fun j => j ≤ ks.length ∧ ∀ i, i < j → ¬ (ks.getD i 0 > key ∨ (ks.getD i 0 = key ∧ val = 0))) (fun j => ks.length - j) ?_
  conv => whnf
  refine ⟨⟨0, ⟨rfl, rfl, rfl⟩, Nat.zero_le _, fun i hi => by omega⟩, fun j ⟨hj, hg⟩ => ?_⟩
  conv => whnf
  refine ifB_dec (fun h => ?_) (fun h => ?_)
  · replace h : (j : Int) < ks.length := h
    obtain ⟨k1, k2⟩ := hku j (by omega)
    have E0 : (flat 2 (rsK 2 ks vs)).getD (0 + addN 0 (j : Int).toNat * (1 + 1) + 0) 0 = ks.getD j 0 + 1 := by
      rw [addN_eq, show 0 + (0 + (j : Int).toNat) * (1 + 1) + 0 = j * 2 by omega, flat_key (.inr rfl) _ (by rw [hrl]; omega)]
      unfold kR; rw [rsK_get 2 ks vs (by omega)]
    have e1 : IntKind.u64.wrap (ks.getD j 0 + 1 - 1) = ks.getD j 0 := by rw [wrapU (by omega) (by omega)]; omega
    have G0 : IntKind.u64.wrap ((([0, 0].set (0 + 0 * (1 + 1) + 0) ((flat 2 (rsK 2 ks vs)).getD (0 + addN 0 (j : Int).toNat * (1 + 1) + 0) 0)).set (0 + 0 * (1 + 1) + (0 + 1)) ((flat 2 (rsK 2 ks vs)).getD (0 + addN 0 (j : Int).toNat * (1 + 1) + (0 + 1)) 0)).getD (0 + 0 * (1 + 1)) 0 - 1) = ks.getD j 0 := by
      show IntKind.u64.wrap ((flat 2 (rsK 2 ks vs)).getD (0 + addN 0 (j : Int).toNat * (1 + 1) + 0) 0 - 1) = _
      rw [E0, e1]
    conv => whnf
    repeat (refine And.intro (by omega) ?_; conv => whnf)
    rw [G0]
    by_cases hgo : ks.getD j 0 > key ∨ (ks.getD j 0 = key ∧ val = 0)
    · have hnx := fI j (by omega) hg (fun _ => hgo)
      rw [hnx, if_neg (by omega)]
      dsimp only
      rw [hel, hec]
      by_cases hg1 : ks.getD j 0 > key
      · refine ifB_t (decide_eq_true hg1) ?_
        conv => whnf
        repeat (refine And.intro (by first | rfl | omega) ?_; conv => whnf)
        repeat' (first | exact trivial | exact rfl | (refine And.intro ?_ ?_) | ((conv => whnf); done) | ((conv => whnf); (first | rfl | (refine congrArg (fun b => T.v (Value.bool b)) ?_; first | rfl | exact (decide_eq_true (by omega)).symm | exact (decide_eq_false (by omega)).symm | exact decide_eq_decide.2 (by omega)) | (refine congrArg (fun b => T.v (Value.int _ b)) ?_; first | rfl | omega) | omega)) | (first | rfl | (refine congrArg (fun b => T.v (Value.bool b)) ?_; first | rfl | exact (decide_eq_true (by omega)).symm | exact (decide_eq_false (by omega)).symm | exact decide_eq_decide.2 (by omega)) | (refine congrArg (fun b => T.v (Value.int _ b)) ?_; first | rfl | omega) | omega))
      · obtain ⟨hg2, hg3⟩ := hgo.resolve_left hg1
        subst hg3
        refine ifB_f (decide_eq_false hg1) ?_
        conv => whnf
        refine ifB_t (show (ks.getD j 0 == key) = true from beq_iff_eq.2 hg2) ?_
        conv => whnf
        repeat (refine And.intro (by first | rfl | omega) ?_; conv => whnf)
        repeat' (first | exact trivial | exact rfl | (refine And.intro ?_ ?_) | ((conv => whnf); done) | ((conv => whnf); (first | rfl | (refine congrArg (fun b => T.v (Value.bool b)) ?_; first | rfl | exact (decide_eq_true (by omega)).symm | exact (decide_eq_false (by omega)).symm | exact decide_eq_decide.2 (by omega)) | (refine congrArg (fun b => T.v (Value.int _ b)) ?_; first | rfl | omega) | omega)) | (first | rfl | (refine congrArg (fun b => T.v (Value.bool b)) ?_; first | rfl | exact (decide_eq_true (by omega)).symm | exact (decide_eq_false (by omega)).symm | exact decide_eq_decide.2 (by omega)) | (refine congrArg (fun b => T.v (Value.int _ b)) ?_; first | rfl | omega) | omega))
    · have hg1 : ¬ ks.getD j 0 > key := fun q => hgo (.inl q)
      refine ifB_f (decide_eq_false hg1) ?_
      conv => whnf
      refine ifB_eq (x := ks.getD j 0) (y := key) (fun hg2 => ?_) (fun hg2 => ?_)
      · have hv0 : val ≠ 0 := fun q => hgo (.inr ⟨hg2, q⟩)
        conv => whnf
        refine ifB_f (show (bif false then true else (bif true then (val == 0) else false)) = false by simpa using hv0) ?_
        conv => whnf
        repeat (refine And.intro (by first | rfl | omega) ?_; conv => whnf)
        rw [wsucc (j := j) (n := ks.length) (by omega) (by omega)]
        refine ⟨j + 1, [], ⟨rfl, rfl, rfl⟩, ⟨(by omega : j + 1 ≤ ks.length), fun i hi => ?_⟩, by dsimp only; omega⟩
        by_cases z : i = j
        · rw [z]; exact hgo
        · exact hg i (by omega)
      · conv => whnf
        repeat (refine And.intro (by first | rfl | omega) ?_; conv => whnf)
        rw [wsucc (j := j) (n := ks.length) (by omega) (by omega)]
        refine ⟨j + 1, [], ⟨rfl, rfl, rfl⟩, ⟨(by omega : j + 1 ≤ ks.length), fun i hi => ?_⟩, by dsimp only; omega⟩
        by_cases z : i = j
        · rw [z]; exact hgo
        · exact hg i (by omega)
  · replace h : ¬ (j : Int) < ks.length := h
    obtain rfl : j = ks.length := by omega
    rw [if_pos (fI ks.length (Nat.le_refl _) hg (fun q => by omega))]
    dsimp only
    rw [hel, hec]
    conv => whnf
    repeat (refine And.intro (by first | rfl | omega) ?_; conv => whnf)
    repeat' (first | exact trivial | exact rfl | (refine And.intro ?_ ?_) | ((conv => whnf); done) | ((conv => whnf); (first | rfl | (refine congrArg (fun b => T.v (Value.bool b)) ?_; first | rfl | exact (decide_eq_true (by omega)).symm | exact (decide_eq_false (by omega)).symm | exact decide_eq_decide.2 (by omega)) | (refine congrArg (fun b => T.v (Value.int _ b)) ?_; first | rfl | omega) | omega)) | (first | rfl | (refine congrArg (fun b => T.v (Value.bool b)) ?_; first | rfl | exact (decide_eq_true (by omega)).symm | exact (decide_eq_false (by omega)).symm | exact decide_eq_decide.2 (by omega)) | (refine congrArg (fun b => T.v (Value.int _ b)) ?_; first | rfl | omega) | omega))
end
end Go.Proofs.YtnplgklnkcjmnaaGreatDoor.DcT
namespace Go.Proofs.YtnplgklnkcjmnaaGreatDoor.DcT
open Go.RowKit Go.Proofs.YtnplgklnkcjmnaaGreatDoor.Am Go.Proofs.YtnplgklnkcjmnaaGreatDoor Go.Proofs.YtnplgklnkcjmnaaGreatDoor.PrT
set_option linter.unusedVariables false
set_option linter.unusedSimpArgs false


set_option maxRecDepth 100000 in
theorem apply_pure (k p n : Int) (q : Nat) (w : List Int) (code key val : Int) (hu : AllU w) (hq : q ≤ 10000) (hk : U64 key) (hv : U64 val) : Pure Tryz.prog glM 23 [.agg [.v (.int .i64 k), .v (.int .i64 p), .v (.int .i64 n)], .fl [.u64] q w, .agg [.v (.int .i64 code), .v (.int .u64 key), .v (.int .u64 val)]] (.tup [.ow 0 1 (apL 2 3 k p n w code key val).length, .agg [.v (.int .i64 (apR 2 3 k p n w code key val)), .v (.int .u64 (apV 2 3 k p n w code key val))], .v (.int .i64 (opE 2 3 k p n w))]) [(0, .fl [.u64] (apL 2 3 k p n w code key val))] := by
  rcases op_facts kv2 k p n hu with ⟨e0, rfl, hf, hT, -, -⟩ | ⟨e0, -, -, -⟩
  · have hn := fitsK hf
    obtain ⟨m, rfl⟩ := Int.eq_ofNat_of_zero_le (a := n) (by omega)
    obtain ⟨y1, y2, y3⟩ := ap_yes (code := code) (key := key) (val := val) e0
    rw [Int.toNat_natCast] at hT y1
    rw [y1, y2, y3, e0]
    show ApG p m q w code key val
    by_cases h9 : code = 9
    · subst h9; exact ap_count hu e0 hf hT
    by_cases h10 : code = 10 ∨ code = 11 ∨ code = 7 ∨ code = 8
    · by_cases hx : key ≤ 4611686018427387904
      · rcases h10 with rfl | rfl | rfl | rfl
        · exact ap_get hu e0 hf hT hk hx
        · exact ap_put hu e0 hf hT hk hv hx
        · exact ap_del hu e0 hf hT hk hv hx
        · exact ap_next hu e0 hf hT hx
      · exact ap_big hu e0 hf hT h10 hx
    · exact ap_other hu e0 hf hT (by omega)
  · have hne : opE 2 3 k p n w ≠ 0 := by omega
    obtain ⟨y1, y2, y3⟩ := ap_no (code := code) (key := key) (val := val) hne
    rw [y1, y2, y3]
    refine pure_of (C := ctxUpN Tryz.prog) ctxUpN_good Tryz.func23 (c := bodyOf Tryz.f23) (by rfl) (Nat.le_of_ble_eq_true (by rfl)) 4 0 [0, 1, 2, 3, 5, 6, 7, 8, 9, 10, 11, 12, 13, 21, 26, 47] ?_
    conv => whnf
    refine And.intro ⟨hu, hq, hne⟩ ?_
    conv => whnf
    refine ifB_ne (fun h => ?_) (fun h => absurd h hne)
    conv => whnf
    repeat' (first | exact trivial | exact rfl | (refine And.intro ?_ ?_) | ((conv => whnf); done) | ((conv => whnf); (first | rfl | (refine congrArg (fun b => T.v (Value.bool b)) ?_; first | rfl | exact (decide_eq_true (by omega)).symm | exact (decide_eq_false (by omega)).symm | exact decide_eq_decide.2 (by omega)) | (refine congrArg (fun b => T.v (Value.int _ b)) ?_; first | rfl | omega) | omega)) | (first | rfl | (refine congrArg (fun b => T.v (Value.bool b)) ?_; first | rfl | exact (decide_eq_true (by omega)).symm | exact (decide_eq_false (by omega)).symm | exact decide_eq_decide.2 (by omega)) | (refine congrArg (fun b => T.v (Value.int _ b)) ?_; first | rfl | omega) | omega))
noncomputable def eApply : Entry := ⟨23, 8, fun l => match l with
  | [.agg [.v (.int .i64 k), .v (.int .i64 p), .v (.int .i64 n)], .fl [.u64] q w, .agg [.v (.int .i64 code), .v (.int .u64 key), .v (.int .u64 val)]] => some (some (AllU w ∧ q ≤ 10000 ∧ U64 key ∧ U64 val), .tup [.ow 0 1 (apL 2 3 k p n w code key val).length, .agg [.v (.int .i64 (apR 2 3 k p n w code key val)), .v (.int .u64 (apV 2 3 k p n w code key val))], .v (.int .i64 (opE 2 3 k p n w))], [(0, .fl [.u64] (apL 2 3 k p n w code key val))])
  | _ => none⟩
theorem eApply_ok : eApply.ok Tryz.prog glM := ⟨Am.enters_of Tryz.func23 (by kernel_rfl) (by kernel_rfl), by
  intro args c t bs h hc
  simp only [eApply] at h
  split at h <;> cases h
  obtain ⟨h1, h2, h3, h4⟩ := hc _ rfl
  exact apply_pure _ _ _ _ _ _ _ _ h1 h2 h3 h4⟩
/-! ### the law's own functions -/

set_option maxRecDepth 100000 in
theorem pick12_pure (c n : Int) (hc : I64 c) (hn : 0 < n) (hn2 : n ≤ 4096) : Pure Tryz.prog glR 15 [.v (.int .i64 c), .v (.int .i64 n)] (.v (.int .i64 (ipick c n))) := by
  have hv := ipick_val c n hc
  refine pure_of (C := ctx0 Tryz.prog) ctx0_good Tryz.func15 (c := bodyOf Tryz.f15) (by rfl) (Nat.le_of_ble_eq_true (by rfl)) 4 0 [0, 1, 2, 4, 6] ?_
  conv => whnf
  repeat' (first | (refine ifB_t (by assumption) ?_; conv => whnf) | (refine ifB_f (by assumption) ?_; conv => whnf) | (refine ifB_dec (fun h => ?_) (fun h => ?_) <;> (first | (exfalso; omega) | (conv => whnf))) | (refine ifB_eq (fun h => ?_) (fun h => ?_) <;> (first | (exfalso; omega) | (conv => whnf))) | (refine ifB_ne (fun h => ?_) (fun h => ?_) <;> (first | (exfalso; omega) | (conv => whnf))) | (refine ifB_not ?_; conv => whnf) | (refine ifB_and ?_; conv => whnf) | (refine ifB_or ?_; conv => whnf) | (refine And.intro ?_ ?_; (first | omega | assumption | (exact allU_getD (by assumption) _) | (simp only [cutL]; omega) | (refine And.intro ?_ ?_ <;> first | assumption | exact allU_getD (by assumption) _) | (simp only [cutL, IntKind.wrap_u64, IntKind.wrap_i64] at *; omega) | decide); conv => whnf))
  · rw [if_pos h] at hv; exact congrArg (fun b => T.v (Value.int .i64 b)) hv
  · rw [if_neg h] at hv; exact congrArg (fun b => T.v (Value.int .i64 b)) hv
noncomputable def ePick12 : Entry := ⟨15, 3, fun l => match l with | [.v (.int .i64 c), .v (.int .i64 n)] => some (some (I64 c ∧ 0 < n ∧ n ≤ 4096), .v (.int .i64 (ipick c n)), []) | _ => none⟩
theorem ePick12_ok : ePick12.ok Tryz.prog glR := ⟨Am.enters_of Tryz.func15 (by kernel_rfl) (by kernel_rfl), by
  intro args c t bs h hc
  simp only [ePick12] at h
  split at h <;> cases h
  replace hc := hc _ rfl
  exact pick12_pure _ _ hc.1 hc.2.1 hc.2.2⟩
noncomputable def ctxLw12 (P : Program) : Ctx := ctx P glR [ePick12] [] (noEq P) [] (fun _ h => by cases h)
theorem ctxLw12_good : (ctxLw12 Tryz.prog).good := ctx_good (by kernel_rfl) (AllOk.mem ⟨ePick12_ok, trivial⟩) glR_two
/-- A raw configuration's room; a raw key; a raw pair. -/
def rmD (room : Int) : Nat := (1 + ipick room 12).toNat
theorem rmD_f (room : Int) : 1 ≤ rmD room ∧ rmD room ≤ 12 ∧ ((rmD room : Nat) : Int) = 1 + ipick room 12 := by
  obtain ⟨h1, h2⟩ := ipick_bounds room (n := 12) (by omega)
  unfold rmD; omega
theorem fits_rm (room : Int) : fitsB 3 1 (rmD room) = true := by
  obtain ⟨h1, h2, -⟩ := rmD_f room
  exact decide_eq_true (by omega)
set_option maxRecDepth 100000 in
theorem conf12_pure (room : Int) (hr : I64 room) : Pure Tryz.prog glR 11 [.v (.int .i64 room)] (.agg [.v (.int .i64 3), .v (.int .i64 1), .v (.int .i64 (rmD room))]) := by
  obtain ⟨h1, h2, h3⟩ := rmD_f room
  refine pure_of (C := ctxLw12 Tryz.prog) ctxLw12_good Tryz.func11 (c := bodyOf Tryz.f11) (by rfl) (Nat.le_of_ble_eq_true (by rfl)) 4 0 [0, 2] ?_
  conv => whnf
  refine And.intro ⟨hr, by omega, by omega⟩ ?_
  conv => whnf
  rw [h3, wrap64 (by omega) (by omega)]
  repeat' (first | exact trivial | exact rfl | (refine And.intro ?_ ?_) | ((conv => whnf); done) | ((conv => whnf); (first | rfl | (refine congrArg (fun b => T.v (Value.bool b)) ?_; first | rfl | exact (decide_eq_true (by omega)).symm | exact (decide_eq_false (by omega)).symm | exact decide_eq_decide.2 (by omega)) | (refine congrArg (fun b => T.v (Value.int _ b)) ?_; first | rfl | omega) | omega)) | (first | rfl | (refine congrArg (fun b => T.v (Value.bool b)) ?_; first | rfl | exact (decide_eq_true (by omega)).symm | exact (decide_eq_false (by omega)).symm | exact decide_eq_decide.2 (by omega)) | (refine congrArg (fun b => T.v (Value.int _ b)) ?_; first | rfl | omega) | omega))
noncomputable def eConf12 : Entry := ⟨11, 4, fun l => match l with | [.v (.int .i64 room)] => some (some (I64 room), .agg [.v (.int .i64 3), .v (.int .i64 1), .v (.int .i64 (rmD room))], []) | _ => none⟩
theorem eConf12_ok : eConf12.ok Tryz.prog glR := ⟨Am.enters_of Tryz.func11 (by kernel_rfl) (by kernel_rfl), by
  intro args c t bs h hc
  simp only [eConf12] at h
  split at h <;> cases h
  replace hc := hc _ rfl
  exact conf12_pure _ hc⟩
def keyD (n : Int) : Int := if ipick n 16 > 11 then 4611686018427387904 - (ipick n 16 - 12) else ipick n 16
theorem keyD_f (n : Int) : 0 ≤ keyD n ∧ keyD n ≤ 4611686018427387904 := by
  obtain ⟨h1, h2⟩ := ipick_bounds n (n := 16) (by omega)
  unfold keyD; split <;> omega
set_option maxRecDepth 100000 in
theorem key12_pure (n : Int) (hr : I64 n) : Pure Tryz.prog glR 26 [.v (.int .i64 n)] (.v (.int .u64 (keyD n))) := by
  obtain ⟨h1, h2⟩ := ipick_bounds n (n := 16) (by omega)
  have e : IntKind.u64.wrap (ipick n 16) = ipick n 16 := wrapU (by omega) (by omega)
  refine pure_of (C := ctxLw12 Tryz.prog) ctxLw12_good Tryz.func26 (c := bodyOf Tryz.f26) (by rfl) (Nat.le_of_ble_eq_true (by rfl)) 4 0 [0, 2, 3, 8] ?_
  conv => whnf
  refine And.intro ⟨hr, by omega, by omega⟩ ?_
  conv => whnf
  rw [e]
  refine ifB_dec (fun h => ?_) (fun h => ?_)
  · conv => whnf
    rw [wrapU (a := ipick n 16 - 12) (by omega) (by omega), wrapU (by omega) (by omega)]
    unfold keyD; rw [if_pos h]
  · conv => whnf
    unfold keyD; rw [if_neg h]
noncomputable def eKey12 : Entry := ⟨26, 4, fun l => match l with | [.v (.int .i64 n)] => some (some (I64 n), .v (.int .u64 (keyD n)), []) | _ => none⟩
theorem eKey12_ok : eKey12.ok Tryz.prog glR := ⟨Am.enters_of Tryz.func26 (by kernel_rfl) (by kernel_rfl), by
  intro args c t bs h hc
  simp only [eKey12] at h
  split at h <;> cases h
  replace hc := hc _ rfl
  exact key12_pure _ hc⟩
noncomputable def ctxLw12b (P : Program) : Ctx := ctx P glR [ePick12, eKey12] [] (noEq P) [] (fun _ h => by cases h)
theorem ctxLw12b_good : (ctxLw12b Tryz.prog).good := ctx_good (by kernel_rfl) (AllOk.mem ⟨ePick12_ok, eKey12_ok, trivial⟩) glR_two
set_option maxRecDepth 100000 in
theorem pair12_pure (a b : Int) (ha : I64 a) (hb : I64 b) : Pure Tryz.prog glR 12 [.agg [.v (.int .i64 a), .v (.int .i64 b)]] (.agg [.v (.int .u64 (keyD a)), .v (.int .u64 (ipick b 1000))]) := by
  obtain ⟨h1, h2⟩ := ipick_bounds b (n := 1000) (by omega)
  refine pure_of (C := ctxLw12b Tryz.prog) ctxLw12b_good Tryz.func12 (c := bodyOf Tryz.f12) (by rfl) (Nat.le_of_ble_eq_true (by rfl)) 4 0 [0, 1, 2] ?_
  conv => whnf
  repeat (refine And.intro (by first | decide | assumption | exact ⟨by assumption, by decide, by decide⟩) ?_; conv => whnf)
  rw [show IntKind.u64.wrap (ipick ([a, b].getD (0 + 1 + 0 * ([Am.T.v (Value.int IntKind.i64 b)].length + 1)) 0) 1000) = ipick b 1000 from wrapU h1 (by show ipick b 1000 < _; omega)]
  repeat' (first | exact trivial | exact rfl | (refine And.intro ?_ ?_) | ((conv => whnf); done) | ((conv => whnf); (first | rfl | (refine congrArg (fun b => T.v (Value.bool b)) ?_; first | rfl | exact (decide_eq_true (by omega)).symm | exact (decide_eq_false (by omega)).symm | exact decide_eq_decide.2 (by omega)) | (refine congrArg (fun b => T.v (Value.int _ b)) ?_; first | rfl | omega) | omega)) | (first | rfl | (refine congrArg (fun b => T.v (Value.bool b)) ?_; first | rfl | exact (decide_eq_true (by omega)).symm | exact (decide_eq_false (by omega)).symm | exact decide_eq_decide.2 (by omega)) | (refine congrArg (fun b => T.v (Value.int _ b)) ?_; first | rfl | omega) | omega))
noncomputable def ePair12 : Entry := ⟨12, 5, fun l => match l with | [.agg [.v (.int .i64 a), .v (.int .i64 b)]] => some (some (I64 a ∧ I64 b), .agg [.v (.int .u64 (keyD a)), .v (.int .u64 (ipick b 1000))], []) | _ => none⟩
theorem ePair12_ok : ePair12.ok Tryz.prog glR := ⟨Am.enters_of Tryz.func12 (by kernel_rfl) (by kernel_rfl), by
  intro args c t bs h hc
  simp only [ePair12] at h
  split at h <;> cases h
  replace hc := hc _ rfl
  exact pair12_pure _ _ hc.1 hc.2⟩
set_option maxRecDepth 100000 in
theorem zero12_pure (k p : Int) (m : Nat) (hm : m ≤ 1000) : Pure Tryz.prog glR 25 [.agg [.v (.int .i64 k), .v (.int .i64 p), .v (.int .i64 m)]] (.ow 0 1 (1 + 4 * m)) [(0, .fl [.u64] (List.replicate (1 + 4 * m) 0))] := by
  have e : IntKind.i64.wrap (1 + IntKind.i64.wrap (4 * (m : Int))) = ((1 + 4 * m : Nat) : Int) := by rw [wrap64 (a := 4 * (m : Int)) (by omega) (by omega), wrap64 (by omega) (by omega)]; omega
  refine pure_of (C := ctx0 Tryz.prog) ctx0_good Tryz.func25 (c := bodyOf Tryz.f25) (by rfl) (Nat.le_of_ble_eq_true (by rfl)) 4 0 [0, 1, 2] ?_
  conv => whnf
  rw [e]
  refine And.intro (by omega) ?_
  conv => whnf
  rw [Int.toNat_natCast]
  repeat' (first | exact trivial | exact rfl | (refine And.intro ?_ ?_) | ((conv => whnf); done) | ((conv => whnf); (first | rfl | (refine congrArg (fun b => T.v (Value.bool b)) ?_; first | rfl | exact (decide_eq_true (by omega)).symm | exact (decide_eq_false (by omega)).symm | exact decide_eq_decide.2 (by omega)) | (refine congrArg (fun b => T.v (Value.int _ b)) ?_; first | rfl | omega) | omega)) | (first | rfl | (refine congrArg (fun b => T.v (Value.bool b)) ?_; first | rfl | exact (decide_eq_true (by omega)).symm | exact (decide_eq_false (by omega)).symm | exact decide_eq_decide.2 (by omega)) | (refine congrArg (fun b => T.v (Value.int _ b)) ?_; first | rfl | omega) | omega))
noncomputable def eZero12 : Entry := ⟨25, 4, fun l => match l with | [.agg [.v (.int .i64 k), .v (.int .i64 p), .v (.int .i64 n)]] => some (some (0 ≤ n ∧ n ≤ 1000), .ow 0 1 (1 + 4 * n.toNat), [(0, .fl [.u64] (List.replicate (1 + 4 * n.toNat) 0))]) | _ => none⟩
theorem eZero12_ok : eZero12.ok Tryz.prog glR := ⟨Am.enters_of Tryz.func25 (by kernel_rfl) (by kernel_rfl), by
  intro args c t bs h hc
  simp only [eZero12] at h
  split at h <;> cases h
  replace hc := hc _ rfl
  exact (by obtain ⟨h1, h2⟩ := hc; obtain ⟨m, rfl⟩ := Int.eq_ofNat_of_zero_le h1; exact zero12_pure _ _ m (by omega))⟩
end Go.Proofs.YtnplgklnkcjmnaaGreatDoor.DcT
namespace Go.Proofs.YtnplgklnkcjmnaaGreatDoor.DcT
open Go.RowKit Go.Proofs.YtnplgklnkcjmnaaGreatDoor.Am Go.Proofs.YtnplgklnkcjmnaaGreatDoor Go.Proofs.YtnplgklnkcjmnaaGreatDoor.PrT
set_option linter.unusedVariables false
set_option linter.unusedSimpArgs false


section
variable {v m : Nat} {k p : Int} {ks vs ks' vs' : List Int}
theorem op_enc (hk : KV v k) (h : TabV k m ks vs) (hf : fitsB k p m = true) : opE v k k p m (encT v m ks vs) = 0 ∧ opK v k k p m (encT v m ks vs) = ks ∧ opV v k k p m (encT v m ks vs) = vs := by
  have hm := fitsK hf
  have hc : cfB k k p m = true := by unfold cfB; rw [hf]; simp
  obtain ⟨e1, e2, e3⟩ := op_yes (v := v) (w := encT v m ks vs) hc
  obtain ⟨d1, d2, d3⟩ := h.dec hk (by omega) (by omega)
  rw [Int.toNat_natCast] at e1 e2 e3
  obtain ⟨g1, g2, g3⟩ := d_yes d1
  exact ⟨e3.trans g3, e1.trans (g1.trans d2), e2.trans (g2.trans d3)⟩
theorem laid_nil (n : Nat) : laid sP n [] = List.replicate n (0, 0) := rfl
theorem flat_zero (v n : Nat) (hv : v = 1 ∨ v = 2) : flat v (List.replicate n (0, 0)) = List.replicate (n * v) 0 := by
  induction n with
  | zero => simp [flat]
  | succ n ih =>
    rw [List.replicate_succ, flat_cons, ih, Nat.succ_mul]
    rcases hv with rfl | rfl <;> rfl
theorem enc_nil (v m : Nat) (hv : v = 1 ∨ v = 2) : encT v m [] [] = List.replicate (1 + 2 * m * v) 0 := by
  unfold encT tabT
  rw [show rsK v [] [] = [] from rfl, laid_nil, flat_zero v _ hv, Nat.add_comm 1, List.replicate_succ]; rfl
theorem ap_enc (hk : KV v k) (h : TabV k m ks vs) (hf : fitsB k p m = true) (code key val : Int) : apL v k k p m (encT v m ks vs) code key val = encT v m (tabD k m ks vs code key val).1 (tabD k m ks vs code key val).2.1 ∧ apR v k k p m (encT v m ks vs) code key val = (tabD k m ks vs code key val).2.2.1 ∧ apV v k k p m (encT v m ks vs) code key val = (tabD k m ks vs code key val).2.2.2 := by
  obtain ⟨e1, e2, e3⟩ := op_enc hk h hf
  obtain ⟨y1, y2, y3⟩ := ap_yes (code := code) (key := key) (val := val) e1
  rw [e2, e3, Int.toNat_natCast] at y1
  rw [e2, e3] at y2 y3
  exact ⟨y1, y2, y3⟩
end
theorem up_enc {m : Nat} {p : Int} {ks vs : List Int} (h : TabV 3 m ks vs) (hf : fitsB 3 p m = true) (l : List R) (hl : ∀ r ∈ l, r.1 ≤ 4611686018427387904) :
    (upS m (ks, vs) l = none → updE 3 p m (encT 2 m ks vs) l = 11 ∧ updL 3 p m (encT 2 m ks vs) l = []) ∧
    (∀ s, upS m (ks, vs) l = some s → updE 3 p m (encT 2 m ks vs) l = 0 ∧ updL 3 p m (encT 2 m ks vs) l = encT 2 m s.1 s.2) := by
  obtain ⟨e1, e2, e3⟩ := op_enc kv2 h hf
  have hok : ¬ ∃ r ∈ l, r.1 > 4611686018427387904 := fun ⟨r, hr, hb⟩ => by have := hl r hr; omega
  have hE : updE 3 p m (encT 2 m ks vs) l = if upS m (ks, vs) l = none then 11 else 0 := by
    unfold updE; rw [e1, if_neg (fun q => q rfl), if_neg hok, e2, e3]
  constructor
  · intro hn
    rw [hn, if_pos rfl] at hE
    exact ⟨hE, by unfold updL; rw [hE, if_neg (by decide)]⟩
  · intro s hs
    rw [hs, if_neg (by simp)] at hE
    refine ⟨hE, ?_⟩
    unfold updL updS
    rw [hE, if_pos rfl, e2, e3, hs, Int.toNat_natCast]; rfl
theorem tb00 : TabV 3 1 [] [] := tabV_nil 3 1
theorem aw_f : fitsB 3 1 ((1 : Nat) : Int) = true := by decide
theorem aw_z : encT 2 1 [] [] = [0, 0, 0, 0, 0] := enc_nil 2 1 (.inr rfl)
theorem aw_t4 : tabD 3 1 [5] [2] 7 5 0 = ([], [], 0, 2) := by decide
theorem aw_u1 : updE 3 1 1 [0, 0, 0, 0, 0] (recs 2 2 [5, 1, 5, 2]) = 0 ∧ updL 3 1 1 [0, 0, 0, 0, 0] (recs 2 2 [5, 1, 5, 2]) = encT 2 1 [5] [2] := by
  have := (up_enc tb00 aw_f [(5, 1), (5, 2)] (by decide)).2 ([5], [2]) (by decide)
  rw [aw_z] at this; exact this
theorem aw_u2 : updE 3 1 1 [0, 0, 0, 0, 0] (recs 2 2 [5, 1, 6, 1]) = 11 ∧ updL 3 1 1 [0, 0, 0, 0, 0] (recs 2 2 [5, 1, 6, 1]) = [] := by
  have := (up_enc tb00 aw_f [(5, 1), (6, 1)] (by decide)).1 (by decide)
  rw [aw_z] at this; exact this
theorem tb52 : TabV 3 1 [5] [2] := by
  have h1 := tabD_v tb00 (key := 5) (v := 2) (code := 11) ⟨by decide, by decide⟩ ⟨by decide, by decide⟩
  rw [show tabD 3 ((1 : Nat) : Int) [] [] 11 5 2 = ([5], [2], 0, 0) by decide] at h1
  exact h1
theorem aw_o1 : opE 2 3 3 1 1 (encT 2 1 [5] [2]) = 0 ∧ opK 2 3 3 1 1 (encT 2 1 [5] [2]) = [5] ∧ opV 2 3 3 1 1 (encT 2 1 [5] [2]) = [2] := op_enc kv2 tb52 aw_f
theorem aw_a1 : apL 2 3 3 1 1 (encT 2 1 [5] [2]) 7 5 0 = [0, 0, 0, 0, 0] ∧ apR 2 3 3 1 1 (encT 2 1 [5] [2]) 7 5 0 = 0 ∧ apV 2 3 3 1 1 (encT 2 1 [5] [2]) 7 5 0 = 2 := by
  have h := ap_enc kv2 tb52 aw_f 7 5 0
  rw [show ((1 : Nat) : Int) = 1 from rfl, aw_t4] at h
  dsimp only at h
  rw [aw_z] at h
  exact h
theorem aw_o2 : opE 2 3 3 1 1 [1, 0, 0, 0, 0] = 2 ∧ opK 2 3 3 1 1 [1, 0, 0, 0, 0] = [] ∧ opV 2 3 3 1 1 [1, 0, 0, 0, 0] = [] := by
  have hu : AllU [1, 0, 0, 0, 0] := by intro x hx; simp at hx; rcases hx with rfl | rfl <;> exact ⟨by decide, by decide⟩
  rcases op_facts kv2 3 1 1 hu with ⟨-, -, -, hT, hE, hO⟩ | ⟨h1, h2, h3, -⟩
  · exfalso
    have h9 := tb00.lst kv2 (by omega) (by omega)
    have hd : tabT 2 1 [] [] = [0, 0, 0, 0] := by have := aw_z; unfold encT at this; exact (List.cons.inj this).2
    rw [hd] at h9
    unfold okD at hO
    have := (of_decide_eq_true hO).2.2.2.1
    rw [show List.drop 1 [(1 : Int), 0, 0, 0, 0] = [0, 0, 0, 0] from rfl, h9] at this
    revert this; decide
  · refine ⟨?_, h2, h3⟩
    rcases h1 with h | h
    · exact h
    · exfalso
      have hc : cfB 3 3 1 1 = true := by decide
      obtain ⟨-, -, e3⟩ := op_yes (v := 2) (w := [1, 0, 0, 0, 0]) hc
      rw [h] at e3
      unfold dE at e3
      split at e3 <;> cases e3
theorem aw_o3 (w : List Int) : opE 2 3 2 1 1 w = 5 := (op_no (v := 2) (w := w) (by decide)).2.2
theorem allU_52 : AllU (encT 2 1 [5] [2]) := tb52.enc_u kv2 (by omega)
theorem len_52 : (encT 2 1 [5] [2]).length = 5 := tb52.enc_len kv2
theorem aw_all : ∃ W : List Int, (AllU W ∧ W.length = 5) ∧ (updE 3 1 1 [0, 0, 0, 0, 0] (recs 2 2 [5, 1, 5, 2]) = 0 ∧ updL 3 1 1 [0, 0, 0, 0, 0] (recs 2 2 [5, 1, 5, 2]) = W) ∧
    (opE 2 3 3 1 1 W = 0 ∧ opK 2 3 3 1 1 W = [5] ∧ opV 2 3 3 1 1 W = [2]) ∧ (apL 2 3 3 1 1 W 7 5 0 = [0, 0, 0, 0, 0] ∧ apR 2 3 3 1 1 W 7 5 0 = 0 ∧ apV 2 3 3 1 1 W 7 5 0 = 2) :=
  ⟨_, ⟨allU_52, len_52⟩, aw_u1, aw_o1, aw_a1⟩
theorem ctxAw12_eqOk : ∀ t, hasN [57] t = true → Tryz.prog.stoodInHeld t = false := HeldOk.mem ⟨by kernel_rfl, trivial⟩
noncomputable def ctxAw12 (P : Program) (heq : ∀ t, hasN [57] t = true → P.stoodInHeld t = false) : Ctx := ctx P glM [eUpdate, ePairs, eApply, eZero12, eRRecs, Go.Proofs.YtnplgklnkcjmnaaGreatDoor.eWords] [57] heq [] (fun _ h => by cases h)
theorem ctxAw12_good : (ctxAw12 Tryz.prog ctxAw12_eqOk).good := ctx_good (by kernel_rfl) (AllOk.mem ⟨eUpdate_ok, ePairs_ok, eApply_ok, entry_lift eZero12_ok, entry_lift eRRecs_ok, entry_lift Go.Proofs.YtnplgklnkcjmnaaGreatDoor.eWords_ok, trivial⟩) glM_two
attribute [local irreducible] updE updL apL apR apV opE opK opV encT prD
set_option maxHeartbeats 2000000 in
set_option maxRecDepth 100000 in
theorem awake12_pure : Pure Tryz.prog glM 10 [] (.v (.bool true)) := by
  have hz : AllU [0, 0, 0, 0, 0] := by intro x hx; simp at hx; unfold U64; omega
  have h1 : AllU [(5 : Int), 1, 5, 2] := by intro x hx; simp at hx; unfold U64; omega
  have h2 : AllU [(5 : Int), 1, 6, 1] := by intro x hx; simp at hx; unfold U64; omega
  have h3 : AllU [(1 : Int), 0, 0, 0, 0] := by intro x hx; simp at hx; unfold U64; omega
  have u5 : U64 5 := ⟨by decide, by decide⟩
  have u0 : U64 0 := ⟨by decide, by decide⟩
  have e0 : List.replicate (1 + 4 * Int.toNat 1) (0 : Int) = [0, 0, 0, 0, 0] := rfl
  obtain ⟨W, ⟨allU_52, len_52⟩, aw_u1, aw_o1, aw_a1⟩ := aw_all
  refine pure_of (C := ctxAw12 Tryz.prog ctxAw12_eqOk) ctxAw12_good Tryz.func10 (c := bodyOf Tryz.f10) (by rfl) (Nat.le_of_ble_eq_true (by rfl)) 4 0 [0, 1, 2, 3, 5, 6, 7, 8, 9, 10, 12, 15] ?_
  conv => whnf
  repeat (refine And.intro (by decide) ?_; conv => whnf)
  rw [e0]
  refine And.intro ⟨hz, h1, by decide, by decide⟩ ?_
  conv => whnf
  rw [aw_u1.1, aw_u1.2]
  conv => whnf
  repeat (refine And.intro (by decide) ?_; conv => whnf)
  try rw [e0]
  refine And.intro ⟨hz, h2, by decide, by decide⟩ ?_
  conv => whnf
  rw [aw_u2.1, aw_u2.2]
  conv => whnf
  refine And.intro ⟨allU_52, by rw [len_52]; decide⟩ ?_
  conv => whnf
  rw [aw_o1.1, aw_o1.2.1, aw_o1.2.2]
  conv => whnf
  refine And.intro ⟨allU_52, by rw [len_52]; decide, u5, u0⟩ ?_
  conv => whnf
  rw [aw_a1.1, aw_a1.2.1, aw_a1.2.2]
  conv => whnf
  refine And.intro ⟨h3, by decide⟩ ?_
  conv => whnf
  rw [aw_o2.1, aw_o2.2.1, aw_o2.2.2]
  conv => whnf
  refine And.intro ⟨allU_52, by rw [len_52]; decide, u0, u0⟩ ?_
  conv => whnf
  rw [aw_o3]
  conv => whnf
  rw [show flat 2 (prD [5] [2]) = [5, 2] by unfold prD; rfl]
  conv => whnf
  repeat (refine And.intro (by decide) ?_; conv => whnf)
  rfl
noncomputable def eAwk12 : Entry := ⟨10, 10, fun l => match l with | [] => some (none, .v (.bool true), []) | _ => none⟩
theorem eAwk12_ok : eAwk12.ok Tryz.prog glM := ⟨Am.enters_of Tryz.func10 (by kernel_rfl) (by kernel_rfl), by
  intro args c t bs h hc
  simp only [eAwk12] at h
  split at h <;> cases h
  exact awake12_pure⟩
end Go.Proofs.YtnplgklnkcjmnaaGreatDoor.DcT
namespace Go.Proofs.YtnplgklnkcjmnaaGreatDoor.DcT
open Go.RowKit Go.Proofs.YtnplgklnkcjmnaaGreatDoor.Am Go.Proofs.YtnplgklnkcjmnaaGreatDoor Go.Proofs.YtnplgklnkcjmnaaGreatDoor.PrT
set_option linter.unusedVariables false
set_option linter.unusedSimpArgs false


attribute [local irreducible] updE updL apL apR apV opE opK opV encT prD tabD stK rmD keyD hereK atK insK
end Go.Proofs.YtnplgklnkcjmnaaGreatDoor.DcT
namespace Go.Proofs.YtnplgklnkcjmnaaGreatDoor.DcT
open Go.RowKit Go.Proofs.YtnplgklnkcjmnaaGreatDoor.Am Go.Proofs.YtnplgklnkcjmnaaGreatDoor Go.Proofs.YtnplgklnkcjmnaaGreatDoor.PrT
set_option linter.unusedVariables false
set_option linter.unusedSimpArgs false


/-- Raw pairs. -/
def prL (raw : List Int) (c : Nat) : List R := (List.range c).map fun i => (keyD (raw.getD (i * 2) 0), ipick (raw.getD (i * 2 + 1) 0) 1000)
theorem prL_len (raw : List Int) (c : Nat) : (prL raw c).length = c := by simp [prL]
theorem prL_succ (raw : List Int) (c : Nat) : prL raw (c + 1) = prL raw c ++ [(keyD (raw.getD (c * 2) 0), ipick (raw.getD (c * 2 + 1) 0) 1000)] := by simp [prL, List.range_succ]
theorem prL_u (raw : List Int) (c : Nat) : ∀ r ∈ prL raw c, (0 ≤ r.1 ∧ r.1 ≤ 4611686018427387904) ∧ U64 r.1 ∧ U64 r.2 := by
  intro r hr
  unfold prL at hr
  obtain ⟨i, _, rfl⟩ := List.mem_map.1 hr
  have h1 := keyD_f (raw.getD (i * 2) 0)
  have h2 := ipick_bounds (raw.getD (i * 2 + 1) 0) (n := 1000) (by omega)
  dsimp only
  unfold U64
  omega
theorem allU_fl2 {l : List R} (h : ∀ r ∈ l, U64 r.1 ∧ U64 r.2) : AllU (flat 2 l) := allU_flat h
attribute [local irreducible] updE updL apL apR apV opE opK opV encT prD tabD stK rmD keyD hereK atK insK prL recs
end Go.Proofs.YtnplgklnkcjmnaaGreatDoor.DcT
namespace Go.Proofs.YtnplgklnkcjmnaaGreatDoor.DcT
open Go.RowKit Go.Proofs.YtnplgklnkcjmnaaGreatDoor.Am Go.Proofs.YtnplgklnkcjmnaaGreatDoor Go.Proofs.YtnplgklnkcjmnaaGreatDoor.PrT
set_option linter.unusedVariables false
set_option linter.unusedSimpArgs false


theorem insK_end {l : List Int} {x : Int} : insK l l.length x = l ++ [x] := by unfold insK; rw [List.take_length, List.drop_length]
/-- A dict's pairs, laid one by one, make it. -/
theorem upS_pairs {m : Nat} {ks vs : List Int} (h : TabV 3 m ks vs) (hm0 : 0 < m) (hm : m ≤ 256) : ∀ j, j ≤ ks.length → upS m ([], []) ((prD ks vs).take j) = some (ks.take j, vs.take j) ∧ TabV 3 m (ks.take j) (vs.take j) := by
  have hvl : vs.length = ks.length := by have := h.vlen; rwa [if_pos (by decide)] at this
  have hkl := h.len
  intro j
  induction j with
  | zero => intro _; exact ⟨rfl, tabV_nil 3 m⟩
  | succ j ih =>
    intro hj
    obtain ⟨h1, h2⟩ := ih (by omega)
    have hku := h.k_u kv2 (i := j) (by omega)
    have hvu : U64 (vs.getD j 0) := allU_getD h.u2 _
    have hlen : (ks.take j).length = j := by rw [List.length_take]; omega
    have hlv : (vs.take j).length = j := by rw [List.length_take]; omega
    have hat : atK 3 (ks.take j) (ks.getD j 0) = j := by
      refine atK_is (by omega) (fun i hi => ?_) (fun q => by omega)
      rw [lssK_rk, kv2.rk, kv2.rk, List.getD_eq_getElem?_getD, List.getElem?_take_of_lt hi, ← List.getD_eq_getElem?_getD]
      exact decide_eq_true (h.k_lt kv2 hi (by omega))
    have hno : hereK 3 (ks.take j) (ks.getD j 0) = false := by
      unfold hereK; rw [hat]; exact decide_eq_false (fun q => by omega)
    obtain ⟨hd, hT, -⟩ := put_new h2 hm0 hm (x := ks.getD j 0) hku hvu hno (by omega)
    have e1 : insK (ks.take j) (atK 3 (ks.take j) (ks.getD j 0)) (ks.getD j 0) = ks.take (j + 1) := by
      rw [hat]; have := insK_end (l := ks.take j) (x := ks.getD j 0); rw [hlen] at this
      rw [this, take_succ_getD (by omega)]
    have e2 : insK (vs.take j) (atK 3 (ks.take j) (ks.getD j 0)) (vs.getD j 0) = vs.take (j + 1) := by
      rw [hat]; have := insK_end (l := vs.take j) (x := vs.getD j 0); rw [hlv] at this
      rw [this, take_succ_getD (by omega)]
    rw [e1, e2] at hd hT
    refine ⟨?_, hT⟩
    rw [prD_take vs (by omega), upS_snoc, h1]
    show putO m _ _ = _
    unfold putO
    dsimp only
    rw [hd]; rfl
theorem prD_recs (ks vs : List Int) : recs ks.length 2 (flat 2 (prD ks vs)) = prD ks vs := recs_flat (.inr rfl) (prD_len ks vs) (fun q => by cases q)
theorem ctxUp12L_eqOk : ∀ t, hasN [57] t = true → Tryz.prog.stoodInHeld t = false := HeldOk.mem ⟨by kernel_rfl, trivial⟩
noncomputable def ctxUp12L (P : Program) (heq : ∀ t, hasN [57] t = true → P.stoodInHeld t = false) : Ctx := ctx P glM [eAwk12, eConf12, ePair12, eZero12, eStateK, eEnc10, eApply, ePairs, eUpdate, Go.Proofs.YtnplgklnkcjmnaaGreatDoor.eWords] [57] heq [] (fun _ h => by cases h)
theorem ctxUp12L_good : (ctxUp12L Tryz.prog ctxUp12L_eqOk).good := ctx_good (by kernel_rfl) (AllOk.mem ⟨eAwk12_ok, entry_lift eConf12_ok, entry_lift ePair12_ok, entry_lift eZero12_ok, entry_lift eStateK_ok, entry_lift eEnc10_ok, eApply_ok, ePairs_ok, eUpdate_ok, entry_lift Go.Proofs.YtnplgklnkcjmnaaGreatDoor.eWords_ok, trivial⟩) glM_two
attribute [local irreducible] updE updL apL apR apV opE opK opV encT prD tabD stK rmD keyD hereK atK insK prL recs upS
set_option maxHeartbeats 4000000 in
set_option maxRecDepth 100000 in
theorem updateL_pure (room : Int) (c1 c2 : Nat) (state raw : List Int) (hr : I64 room) (hst : AllI state) (hraw : AllI raw) : Pure Tryz.prog glM 4 [.v (.int .i64 room), .fl [.i64, .i64, .i64] c1 state, .fl [.i64, .i64] c2 raw] (.v (.bool true)) := by
  refine pure_wf fun hww => ?_
  obtain ⟨-, -, ⟨w1, w2⟩, -⟩ := hww
  simp only [List.length_cons, List.length_nil, Nat.zero_add, Nat.mul_one] at w1
  have hf := fits_rm room
  obtain ⟨r1, r2, -⟩ := rmD_f room
  have hT := stK_v 3 (rmD room) state (min c1 30) (by omega)
  refine pure_of (C := ctxUp12L Tryz.prog ctxUp12L_eqOk) ctxUp12L_good Tryz.func4 (c := bodyOf Tryz.f4) (by rfl) (Nat.le_of_ble_eq_true (by rfl)) 4 0 [0, 1, 2, 6, 7, 8, 9, 11, 12, 13, 14, 15, 16, 17, 18, 19, 20, 21, 22, 23, 24, 61, 70, 82, 106, 118] ?_
  conv => whnf
  refine And.intro hr ?_
  conv => whnf
  generalize rmD room = m at *
  refine And.intro ⟨.inr (.inl rfl), hf, hst⟩ ?_
  conv => whnf
  rw [Int.toNat_natCast]
  generalize stK 3 m state (min c1 30) = st at *
  obtain ⟨ks, vs⟩ := st
  replace hT : TabV 3 m ks vs := hT
  refine And.intro ⟨.inr rfl, hf, hT, rfl, rfl, rfl⟩ ?_
  conv => whnf
  rw [show wdK 3 = 2 from rfl]
  have hwu := hT.enc_u kv2 (by omega)
  have hwl := hT.enc_len kv2
  obtain ⟨o1, o2, o3⟩ := op_enc kv2 hT hf
  have hkl := hT.len
  have hvl : vs.length = ks.length := by have := hT.vlen; rwa [if_pos (by decide)] at this
  refine And.intro ⟨hwu, by omega⟩ ?_
  conv => whnf
  rw [o1, o2, o3]
  have hpl := prD_len ks vs
  have hpk : ∀ r ∈ prD ks vs, r.1 ≤ 4611686018427387904 ∧ U64 r.1 ∧ U64 r.2 := fun r hr => by
    obtain ⟨i, hi, rfl⟩ := List.getElem_of_mem hr
    rw [hpl] at hi
    have e : (prD ks vs)[i] = gR (prD ks vs) i := by unfold gR; rw [List.getD_eq_getElem?_getD, List.getElem?_eq_getElem (by rw [hpl]; exact hi)]; rfl
    rw [e, prD_get vs hi]
    have h1 := hT.k_u kv2 hi
    have h2 := allU_getD hT.u2 i
    dsimp only
    unfold U64 at *
    omega
  have hpu : AllU (flat 2 (prD ks vs)) := allU_fl2 fun r hr => (hpk r hr).2
  have hup := (upS_pairs hT (by omega) (by omega) ks.length (Nat.le_refl _)).1
  rw [List.take_of_length_le (by omega), List.take_of_length_le (Nat.le_refl _), List.take_of_length_le (by omega)] at hup
  obtain ⟨b1, b2⟩ := (up_enc (tabV_nil 3 m) hf (prD ks vs) (fun r hr => (hpk r hr).1)).2 (ks, vs) hup
  have hz0 : encT 2 m [] [] = List.replicate (1 + 4 * m) 0 := by rw [enc_nil 2 m (.inr rfl), show 1 + 2 * m * 2 = 1 + 4 * m by omega]
  have hzu : AllU (List.replicate (1 + 4 * m) 0) := by rw [← hz0]; exact (tabV_nil 3 m).enc_u kv2 (by omega)
  rw [hz0] at b1 b2
  refine And.intro (by omega) ?_
  conv => whnf
  rw [Int.toNat_natCast]
  refine And.intro ⟨hzu, hpu, by omega, by omega⟩ ?_
  conv => whnf
  rw [prD_recs, b1, b2]
  conv => whnf
  refine ifB_f (by simp) ?_
  conv => whnf
  have hap := fun (ks' vs' : List Int) (h : TabV 3 m ks' vs') (key val : Int) => ap_enc kv2 h hf 11 key val
  have hop := fun (ks' vs' : List Int) (h : TabV 3 m ks' vs') => (op_enc kv2 h hf).1
  have hUN := fun (l : List R) (h : ∀ r ∈ l, r.1 ≤ 4611686018427387904) => up_enc hT hf l h
  refine TW.weak ctxUp12L_good.glq ⟨⟨[1, 2, 6, 7, 8, 9, 15, 16, 17, 18], [(32, 32)], [132]⟩, rfl, rfl, rfl⟩ ?_
  refine TW.nilOwn 15 5000 2 (.fl [.u64, .u64] []) rfl rfl (.inr ⟨_, _, rfl⟩) (by decide) ?_
  refine TW.loopF ctxUp12L_good 0 (base := 0) (lv := [0, 1, 2, 6, 7, 8, 9, 11, 12, 13, 14, 15, 16, 17, 18, 19, 20, 21, 22, 23, 24, 61, 70, 82, 106, 118]) [15, 16, 17, 18] [5000] [(5000, 5000)] (fun x : Nat × List Int × Bool => [.ow 5000 2 x.1, .fl [.u64] (1 + 2 * m * 2) x.2.1, .v (.bool x.2.2), .v (.int .i64 x.1)]) (fun x => [.fl [.u64, .u64] (flat 2 (prL raw x.1))])
    (fun x => (x.1 ≤ c2 ∧ x.1 ≤ 12) ∧ ∃ ks' vs', TabV 3 m ks' vs' ∧ x.2.1 = encT 2 m ks' vs' ∧ upS m (ks, vs) (prL raw x.1) = if x.2.2 = true then none else some (ks', vs')) (fun x => c2 - x.1) ?_
  conv => whnf
  refine ⟨⟨(0, encT 2 m ks vs, false), ⟨rfl, rfl, by unfold prL; rfl⟩, ⟨by omega, by omega⟩, ks, vs, hT, rfl, (by unfold prL; exact upS_nil _ _ : upS m (ks, vs) (prL raw 0) = some (ks, vs))⟩, fun ⟨j, X, f⟩ ⟨⟨hj, hj2⟩, ks', vs', hT', hX, hS⟩ => ?_⟩
  replace hj : j ≤ c2 := hj
  replace hj2 : j ≤ 12 := hj2
  replace hX : X = encT 2 m ks' vs' := hX
  replace hS : upS m (ks, vs) (prL raw j) = if f = true then none else some (ks', vs') := hS
  subst hX
  conv => whnf
  by_cases hgo : j < c2 ∧ j < 12
  · have i1 : I64 (raw.getD (j * 2) 0) := hraw _ (by rw [List.getD_eq_getElem?_getD, List.getElem?_eq_getElem (by omega)]; exact List.getElem_mem (by omega))
    have i2 : I64 (raw.getD (j * 2 + 1) 0) := hraw _ (by rw [List.getD_eq_getElem?_getD, List.getElem?_eq_getElem (by omega)]; exact List.getElem_mem (by omega))
    have E0 : raw.getD (0 + (j : Int).toNat * (1 + 1) + 0) 0 = raw.getD (j * 2) 0 := by rw [show 0 + (j : Int).toNat * (1 + 1) + 0 = j * 2 by omega]
    have E1 : raw.getD (0 + (j : Int).toNat * (1 + 1) + (0 + 1)) 0 = raw.getD (j * 2 + 1) 0 := by rw [show 0 + (j : Int).toNat * (1 + 1) + (0 + 1) = j * 2 + 1 by omega]
    have kb := keyD_f (raw.getD (j * 2) 0)
    have vb := ipick_bounds (raw.getD (j * 2 + 1) 0) (n := 1000) (by omega)
    have hSs : upS m (ks, vs) (prL raw (j + 1)) = (upS m (ks, vs) (prL raw j)).bind fun s => putO m s (keyD (raw.getD (j * 2) 0), ipick (raw.getD (j * 2 + 1) 0) 1000) := by rw [prL_succ, upS_snoc]
    refine ifB_t (show decide ((((j, encT 2 m ks' vs', f) : Nat × List Int × Bool).1 : Int) < c2) = true from decide_eq_true (by dsimp only; omega)) ?_
    conv => whnf
    refine ifB_t (show (bif true then decide ((((j, encT 2 m ks' vs', f) : Nat × List Int × Bool).1 : Int) < 12) else false) = true from decide_eq_true (by dsimp only; omega)) ?_
    conv => whnf
    repeat (refine And.intro (by dsimp only; omega) ?_; conv => whnf)
    rw [show (((j, encT 2 m ks' vs', f) : Nat × List Int × Bool).1) = j from rfl, E0, E1]
    refine And.intro ⟨i1, i2⟩ ?_
    conv => whnf
    have hPs := prL_succ raw j
    generalize keyD (raw.getD (j * 2) 0) = ky at *
    generalize ipick (raw.getD (j * 2 + 1) 0) 1000 = vl at *
    repeat (refine And.intro (by first | omega | (show j + 1 ≤ 1099511627776; omega)) ?_; conv => whnf)
    have uk : U64 ky := by unfold U64; omega
    have uv : U64 vl := by unfold U64; omega
    cases f
    · replace hS : upS m (ks, vs) (prL raw j) = some (ks', vs') := hS
      rw [hS] at hSs
      replace hSs : upS m (ks, vs) (prL raw (j + 1)) = putO m (ks', vs') (ky, vl) := hSs
      obtain ⟨y1, y2, y3⟩ := hap ks' vs' hT' ky vl
      have hop' := hop ks' vs' hT'
      have hXu := hT'.enc_u kv2 (by omega)
      have G0 : (([0, 0].set (0 + 0 * (1 + 1) + 0) ky).set (0 + 0 * (1 + 1) + (0 + 1)) vl).getD (0 + 0 * (1 + 1)) 0 = ky := rfl
      have G1 : (([0, 0].set (0 + 0 * (1 + 1) + 0) ky).set (0 + 0 * (1 + 1) + (0 + 1)) vl).getD (0 + 1 + 0 * (1 + 1)) 0 = vl := rfl
      conv => whnf
      repeat (refine And.intro (by omega) ?_; conv => whnf)
      refine And.intro ⟨hXu, by omega, uk, uv⟩ ?_
      conv => whnf
      rw [G0, G1, show (((j, encT 2 m ks' vs', false) : Nat × List Int × Bool).2.1) = encT 2 m ks' vs' from rfl, hop', y1, y2, y3]
      conv => whnf
      cases hh : hereK 3 ks' ky
      · by_cases hl : ks'.length = m
        · have hd := put_full hT' kb hh hl (val := vl)
          have hpn : putO m (ks', vs') (ky, vl) = none := by unfold putO; dsimp only; rw [hd]; rfl
          have hel := hT'.enc_len kv2
          rw [hd]
          conv => whnf
          rw [hel, wsucc (j := j) (n := 12) (by omega) (by omega)]
          refine ⟨(j + 1, encT 2 m ks' vs', true), [(324, 5000)], [364], ⟨rfl, rfl, ?_⟩, ⟨⟨(by omega : j + 1 ≤ c2), (by omega : j + 1 ≤ 12)⟩, ks', vs', hT', rfl, hSs.trans hpn⟩, by dsimp only; omega⟩
          show _ = (5000, Blk.fl [.u64, .u64] (flat 2 (prL raw (j + 1)))) :: _
          rw [hPs, flat_append]; rfl
        · obtain ⟨hd, hT2, -⟩ := put_new hT' (by omega) (by omega) kb uv hh hl
          have hps : putO m (ks', vs') (ky, vl) = some (insK ks' (atK 3 ks' ky) ky, insK vs' (atK 3 ks' ky) vl) := by unfold putO; dsimp only; rw [hd]; rfl
          have hel := hT2.enc_len kv2
          rw [hd]
          conv => whnf
          rw [hel, wsucc (j := j) (n := 12) (by omega) (by omega)]
          refine ⟨(j + 1, encT 2 m (insK ks' (atK 3 ks' ky) ky) (insK vs' (atK 3 ks' ky) vl), false), [(324, 5000)], [364], ⟨rfl, rfl, ?_⟩, ⟨⟨(by omega : j + 1 ≤ c2), (by omega : j + 1 ≤ 12)⟩, _, _, hT2, rfl, hSs.trans hps⟩, by dsimp only; omega⟩
          show _ = (5000, Blk.fl [.u64, .u64] (flat 2 (prL raw (j + 1)))) :: _
          rw [hPs, flat_append]; rfl
      · obtain ⟨hd, hT2, -⟩ := put_here hT' (by omega) (by omega) kb uv hh
        have hps : putO m (ks', vs') (ky, vl) = some (ks', vs'.set (atK 3 ks' ky) vl) := by unfold putO; dsimp only; rw [hd]; rfl
        have hel := hT2.enc_len kv2
        rw [hd]
        conv => whnf
        rw [hel, wsucc (j := j) (n := 12) (by omega) (by omega)]
        refine ⟨(j + 1, encT 2 m ks' (vs'.set (atK 3 ks' ky) vl), false), [(324, 5000)], [364], ⟨rfl, rfl, ?_⟩, ⟨⟨(by omega : j + 1 ≤ c2), (by omega : j + 1 ≤ 12)⟩, _, _, hT2, rfl, hSs.trans hps⟩, by dsimp only; omega⟩
        show _ = (5000, Blk.fl [.u64, .u64] (flat 2 (prL raw (j + 1)))) :: _
        rw [hPs, flat_append]; rfl
    · replace hS : upS m (ks, vs) (prL raw j) = none := hS
      rw [hS] at hSs
      replace hSs : upS m (ks, vs) (prL raw (j + 1)) = none := hSs
      conv => whnf
      rw [wsucc (j := j) (n := 12) (by omega) (by omega)]
      refine ⟨(j + 1, encT 2 m ks' vs', true), [(324, 5000)], [], ⟨rfl, rfl, ?_⟩, ⟨⟨(by omega : j + 1 ≤ c2), (by omega : j + 1 ≤ 12)⟩, ks', vs', hT', rfl, hSs⟩, by dsimp only; omega⟩
      show _ = (5000, Blk.fl [.u64, .u64] (flat 2 (prL raw (j + 1)))) :: _
      rw [hPs, flat_append]; rfl
  · have hLu := prL_u raw j
    have hLf : AllU (flat 2 (prL raw j)) := allU_fl2 fun r hr => (hLu r hr).2
    have hLr : recs j 2 (flat 2 (prL raw j)) = prL raw j := recs_flat (.inr rfl) (prL_len raw j) (fun q => by cases q)
    obtain ⟨n1, n2⟩ := hUN (prL raw j) (fun r hr => (hLu r hr).1.2)
    by_cases hc : j < c2
    · refine ifB_t (show decide ((((j, encT 2 m ks' vs', f) : Nat × List Int × Bool).1 : Int) < c2) = true from decide_eq_true (by dsimp only; omega)) ?_
      conv => whnf
      refine ifB_f (show (bif true then decide ((((j, encT 2 m ks' vs', f) : Nat × List Int × Bool).1 : Int) < 12) else false) = false from decide_eq_false (by dsimp only; omega)) ?_
      conv => whnf
      refine And.intro ⟨hwu, hLf, by omega, by dsimp only; omega⟩ ?_
      conv => whnf
      rw [show recs ((j, encT 2 m ks' vs', f) : Nat × List Int × Bool).1 2 (flat 2 (prL raw ((j, encT 2 m ks' vs', f) : Nat × List Int × Bool).1)) = prL raw j from hLr]
      cases f
      · obtain ⟨m1, m2⟩ := n2 (ks', vs') hS
        rw [m1, m2]
        conv => whnf
        exact congrArg (fun b => Am.T.v (Value.bool b)) (by simp)
      · obtain ⟨m1, m2⟩ := n1 hS
        rw [m1, m2]
        conv => whnf
        exact congrArg (fun b => Am.T.v (Value.bool b)) (by simp)
    · refine ifB_f (show decide ((((j, encT 2 m ks' vs', f) : Nat × List Int × Bool).1 : Int) < c2) = false from decide_eq_false (by dsimp only; omega)) ?_
      conv => whnf
      refine And.intro ⟨hwu, hLf, by omega, by dsimp only; omega⟩ ?_
      conv => whnf
      rw [show recs ((j, encT 2 m ks' vs', f) : Nat × List Int × Bool).1 2 (flat 2 (prL raw ((j, encT 2 m ks' vs', f) : Nat × List Int × Bool).1)) = prL raw j from hLr]
      cases f
      · obtain ⟨m1, m2⟩ := n2 (ks', vs') hS
        rw [m1, m2]
        conv => whnf
        exact congrArg (fun b => Am.T.v (Value.bool b)) (by simp)
      · obtain ⟨m1, m2⟩ := n1 hS
        rw [m1, m2]
        conv => whnf
        exact congrArg (fun b => Am.T.v (Value.bool b)) (by simp)
end Go.Proofs.YtnplgklnkcjmnaaGreatDoor.DcT
