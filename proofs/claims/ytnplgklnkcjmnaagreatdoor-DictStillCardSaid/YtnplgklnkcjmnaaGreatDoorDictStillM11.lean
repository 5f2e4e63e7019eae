/- Texts put together: DcJ, DcK, DcL, DcM, DcN, DcNA, DcNB, DcNC, DcNZ, DcO. -/
import Derived.Test.YtnplgklnkcjmnaaGreatDoorDictStillM10
namespace Go.Proofs.YtnplgklnkcjmnaaGreatDoor.DcT
open Go.RowKit Go.Proofs.YtnplgklnkcjmnaaGreatDoor.Am Go.Proofs.YtnplgklnkcjmnaaGreatDoor Go.Proofs.YtnplgklnkcjmnaaGreatDoor.PrT
set_option linter.unusedVariables false
set_option linter.unusedSimpArgs false


noncomputable def ePairs : Entry := ⟨16, 8, fun l => match l with
  | [.agg [.v (.int .i64 k), .v (.int .i64 p), .v (.int .i64 n)], .fl [.u64] q w] => some (some (AllU w ∧ q ≤ 10000), .tup [.ow 0 2 (opK 2 3 k p n w).length, .v (.int .i64 (opE 2 3 k p n w))], [(0, .fl [.u64, .u64] (flat 2 (prD (opK 2 3 k p n w) (opV 2 3 k p n w))))])
  | _ => none⟩
theorem ePairs_ok : ePairs.ok Tryz.prog glM := ⟨Am.enters_of Tryz.func16 (by kernel_rfl) (by kernel_rfl), by
  intro args c t bs h hc
  simp only [ePairs] at h
  split at h <;> cases h
  obtain ⟨h1, h2⟩ := hc _ rfl
  exact pairs_pure _ _ _ _ _ h1 h2⟩
noncomputable def iCall : Inl := ⟨57, Tryz.f57, bodyOf Tryz.f57, [0, 1, 2, 4, 5, 6, 7, 8, 11, 14, 17]⟩
theorem iCall_ok : iCall.ok Tryz.prog := Inl.mk_ok Tryz.func57 (by rfl) (by kernel_rfl) (by kernel_rfl)
noncomputable def iCall1 : Inl := ⟨90, Tryz.f90, bodyOf Tryz.f90, [0, 1, 3, 4, 5, 6]⟩
theorem iCall1_ok : iCall1.ok Tryz.prog := Inl.mk_ok Tryz.func90 (by rfl) (by kernel_rfl) (by kernel_rfl)
noncomputable def iCall2 : Inl := ⟨92, Tryz.f92, bodyOf Tryz.f92, [0, 1, 2, 4, 5, 6, 7]⟩
theorem iCall2_ok : iCall2.ok Tryz.prog := Inl.mk_ok Tryz.func92 (by rfl) (by kernel_rfl) (by kernel_rfl)
noncomputable def iCall3 : Inl := ⟨93, Tryz.f93, bodyOf Tryz.f93, [0, 1, 3, 4, 5, 6, 13]⟩
theorem iCall3_ok : iCall3.ok Tryz.prog := Inl.mk_ok Tryz.func93 (by rfl) (by kernel_rfl) (by kernel_rfl)
noncomputable def iCall4 : Inl := ⟨95, Tryz.f95, bodyOf Tryz.f95, [0, 1, 2, 4, 5, 6, 8, 9, 10, 22]⟩
theorem iCall4_ok : iCall4.ok Tryz.prog := Inl.mk_ok Tryz.func95 (by rfl) (by kernel_rfl) (by kernel_rfl)
noncomputable def iUnless : Inl := ⟨91, Tryz.f91, bodyOf Tryz.f91, [0, 1, 4, 5]⟩
theorem iUnless_ok : iUnless.ok Tryz.prog := Inl.mk_ok Tryz.func91 (by rfl) (by kernel_rfl) (by kernel_rfl)
noncomputable def ctxApD_inl : List Inl := [iCall, iCall1, iCall2, iCall3, iCall4, iUnless, iPairs, iPairs1, iGet, iPut]
theorem ctxApD_inlOk : InlOk Tryz.prog ctxApD_inl := ⟨iCall_ok, iCall1_ok, iCall2_ok, iCall3_ok, iCall4_ok, iUnless_ok, iPairs_ok, iPairs1_ok, iGet_ok, iPut_ok, trivial⟩
noncomputable def ctxApD (P : Program) (h : InlOk P ctxApD_inl) : Ctx := ctx P glM [eOpenDY, eWordsD, eFindP, ePut, eDel, eList] [] (noEq P) ctxApD_inl h.mem
theorem ctxApD_good : (ctxApD Tryz.prog ctxApD_inlOk).good := ctx_good (by kernel_rfl) (AllOk.mem ⟨eOpenDY_ok, eWordsD_ok, eFindP_ok, ePut_ok, eDel_ok, eList_ok, trivial⟩) glM_two
attribute [local irreducible] fitsB rightT okD encT homeI tabT opK opV opE prD tabD upS recs fndP putL putE delL delE hereK atK insK delK nxK lstP rsK
section
variable {p : Int} {m q : Nat} {w : List Int} {code key val : Int}
/-- What is to be shown of a call. -/
def ApG (p : Int) (m q : Nat) (w : List Int) (code key val : Int) : Prop := Pure Tryz.prog glM 23 [.agg [.v (.int .i64 3), .v (.int .i64 p), .v (.int .i64 m)], .fl [.u64] q w, .agg [.v (.int .i64 code), .v (.int .u64 key), .v (.int .u64 val)]]
  (.tup [.ow 0 1 (encT 2 m (tabD 3 m (opK 2 3 3 p m w) (opV 2 3 3 p m w) code key val).1 (tabD 3 m (opK 2 3 3 p m w) (opV 2 3 3 p m w) code key val).2.1).length, .agg [.v (.int .i64 (tabD 3 m (opK 2 3 3 p m w) (opV 2 3 3 p m w) code key val).2.2.1), .v (.int .u64 (tabD 3 m (opK 2 3 3 p m w) (opV 2 3 3 p m w) code key val).2.2.2)], .v (.int .i64 0)])
  [(0, .fl [.u64] (encT 2 m (tabD 3 m (opK 2 3 3 p m w) (opV 2 3 3 p m w) code key val).1 (tabD 3 m (opK 2 3 3 p m w) (opV 2 3 3 p m w) code key val).2.1))]
variable (hu : AllU w) (e0 : opE 2 3 3 p m w = 0) (hf : fitsB 3 p m = true) (hT : TabV 3 m (opK 2 3 3 p m w) (opV 2 3 3 p m w)) (hk : U64 key) (hv : U64 val)
set_option maxHeartbeats 2000000 in
set_option maxRecDepth 100000 in
include hu e0 hf hT in
theorem ap_count : ApG p m q w 9 key val := by
  have hn := fitsK hf
  unfold ApG
  rw [tabD_count rfl]
  refine pure_of (C := ctxApD Tryz.prog ctxApD_inlOk) ctxApD_good Tryz.func23 (c := bodyOf Tryz.f23) (by rfl) (Nat.le_of_ble_eq_true (by rfl)) 4 5 [0, 1, 2, 3, 5, 6, 7, 8, 9, 10, 11, 12, 13, 21, 26, 47] ?_
  conv => whnf
  refine And.intro ⟨hu, e0⟩ ?_
  conv => whnf
  rw [Int.toNat_natCast]
  generalize opK 2 3 3 p m w = ks at *
  generalize opV 2 3 3 p m w = vs at *
  have hkl := hT.len
  have htb := hT.tb kv2
  have htu := htb.u
  have htl : (tabT 2 m ks vs).length = 4 * m := by rw [htb.len]; omega
  have hec : encT 2 m ks vs = (ks.length : Int) :: tabT 2 m ks vs := by unfold encT; rfl
  have hel : (encT 2 m ks vs).length = 1 + 4 * m := by rw [hT.enc_len kv2]; omega
  repeat (refine And.intro (by omega) ?_; conv => whnf)
  dsimp only
  rw [hel, hec]
  repeat' (first | exact trivial | exact rfl | (refine And.intro ?_ ?_) | ((conv => whnf); done) | ((conv => whnf); (first | rfl | (refine congrArg (fun b => T.v (Value.bool b)) ?_; first | rfl | exact (decide_eq_true (by omega)).symm | exact (decide_eq_false (by omega)).symm | exact decide_eq_decide.2 (by omega)) | (refine congrArg (fun b => T.v (Value.int _ b)) ?_; first | rfl | omega) | omega)) | (first | rfl | (refine congrArg (fun b => T.v (Value.bool b)) ?_; first | rfl | exact (decide_eq_true (by omega)).symm | exact (decide_eq_false (by omega)).symm | exact decide_eq_decide.2 (by omega)) | (refine congrArg (fun b => T.v (Value.int _ b)) ?_; first | rfl | omega) | omega))
set_option maxHeartbeats 2000000 in
set_option maxRecDepth 100000 in
include hu e0 hf hT in
theorem ap_other (h : code ≠ 9 ∧ code ≠ 10 ∧ code ≠ 11 ∧ code ≠ 7 ∧ code ≠ 8) : ApG p m q w code key val := by
  have hn := fitsK hf
  obtain ⟨h1, h2, h3, h4, h5⟩ := h
  have htd : tabD 3 m (opK 2 3 3 p m w) (opV 2 3 3 p m w) code key val = (opK 2 3 3 p m w, opV 2 3 3 p m w, 10, 0) := by
    by_cases hx : key ≤ 4611686018427387904
    · rw [tabD_mk kv2 h1 hx]
      unfold plcD
      rw [if_neg h4, if_neg h5, if_neg (fun q => by cases q.2), if_neg (fun q => h2 q.1), if_neg (fun q => by cases q.2), if_neg (fun q => h3 q.1)]
    · exact tabD_bad kv2 h1 hx
  unfold ApG
  rw [htd]
  refine pure_of (C := ctxApD Tryz.prog ctxApD_inlOk) ctxApD_good Tryz.func23 (c := bodyOf Tryz.f23) (by rfl) (Nat.le_of_ble_eq_true (by rfl)) 4 5 [0, 1, 2, 3, 5, 6, 7, 8, 9, 10, 11, 12, 13, 21, 26, 47] ?_
  conv => whnf
  refine And.intro ⟨hu, e0⟩ ?_
  conv => whnf
  rw [Int.toNat_natCast]
  generalize opK 2 3 3 p m w = ks at *
  generalize opV 2 3 3 p m w = vs at *
  have hkl := hT.len
  have htb := hT.tb kv2
  have htu := htb.u
  have htl : (tabT 2 m ks vs).length = 4 * m := by rw [htb.len]; omega
  have hec : encT 2 m ks vs = (ks.length : Int) :: tabT 2 m ks vs := by unfold encT; rfl
  have hel : (encT 2 m ks vs).length = 1 + 4 * m := by rw [hT.enc_len kv2]; omega
  dsimp only
  rw [hel, hec]
  refine ifB_f (by simpa using h1) ?_
  conv => whnf
  refine ifB_f (by simpa using h2) ?_
  conv => whnf
  refine ifB_f (by simpa using h3) ?_
  conv => whnf
  refine ifB_f (by simpa using h4) ?_
  conv => whnf
  refine ifB_f (by simpa using h5) ?_
  conv => whnf
  repeat (refine And.intro (by omega) ?_; conv => whnf)
  repeat' (first | exact trivial | exact rfl | (refine And.intro ?_ ?_) | ((conv => whnf); done) | ((conv => whnf); (first | rfl | (refine congrArg (fun b => T.v (Value.bool b)) ?_; first | rfl | exact (decide_eq_true (by omega)).symm | exact (decide_eq_false (by omega)).symm | exact decide_eq_decide.2 (by omega)) | (refine congrArg (fun b => T.v (Value.int _ b)) ?_; first | rfl | omega) | omega)) | (first | rfl | (refine congrArg (fun b => T.v (Value.bool b)) ?_; first | rfl | exact (decide_eq_true (by omega)).symm | exact (decide_eq_false (by omega)).symm | exact decide_eq_decide.2 (by omega)) | (refine congrArg (fun b => T.v (Value.int _ b)) ?_; first | rfl | omega) | omega))
set_option maxHeartbeats 2000000 in
set_option maxRecDepth 100000 in
include hu e0 hf hT in
theorem ap_big (hc : code = 10 ∨ code = 11 ∨ code = 7 ∨ code = 8) (hx : ¬ key ≤ 4611686018427387904) : ApG p m q w code key val := by
  have hn := fitsK hf
  unfold ApG
  rw [tabD_bad kv2 (by omega) hx]
  rcases hc with rfl | rfl | rfl | rfl
  all_goals (
    refine pure_of (C := ctxApD Tryz.prog ctxApD_inlOk) ctxApD_good Tryz.func23 (c := bodyOf Tryz.f23) (by rfl) (Nat.le_of_ble_eq_true (by rfl)) 4 5 [0, 1, 2, 3, 5, 6, 7, 8, 9, 10, 11, 12, 13, 21, 26, 47] ?_
    conv => whnf
    refine And.intro ⟨hu, e0⟩ ?_
    conv => whnf
    rw [Int.toNat_natCast]
    generalize opK 2 3 3 p m w = ks at *
    generalize opV 2 3 3 p m w = vs at *
    have hkl := hT.len
    have htb := hT.tb kv2
    have htu := htb.u
    have htl : (tabT 2 m ks vs).length = 4 * m := by rw [htb.len]; omega
    have hec : encT 2 m ks vs = (ks.length : Int) :: tabT 2 m ks vs := by unfold encT; rfl
    have hel : (encT 2 m ks vs).length = 1 + 4 * m := by rw [hT.enc_len kv2]; omega
    dsimp only
    rw [hel, hec]
    refine ifB_t (show (bif false then true else decide (key > 4611686018427387904)) = true from decide_eq_true (by omega)) ?_
    conv => whnf
    repeat (refine And.intro (by omega) ?_; conv => whnf)
    repeat' (first | exact trivial | exact rfl | (refine And.intro ?_ ?_) | ((conv => whnf); done) | ((conv => whnf); (first | rfl | (refine congrArg (fun b => T.v (Value.bool b)) ?_; first | rfl | exact (decide_eq_true (by omega)).symm | exact (decide_eq_false (by omega)).symm | exact decide_eq_decide.2 (by omega)) | (refine congrArg (fun b => T.v (Value.int _ b)) ?_; first | rfl | omega) | omega)) | (first | rfl | (refine congrArg (fun b => T.v (Value.bool b)) ?_; first | rfl | exact (decide_eq_true (by omega)).symm | exact (decide_eq_false (by omega)).symm | exact decide_eq_decide.2 (by omega)) | (refine congrArg (fun b => T.v (Value.int _ b)) ?_; first | rfl | omega) | omega)))
set_option maxHeartbeats 2000000 in
set_option maxRecDepth 100000 in
include hu e0 hf hT hk in
theorem ap_get (hx : key ≤ 4611686018427387904) : ApG p m q w 10 key val := by
  have hn := fitsK hf
  obtain ⟨u1, u2⟩ := id hk
  have e1 : IntKind.u64.wrap (key + 1) = key + 1 := wrapU (by omega) (by omega)
  have fG := fun ha => get_here hT (x := key) (val := val) hx ha
  have fN := fun ha => get_no hT (x := key) (val := val) hx ha
  obtain ⟨f1, f2⟩ := dfnd hT (by omega) (by omega) key (by omega)
  unfold ApG
  cases hh : hereK 3 (opK 2 3 3 p m w) key
  · rw [fN hh]
    have f2 := f2 hh
    refine pure_of (C := ctxApD Tryz.prog ctxApD_inlOk) ctxApD_good Tryz.func23 (c := bodyOf Tryz.f23) (by rfl) (Nat.le_of_ble_eq_true (by rfl)) 4 5 [0, 1, 2, 3, 5, 6, 7, 8, 9, 10, 11, 12, 13, 21, 26, 47] ?_
    conv => whnf
    refine And.intro ⟨hu, e0⟩ ?_
    conv => whnf
    rw [Int.toNat_natCast]
    generalize opK 2 3 3 p m w = ks at *
    generalize opV 2 3 3 p m w = vs at *
    have hkl := hT.len
    have htb := hT.tb kv2
    have htu := htb.u
    have htl : (tabT 2 m ks vs).length = 4 * m := by rw [htb.len]; omega
    have hec : encT 2 m ks vs = (ks.length : Int) :: tabT 2 m ks vs := by unfold encT; rfl
    have hel : (encT 2 m ks vs).length = 1 + 4 * m := by rw [hT.enc_len kv2]; omega
    dsimp only
    rw [hel, hec]
    refine ifB_f (show (bif false then true else decide (key > 4611686018427387904)) = false from decide_eq_false (by omega)) ?_
    conv => whnf
    refine And.intro ⟨by omega, htu⟩ ?_
    conv => whnf
    rw [e1, f2]
    conv => whnf
    repeat (refine And.intro (by omega) ?_; conv => whnf)
    repeat' (first | exact trivial | exact rfl | (refine And.intro ?_ ?_) | ((conv => whnf); done) | ((conv => whnf); (first | rfl | (refine congrArg (fun b => T.v (Value.bool b)) ?_; first | rfl | exact (decide_eq_true (by omega)).symm | exact (decide_eq_false (by omega)).symm | exact decide_eq_decide.2 (by omega)) | (refine congrArg (fun b => T.v (Value.int _ b)) ?_; first | rfl | omega) | omega)) | (first | rfl | (refine congrArg (fun b => T.v (Value.bool b)) ?_; first | rfl | exact (decide_eq_true (by omega)).symm | exact (decide_eq_false (by omega)).symm | exact decide_eq_decide.2 (by omega)) | (refine congrArg (fun b => T.v (Value.int _ b)) ?_; first | rfl | omega) | omega))
  · rw [fG hh]
    obtain ⟨pp, hp, f1, f3⟩ := f1 hh
    have hi2 : IntKind.i64.wrap (IntKind.i64.wrap ((pp : Int) * 2) + 1) = ((pp * 2 + 1 : Nat) : Int) := by
      rw [wrap64 (a := (pp : Int) * 2) (by omega) (by omega), wrap64 (by omega) (by omega)]; omega
    refine pure_of (C := ctxApD Tryz.prog ctxApD_inlOk) ctxApD_good Tryz.func23 (c := bodyOf Tryz.f23) (by rfl) (Nat.le_of_ble_eq_true (by rfl)) 4 5 [0, 1, 2, 3, 5, 6, 7, 8, 9, 10, 11, 12, 13, 21, 26, 47] ?_
    conv => whnf
    refine And.intro ⟨hu, e0⟩ ?_
    conv => whnf
    rw [Int.toNat_natCast]
    generalize opK 2 3 3 p m w = ks at *
    generalize opV 2 3 3 p m w = vs at *
    have hkl := hT.len
    have htb := hT.tb kv2
    have htu := htb.u
    have htl : (tabT 2 m ks vs).length = 4 * m := by rw [htb.len]; omega
    have hec : encT 2 m ks vs = (ks.length : Int) :: tabT 2 m ks vs := by unfold encT; rfl
    have hel : (encT 2 m ks vs).length = 1 + 4 * m := by rw [hT.enc_len kv2]; omega
    dsimp only
    rw [hel, hec]
    refine ifB_f (show (bif false then true else decide (key > 4611686018427387904)) = false from decide_eq_false (by omega)) ?_
    conv => whnf
    refine And.intro ⟨by omega, htu⟩ ?_
    conv => whnf
    rw [e1, f1]
    conv => whnf
    rw [if_neg (show ¬ (pp : Int) < 0 by omega), hi2]
    repeat (refine And.intro (by omega) ?_; conv => whnf)
    rw [show (tabT 2 m ks vs).getD (0 + addN 0 ((pp * 2 + 1 : Nat) : Int).toNat * (0 + 1)) 0 = vs.getD (atK 3 ks key) 0 by rw [addN_eq, show 0 + (0 + ((pp * 2 + 1 : Nat) : Int).toNat) * (0 + 1) = pp * 2 + 1 by omega]; exact f3]
    repeat' (first | exact trivial | exact rfl | (refine And.intro ?_ ?_) | ((conv => whnf); done) | ((conv => whnf); (first | rfl | (refine congrArg (fun b => T.v (Value.bool b)) ?_; first | rfl | exact (decide_eq_true (by omega)).symm | exact (decide_eq_false (by omega)).symm | exact decide_eq_decide.2 (by omega)) | (refine congrArg (fun b => T.v (Value.int _ b)) ?_; first | rfl | omega) | omega)) | (first | rfl | (refine congrArg (fun b => T.v (Value.bool b)) ?_; first | rfl | exact (decide_eq_true (by omega)).symm | exact (decide_eq_false (by omega)).symm | exact decide_eq_decide.2 (by omega)) | (refine congrArg (fun b => T.v (Value.int _ b)) ?_; first | rfl | omega) | omega))
set_option maxHeartbeats 2000000 in
set_option maxRecDepth 100000 in
include hu e0 hf hT hk hv in
theorem ap_put (hx : key ≤ 4611686018427387904) : ApG p m q w 11 key val := by
  have hn := fitsK hf
  obtain ⟨u1, u2⟩ := id hk
  have e1 : IntKind.u64.wrap (key + 1) = key + 1 := wrapU (by omega) (by omega)
  have uk1 : U64 (key + 1) := by unfold U64; omega
  have fH := fun ha => put_here hT (by omega) (by omega) (x := key) ⟨u1, hx⟩ hv ha
  have fN := fun ha => put_new hT (by omega) (by omega) (x := key) ⟨u1, hx⟩ hv ha
  have fF := fun ha => put_full hT (x := key) (val := val) ⟨u1, hx⟩ ha
  obtain ⟨f1, f2⟩ := dfnd hT (by omega) (by omega) key (by omega)
  unfold ApG
  cases hh : hereK 3 (opK 2 3 3 p m w) key
  · by_cases hl : (opK 2 3 3 p m w).length = m
    · rw [fF hh hl]
      have f2 := f2 hh
      refine pure_of (C := ctxApD Tryz.prog ctxApD_inlOk) ctxApD_good Tryz.func23 (c := bodyOf Tryz.f23) (by rfl) (Nat.le_of_ble_eq_true (by rfl)) 4 5 [0, 1, 2, 3, 5, 6, 7, 8, 9, 10, 11, 12, 13, 21, 26, 47] ?_
      conv => whnf
      refine And.intro ⟨hu, e0⟩ ?_
      conv => whnf
      rw [Int.toNat_natCast]
      generalize opK 2 3 3 p m w = ks at *
      generalize opV 2 3 3 p m w = vs at *
      have hkl := hT.len
      have htb := hT.tb kv2
      have htu := htb.u
      have htl : (tabT 2 m ks vs).length = 4 * m := by rw [htb.len]; omega
      have hec : encT 2 m ks vs = (ks.length : Int) :: tabT 2 m ks vs := by unfold encT; rfl
      have hel : (encT 2 m ks vs).length = 1 + 4 * m := by rw [hT.enc_len kv2]; omega
      dsimp only
      rw [hel, hec]
      refine ifB_f (show (bif false then true else decide (key > 4611686018427387904)) = false from decide_eq_false (by omega)) ?_
      conv => whnf
      refine And.intro ⟨by omega, htu⟩ ?_
      conv => whnf
      rw [e1, f2]
      conv => whnf
      refine ifB_t (show ((ks.length : Int) == m) = true by simp; omega) ?_
      conv => whnf
      repeat (refine And.intro (by omega) ?_; conv => whnf)
      repeat' (first | exact trivial | exact rfl | (refine And.intro ?_ ?_) | ((conv => whnf); done) | ((conv => whnf); (first | rfl | (refine congrArg (fun b => T.v (Value.bool b)) ?_; first | rfl | exact (decide_eq_true (by omega)).symm | exact (decide_eq_false (by omega)).symm | exact decide_eq_decide.2 (by omega)) | (refine congrArg (fun b => T.v (Value.int _ b)) ?_; first | rfl | omega) | omega)) | (first | rfl | (refine congrArg (fun b => T.v (Value.bool b)) ?_; first | rfl | exact (decide_eq_true (by omega)).symm | exact (decide_eq_false (by omega)).symm | exact decide_eq_decide.2 (by omega)) | (refine congrArg (fun b => T.v (Value.int _ b)) ?_; first | rfl | omega) | omega))
    · obtain ⟨hd, hT2, hP⟩ := fN hh hl
      rw [hd]
      have f2 := f2 hh
      refine pure_of (C := ctxApD Tryz.prog ctxApD_inlOk) ctxApD_good Tryz.func23 (c := bodyOf Tryz.f23) (by rfl) (Nat.le_of_ble_eq_true (by rfl)) 4 5 [0, 1, 2, 3, 5, 6, 7, 8, 9, 10, 11, 12, 13, 21, 26, 47] ?_
      conv => whnf
      refine And.intro ⟨hu, e0⟩ ?_
      conv => whnf
      rw [Int.toNat_natCast]
      generalize opK 2 3 3 p m w = ks at *
      generalize opV 2 3 3 p m w = vs at *
      have hkl := hT.len
      have htb := hT.tb kv2
      have htu := htb.u
      have htl : (tabT 2 m ks vs).length = 4 * m := by rw [htb.len]; omega
      have hec : encT 2 m ks vs = (ks.length : Int) :: tabT 2 m ks vs := by unfold encT; rfl
      have hel : (encT 2 m ks vs).length = 1 + 4 * m := by rw [hT.enc_len kv2]; omega
      have htl2 : (tabT 2 m (insK ks (atK 3 ks key) key) (insK vs (atK 3 ks key) val)).length = 4 * m := by rw [(hT2.tb kv2).len]; omega
      have hil := insK_len (l := ks) (a := atK 3 ks key) (w := key) (atK_le _ _ _)
      have hec2 : encT 2 m (insK ks (atK 3 ks key) key) (insK vs (atK 3 ks key) val) = ((ks.length + 1 : Nat) : Int) :: tabT 2 m (insK ks (atK 3 ks key) key) (insK vs (atK 3 ks key) val) := by unfold encT; rw [hil]
      have hel2 : (encT 2 m (insK ks (atK 3 ks key) key) (insK vs (atK 3 ks key) val)).length = 1 + 4 * m := by rw [hT2.enc_len kv2]; omega
      dsimp only
      rw [hel2, hec2]
      refine ifB_f (show (bif false then true else decide (key > 4611686018427387904)) = false from decide_eq_false (by omega)) ?_
      conv => whnf
      refine And.intro ⟨by omega, htu⟩ ?_
      conv => whnf
      rw [e1, f2]
      conv => whnf
      refine ifB_f (show ((ks.length : Int) == m) = false by simp; omega) ?_
      conv => whnf
      rw [e1]
      refine And.intro ⟨by omega, htu, uk1⟩ ?_
      conv => whnf
      rw [hP, htl2, show IntKind.u64.wrap ((ks.length : Int) + 1) = ((ks.length + 1 : Nat) : Int) by rw [wrapU (by omega) (by omega)]; omega]
      repeat (refine And.intro (by omega) ?_; conv => whnf)
      repeat' (first | exact trivial | exact rfl | (refine And.intro ?_ ?_) | ((conv => whnf); done) | ((conv => whnf); (first | rfl | (refine congrArg (fun b => T.v (Value.bool b)) ?_; first | rfl | exact (decide_eq_true (by omega)).symm | exact (decide_eq_false (by omega)).symm | exact decide_eq_decide.2 (by omega)) | (refine congrArg (fun b => T.v (Value.int _ b)) ?_; first | rfl | omega) | omega)) | (first | rfl | (refine congrArg (fun b => T.v (Value.bool b)) ?_; first | rfl | exact (decide_eq_true (by omega)).symm | exact (decide_eq_false (by omega)).symm | exact decide_eq_decide.2 (by omega)) | (refine congrArg (fun b => T.v (Value.int _ b)) ?_; first | rfl | omega) | omega))
  · obtain ⟨hd, hT2, hP⟩ := fH hh
    rw [hd]
    obtain ⟨pp, hp, f1, f3⟩ := f1 hh
    have hi2 : IntKind.i64.wrap (IntKind.i64.wrap ((pp : Int) * 2) + 1) = ((pp * 2 + 1 : Nat) : Int) := by
      rw [wrap64 (a := (pp : Int) * 2) (by omega) (by omega), wrap64 (by omega) (by omega)]; omega
    refine pure_of (C := ctxApD Tryz.prog ctxApD_inlOk) ctxApD_good Tryz.func23 (c := bodyOf Tryz.f23) (by rfl) (Nat.le_of_ble_eq_true (by rfl)) 4 5 [0, 1, 2, 3, 5, 6, 7, 8, 9, 10, 11, 12, 13, 21, 26, 47] ?_
    conv => whnf
    refine And.intro ⟨hu, e0⟩ ?_
    conv => whnf
    rw [Int.toNat_natCast]
    generalize opK 2 3 3 p m w = ks at *
    generalize opV 2 3 3 p m w = vs at *
    have hkl := hT.len
    have htb := hT.tb kv2
    have htu := htb.u
    have htl : (tabT 2 m ks vs).length = 4 * m := by rw [htb.len]; omega
    have hec : encT 2 m ks vs = (ks.length : Int) :: tabT 2 m ks vs := by unfold encT; rfl
    have hel : (encT 2 m ks vs).length = 1 + 4 * m := by rw [hT.enc_len kv2]; omega
    have htl2 : (tabT 2 m ks (vs.set (atK 3 ks key) val)).length = 4 * m := by rw [(hT2.tb kv2).len]; omega
    have hec2 : encT 2 m ks (vs.set (atK 3 ks key) val) = (ks.length : Int) :: tabT 2 m ks (vs.set (atK 3 ks key) val) := by unfold encT; rfl
    have hel2 : (encT 2 m ks (vs.set (atK 3 ks key) val)).length = 1 + 4 * m := by rw [hT2.enc_len kv2]; omega
    dsimp only
    rw [hel2, hec2]
    refine ifB_f (show (bif false then true else decide (key > 4611686018427387904)) = false from decide_eq_false (by omega)) ?_
    conv => whnf
    refine And.intro ⟨by omega, htu⟩ ?_
    conv => whnf
    rw [e1, f1]
    conv => whnf
    rw [if_neg (show ¬ (pp : Int) < 0 by omega), hi2]
    repeat (refine And.intro (by omega) ?_; conv => whnf)
    rw [e1, show (tabT 2 m ks vs).getD (0 + addN 0 ((pp * 2 + 1 : Nat) : Int).toNat * (0 + 1)) 0 = vs.getD (atK 3 ks key) 0 by rw [addN_eq, show 0 + (0 + ((pp * 2 + 1 : Nat) : Int).toNat) * (0 + 1) = pp * 2 + 1 by omega]; exact f3]
    refine And.intro ⟨by omega, htu, uk1⟩ ?_
    conv => whnf
    rw [hP, htl2]
    repeat (refine And.intro (by omega) ?_; conv => whnf)
    repeat' (first | exact trivial | exact rfl | (refine And.intro ?_ ?_) | ((conv => whnf); done) | ((conv => whnf); (first | rfl | (refine congrArg (fun b => T.v (Value.bool b)) ?_; first | rfl | exact (decide_eq_true (by omega)).symm | exact (decide_eq_false (by omega)).symm | exact decide_eq_decide.2 (by omega)) | (refine congrArg (fun b => T.v (Value.int _ b)) ?_; first | rfl | omega) | omega)) | (first | rfl | (refine congrArg (fun b => T.v (Value.bool b)) ?_; first | rfl | exact (decide_eq_true (by omega)).symm | exact (decide_eq_false (by omega)).symm | exact decide_eq_decide.2 (by omega)) | (refine congrArg (fun b => T.v (Value.int _ b)) ?_; first | rfl | omega) | omega))
set_option maxHeartbeats 2000000 in
set_option maxRecDepth 100000 in
include hu e0 hf hT hk hv in
theorem ap_del (hx : key ≤ 4611686018427387904) : ApG p m q w 7 key val := by
  have hn := fitsK hf
  obtain ⟨u1, u2⟩ := id hk
  have e1 : IntKind.u64.wrap (key + 1) = key + 1 := wrapU (by omega) (by omega)
  have fH := fun ha => del_here hT (by omega) (by omega) (x := key) ⟨u1, hx⟩ hv ha
  have fN := fun ha => del_no (ks := opK 2 3 3 p m w) (vs := opV 2 3 3 p m w) (m := m) kv2 (x := key) (val := val) hx ha
  obtain ⟨f1, f2⟩ := dfnd hT (by omega) (by omega) key (by omega)
  unfold ApG
  cases hh : hereK 3 (opK 2 3 3 p m w) key
  · rw [fN hh]
    have f2 := f2 hh
    refine pure_of (C := ctxApD Tryz.prog ctxApD_inlOk) ctxApD_good Tryz.func23 (c := bodyOf Tryz.f23) (by rfl) (Nat.le_of_ble_eq_true (by rfl)) 4 5 [0, 1, 2, 3, 5, 6, 7, 8, 9, 10, 11, 12, 13, 21, 26, 47] ?_
    conv => whnf
    refine And.intro ⟨hu, e0⟩ ?_
    conv => whnf
    rw [Int.toNat_natCast]
    generalize opK 2 3 3 p m w = ks at *
    generalize opV 2 3 3 p m w = vs at *
    have hkl := hT.len
    have htb := hT.tb kv2
    have htu := htb.u
    have htl : (tabT 2 m ks vs).length = 4 * m := by rw [htb.len]; omega
    have hec : encT 2 m ks vs = (ks.length : Int) :: tabT 2 m ks vs := by unfold encT; rfl
    have hel : (encT 2 m ks vs).length = 1 + 4 * m := by rw [hT.enc_len kv2]; omega
    dsimp only
    rw [hel, hec]
    refine ifB_f (show (bif false then true else decide (key > 4611686018427387904)) = false from decide_eq_false (by omega)) ?_
    conv => whnf
    refine And.intro ⟨by omega, htu⟩ ?_
    conv => whnf
    rw [e1, f2]
    conv => whnf
    repeat (refine And.intro (by omega) ?_; conv => whnf)
    repeat' (first | exact trivial | exact rfl | (refine And.intro ?_ ?_) | ((conv => whnf); done) | ((conv => whnf); (first | rfl | (refine congrArg (fun b => T.v (Value.bool b)) ?_; first | rfl | exact (decide_eq_true (by omega)).symm | exact (decide_eq_false (by omega)).symm | exact decide_eq_decide.2 (by omega)) | (refine congrArg (fun b => T.v (Value.int _ b)) ?_; first | rfl | omega) | omega)) | (first | rfl | (refine congrArg (fun b => T.v (Value.bool b)) ?_; first | rfl | exact (decide_eq_true (by omega)).symm | exact (decide_eq_false (by omega)).symm | exact decide_eq_decide.2 (by omega)) | (refine congrArg (fun b => T.v (Value.int _ b)) ?_; first | rfl | omega) | omega))
  · obtain ⟨hd, hT2, hP⟩ := fH hh
    rw [hd]
    obtain ⟨a1, -⟩ := hereK_t hh
    obtain ⟨pp, hp, f1, f3⟩ := f1 hh
    have hi2 : IntKind.i64.wrap (IntKind.i64.wrap ((pp : Int) * 2) + 1) = ((pp * 2 + 1 : Nat) : Int) := by
      rw [wrap64 (a := (pp : Int) * 2) (by omega) (by omega), wrap64 (by omega) (by omega)]; omega
    refine pure_of (C := ctxApD Tryz.prog ctxApD_inlOk) ctxApD_good Tryz.func23 (c := bodyOf Tryz.f23) (by rfl) (Nat.le_of_ble_eq_true (by rfl)) 4 5 [0, 1, 2, 3, 5, 6, 7, 8, 9, 10, 11, 12, 13, 21, 26, 47] ?_
    conv => whnf
    refine And.intro ⟨hu, e0⟩ ?_
    conv => whnf
    rw [Int.toNat_natCast]
    generalize opK 2 3 3 p m w = ks at *
    generalize opV 2 3 3 p m w = vs at *
    have hkl := hT.len
    have htb := hT.tb kv2
    have htu := htb.u
    have htl : (tabT 2 m ks vs).length = 4 * m := by rw [htb.len]; omega
    have hec : encT 2 m ks vs = (ks.length : Int) :: tabT 2 m ks vs := by unfold encT; rfl
    have hel : (encT 2 m ks vs).length = 1 + 4 * m := by rw [hT.enc_len kv2]; omega
    have htl2 : (tabT 2 m (delK ks (atK 3 ks key)) (delK vs (atK 3 ks key))).length = 4 * m := by rw [(hT2.tb kv2).len]; omega
    have hil := delK_len (l := ks) (a := atK 3 ks key) a1
    have hec2 : encT 2 m (delK ks (atK 3 ks key)) (delK vs (atK 3 ks key)) = ((ks.length - 1 : Nat) : Int) :: tabT 2 m (delK ks (atK 3 ks key)) (delK vs (atK 3 ks key)) := by unfold encT; rw [hil]
    have hel2 : (encT 2 m (delK ks (atK 3 ks key)) (delK vs (atK 3 ks key))).length = 1 + 4 * m := by rw [hT2.enc_len kv2]; omega
    dsimp only
    rw [hel2, hec2]
    refine ifB_f (show (bif false then true else decide (key > 4611686018427387904)) = false from decide_eq_false (by omega)) ?_
    conv => whnf
    refine And.intro ⟨by omega, htu⟩ ?_
    conv => whnf
    rw [e1, f1]
    conv => whnf
    rw [if_neg (show ¬ (pp : Int) < 0 by omega), hi2]
    repeat (refine And.intro (by omega) ?_; conv => whnf)
    rw [e1, show (tabT 2 m ks vs).getD (0 + addN 0 ((pp * 2 + 1 : Nat) : Int).toNat * (0 + 1)) 0 = vs.getD (atK 3 ks key) 0 by rw [addN_eq, show 0 + (0 + ((pp * 2 + 1 : Nat) : Int).toNat) * (0 + 1) = pp * 2 + 1 by omega]; exact f3]
    refine And.intro ⟨by omega, htu⟩ ?_
    conv => whnf
    rw [hP, htl2, show IntKind.u64.wrap ((ks.length : Int) - 1) = ((ks.length - 1 : Nat) : Int) by rw [wrapU (by omega) (by omega)]; omega]
    repeat (refine And.intro (by omega) ?_; conv => whnf)
    repeat' (first | exact trivial | exact rfl | (refine And.intro ?_ ?_) | ((conv => whnf); done) | ((conv => whnf); (first | rfl | (refine congrArg (fun b => T.v (Value.bool b)) ?_; first | rfl | exact (decide_eq_true (by omega)).symm | exact (decide_eq_false (by omega)).symm | exact decide_eq_decide.2 (by omega)) | (refine congrArg (fun b => T.v (Value.int _ b)) ?_; first | rfl | omega) | omega)) | (first | rfl | (refine congrArg (fun b => T.v (Value.bool b)) ?_; first | rfl | exact (decide_eq_true (by omega)).symm | exact (decide_eq_false (by omega)).symm | exact decide_eq_decide.2 (by omega)) | (refine congrArg (fun b => T.v (Value.int _ b)) ?_; first | rfl | omega) | omega))
set_option maxHeartbeats 2000000 in
set_option maxRecDepth 100000 in
include hu e0 hf hT in
theorem ap_next (hx : key ≤ 4611686018427387904) : ApG p m q w 8 key val := by
  have hn := fitsK hf
  have fX := next_is (ks := opK 2 3 3 p m w) (vs := opV 2 3 3 p m w) (m := m) kv2 (x := key) (val := val) hx
  have hku := fun i hi => hT.k_u kv2 (i := i) hi
  have hls : lstP 2 (tabT 2 m (opK 2 3 3 p m w) (opV 2 3 3 p m w)) = rsK 2 (opK 2 3 3 p m w) (opV 2 3 3 p m w) := hT.lst kv2 (by omega) (by omega)
  have hrl := rsK_len 2 (opK 2 3 3 p m w) (opV 2 3 3 p m w)
  have fI := fun j hj h1 h2 => nx_is hT kv2 (x := key) (val := val) (j := j) hj h1 h2
  unfold ApG
  rw [fX]
  refine pure_of (C := ctxApD Tryz.prog ctxApD_inlOk) ctxApD_good Tryz.func23 (c := bodyOf Tryz.f23) (by rfl) (Nat.le_of_ble_eq_true (by rfl)) 4 5 [0, 1, 2, 3, 5, 6, 7, 8, 9, 10, 11, 12, 13, 21, 26, 47] ?_
  conv => whnf
  refine And.intro ⟨hu, e0⟩ ?_
  conv => whnf
  rw [Int.toNat_natCast]
  generalize opK 2 3 3 p m w = ks at *
  generalize opV 2 3 3 p m w = vs at *
  have hkl := hT.len
  have htb := hT.tb kv2
  have htu := htb.u
  have htl : (tabT 2 m ks vs).length = 4 * m := by rw [htb.len]; omega
  have hec : encT 2 m ks vs = (ks.length : Int) :: tabT 2 m ks vs := by unfold encT; rfl
  have hel : (encT 2 m ks vs).length = 1 + 4 * m := by rw [hT.enc_len kv2]; omega
  refine ifB_f (show (bif false then true else decide (key > 4611686018427387904)) = false from decide_eq_false (by omega)) ?_
  conv => whnf
  intro l
  conv => whnf
  repeat (refine And.intro (by first | omega | exact ⟨by omega, htu⟩) ?_; conv => whnf)
  rw [hls, hrl]
  refine TW.loopD ctxApD_good 4 (base := 7000000) (lv := [0, 1, 4, 9, 10, 11, 12, 22]) [11] [] [] (fun j : Nat => [.v (.int .i64 j)]) (fun _ => []) (fun j => j ≤ ks.length ∧ ∀ i, i < j → ¬ (ks.getD i 0 > key ∨ (ks.getD i 0 = key ∧ val = 0))) (fun j => ks.length - j) ?_
  conv => whnf
  refine ⟨⟨0, ⟨rfl, rfl, rfl⟩, Nat.zero_le _, fun i hi => by omega⟩, fun j ⟨hj, hg⟩ => ?_⟩
  conv => whnf
  refine ifB_dec (fun h => ?_) (fun h => ?_)
  · replace h : (j : Int) < ks.length := h
    obtain ⟨k1, k2⟩ := hku j (by omega)
    have E0 : (flat 2 (rsK 2 ks vs)).getD (0 + addN 0 (j : Int).toNat * (1 + 1) + 0) 0 = ks.getD j 0 + 1 := by
      rw [addN_eq, show 0 + (0 + (j : Int).toNat) * (1 + 1) + 0 = j * 2 by omega, flat_key (.inr rfl) _ (by rw [hrl]; omega)]
      unfold kR; rw [rsK_get 2 ks vs (by omega)]
    have e1 : IntKind.u64.wrap (ks.getD j 0 + 1 - 1) = ks.getD j 0 := by rw [wrapU (by omega) (by omega)]; omega
    have G0 : IntKind.u64.wrap ((([0, 0].set (0 + 0 * (1 + 1) + 0) ((flat 2 (rsK 2 ks vs)).getD (0 + addN 0 (j : Int).toNat * (1 + 1) + 0) 0)).set (0 + 0 * (1 + 1) + (0 + 1)) ((flat 2 (rsK 2 ks vs)).getD (0 + addN 0 (j : Int).toNat * (1 + 1) + (0 + 1)) 0)).getD (0 + 0 * (1 + 1)) 0 - 1) = ks.getD j 0 := by
      show IntKind.u64.wrap ((flat 2 (rsK 2 ks vs)).getD (0 + addN 0 (j : Int).toNat * (1 + 1) + 0) 0 - 1) = _
      rw [E0, e1]
    conv => whnf
    repeat (refine And.intro (by omega) ?_; conv => whnf)
    rw [G0]
    by_cases hgo : ks.getD j 0 > key ∨ (ks.getD j 0 = key ∧ val = 0)
    · have hnx := fI j (by omega) hg (fun _ => hgo)
      rw [hnx, if_neg (by omega)]
      dsimp only
      rw [hel, hec]
      by_cases hg1 : ks.getD j 0 > key
      · refine ifB_t (decide_eq_true hg1) ?_
        conv => whnf
        repeat (refine And.intro (by first | rfl | omega) ?_; conv => whnf)
        repeat' (first | exact trivial | exact rfl | (refine And.intro ?_ ?_) | ((conv => whnf); done) | ((conv => whnf); (first | rfl | (refine congrArg (fun b => T.v (Value.bool b)) ?_; first | rfl | exact (decide_eq_true (by omega)).symm | exact (decide_eq_false (by omega)).symm | exact decide_eq_decide.2 (by omega)) | (refine congrArg (fun b => T.v (Value.int _ b)) ?_; first | rfl | omega) | omega)) | (first | rfl | (refine congrArg (fun b => T.v (Value.bool b)) ?_; first | rfl | exact (decide_eq_true (by omega)).symm | exact (decide_eq_false (by omega)).symm | exact decide_eq_decide.2 (by omega)) | (refine congrArg (fun b => T.v (Value.int _ b)) ?_; first | rfl | omega) | omega))
      · obtain ⟨hg2, hg3⟩ := hgo.resolve_left hg1
        subst hg3
        refine ifB_f (decide_eq_false hg1) ?_
        conv => whnf
        refine ifB_t (show (ks.getD j 0 == key) = true from beq_iff_eq.2 hg2) ?_
        conv => whnf
        repeat (refine And.intro (by first | rfl | omega) ?_; conv => whnf)
        repeat' (first | exact trivial | exact rfl | (refine And.intro ?_ ?_) | ((conv => whnf); done) | ((conv => whnf); (first | rfl | (refine congrArg (fun b => T.v (Value.bool b)) ?_; first | rfl | exact (decide_eq_true (by omega)).symm | exact (decide_eq_false (by omega)).symm | exact decide_eq_decide.2 (by omega)) | (refine congrArg (fun b => T.v (Value.int _ b)) ?_; first | rfl | omega) | omega)) | (first | rfl | (refine congrArg (fun b => T.v (Value.bool b)) ?_; first | rfl | exact (decide_eq_true (by omega)).symm | exact (decide_eq_false (by omega)).symm | exact decide_eq_decide.2 (by omega)) | (refine congrArg (fun b => T.v (Value.int _ b)) ?_; first | rfl | omega) | omega))
    · have hg1 : ¬ ks.getD j 0 > key := fun q => hgo (.inl q)
      refine ifB_f (decide_eq_false hg1) ?_
      conv => whnf
      refine ifB_eq (x := ks.getD j 0) (y := key) (fun hg2 => ?_) (fun hg2 => ?_)
      · have hv0 : val ≠ 0 := fun q => hgo (.inr ⟨hg2, q⟩)
        conv => whnf
        refine ifB_f (show (bif false then true else (bif true then (val == 0) else false)) = false by simpa using hv0) ?_
        conv => whnf
        repeat (refine And.intro (by first | rfl | omega) ?_; conv => whnf)
        rw [wsucc (j := j) (n := ks.length) (by omega) (by omega)]
        refine ⟨j + 1, [], ⟨rfl, rfl, rfl⟩, ⟨(by omega : j + 1 ≤ ks.length), fun i hi => ?_⟩, by dsimp only; omega⟩
        by_cases z : i = j
        · rw [z]; exact hgo
        · exact hg i (by omega)
      · conv => whnf
        repeat (refine And.intro (by first | rfl | omega) ?_; conv => whnf)
        rw [wsucc (j := j) (n := ks.length) (by omega) (by omega)]
        refine ⟨j + 1, [], ⟨rfl, rfl, rfl⟩, ⟨(by omega : j + 1 ≤ ks.length), fun i hi => ?_⟩, by dsimp only; omega⟩
        by_cases z : i = j
        · rw [z]; exact hgo
        · exact hg i (by omega)
  · replace h : ¬ (j : Int) < ks.length := h
    obtain rfl : j = ks.length := by omega
    rw [if_pos (fI ks.length (Nat.le_refl _) hg (fun q => by omega))]
    dsimp only
    rw [hel, hec]
    conv => whnf
    repeat (refine And.intro (by first | rfl | omega) ?_; conv => whnf)
    repeat' (first | exact trivial | exact rfl | (refine And.intro ?_ ?_) | ((conv => whnf); done) | ((conv => whnf); (first | rfl | (refine congrArg (fun b => T.v (Value.bool b)) ?_; first | rfl | exact (decide_eq_true (by omega)).symm | exact (decide_eq_false (by omega)).symm | exact decide_eq_decide.2 (by omega)) | (refine congrArg (fun b => T.v (Value.int _ b)) ?_; first | rfl | omega) | omega)) | (first | rfl | (refine congrArg (fun b => T.v (Value.bool b)) ?_; first | rfl | exact (decide_eq_true (by omega)).symm | exact (decide_eq_false (by omega)).symm | exact decide_eq_decide.2 (by omega)) | (refine congrArg (fun b => T.v (Value.int _ b)) ?_; first | rfl | omega) | omega))
end
end Go.Proofs.YtnplgklnkcjmnaaGreatDoor.DcT
namespace Go.Proofs.YtnplgklnkcjmnaaGreatDoor.DcT
open Go.RowKit Go.Proofs.YtnplgklnkcjmnaaGreatDoor.Am Go.Proofs.YtnplgklnkcjmnaaGreatDoor Go.Proofs.YtnplgklnkcjmnaaGreatDoor.PrT
set_option linter.unusedVariables false
set_option linter.unusedSimpArgs false


set_option maxRecDepth 100000 in
theorem apply_pure (k p n : Int) (q : Nat) (w : List Int) (code key val : Int) (hu : AllU w) (hq : q ≤ 10000) (hk : U64 key) (hv : U64 val) : Pure Tryz.prog glM 23 [.agg [.v (.int .i64 k), .v (.int .i64 p), .v (.int .i64 n)], .fl [.u64] q w, .agg [.v (.int .i64 code), .v (.int .u64 key), .v (.int .u64 val)]] (.tup [.ow 0 1 (apL 2 3 k p n w code key val).length, .agg [.v (.int .i64 (apR 2 3 k p n w code key val)), .v (.int .u64 (apV 2 3 k p n w code key val))], .v (.int .i64 (opE 2 3 k p n w))]) [(0, .fl [.u64] (apL 2 3 k p n w code key val))] := by
  rcases op_facts kv2 k p n hu with ⟨e0, rfl, hf, hT, -, -⟩ | ⟨e0, -, -, -⟩
  · have hn := fitsK hf
    obtain ⟨m, rfl⟩ := Int.eq_ofNat_of_zero_le (a := n) (by omega)
    obtain ⟨y1, y2, y3⟩ := ap_yes (code := code) (key := key) (val := val) e0
    rw [Int.toNat_natCast] at hT y1
    rw [y1, y2, y3, e0]
    show ApG p m q w code key val
    by_cases h9 : code = 9
    · subst h9; exact ap_count hu e0 hf hT
    by_cases h10 : code = 10 ∨ code = 11 ∨ code = 7 ∨ code = 8
    · by_cases hx : key ≤ 4611686018427387904
      · rcases h10 with rfl | rfl | rfl | rfl
        · exact ap_get hu e0 hf hT hk hx
        · exact ap_put hu e0 hf hT hk hv hx
        · exact ap_del hu e0 hf hT hk hv hx
        · exact ap_next hu e0 hf hT hx
      · exact ap_big hu e0 hf hT h10 hx
    · exact ap_other hu e0 hf hT (by omega)
  · have hne : opE 2 3 k p n w ≠ 0 := by omega
    obtain ⟨y1, y2, y3⟩ := ap_no (code := code) (key := key) (val := val) hne
    rw [y1, y2, y3]
    refine pure_of (C := ctxUpN Tryz.prog) ctxUpN_good Tryz.func23 (c := bodyOf Tryz.f23) (by rfl) (Nat.le_of_ble_eq_true (by rfl)) 4 0 [0, 1, 2, 3, 5, 6, 7, 8, 9, 10, 11, 12, 13, 21, 26, 47] ?_
    conv => whnf
    refine And.intro ⟨hu, hq, hne⟩ ?_
    conv => whnf
    refine ifB_ne (fun h => ?_) (fun h => absurd h hne)
    conv => whnf
    repeat' (first | exact trivial | exact rfl | (refine And.intro ?_ ?_) | ((conv => whnf); done) | ((conv => whnf); (first | rfl | (refine congrArg (fun b => T.v (Value.bool b)) ?_; first | rfl | exact (decide_eq_true (by omega)).symm | exact (decide_eq_false (by omega)).symm | exact decide_eq_decide.2 (by omega)) | (refine congrArg (fun b => T.v (Value.int _ b)) ?_; first | rfl | omega) | omega)) | (first | rfl | (refine congrArg (fun b => T.v (Value.bool b)) ?_; first | rfl | exact (decide_eq_true (by omega)).symm | exact (decide_eq_false (by omega)).symm | exact decide_eq_decide.2 (by omega)) | (refine congrArg (fun b => T.v (Value.int _ b)) ?_; first | rfl | omega) | omega))
noncomputable def eApply : Entry := ⟨23, 8, fun l => match l with
  | [.agg [.v (.int .i64 k), .v (.int .i64 p), .v (.int .i64 n)], .fl [.u64] q w, .agg [.v (.int .i64 code), .v (.int .u64 key), .v (.int .u64 val)]] => some (some (AllU w ∧ q ≤ 10000 ∧ U64 key ∧ U64 val), .tup [.ow 0 1 (apL 2 3 k p n w code key val).length, .agg [.v (.int .i64 (apR 2 3 k p n w code key val)), .v (.int .u64 (apV 2 3 k p n w code key val))], .v (.int .i64 (opE 2 3 k p n w))], [(0, .fl [.u64] (apL 2 3 k p n w code key val))])
  | _ => none⟩
theorem eApply_ok : eApply.ok Tryz.prog glM := ⟨Am.enters_of Tryz.func23 (by kernel_rfl) (by kernel_rfl), by
  intro args c t bs h hc
  simp only [eApply] at h
  split at h <;> cases h
  obtain ⟨h1, h2, h3, h4⟩ := hc _ rfl
  exact apply_pure _ _ _ _ _ _ _ _ h1 h2 h3 h4⟩
/-! ### the law's own functions -/

set_option maxRecDepth 100000 in
theorem pick12_pure (c n : Int) (hc : I64 c) (hn : 0 < n) (hn2 : n ≤ 4096) : Pure Tryz.prog glR 15 [.v (.int .i64 c), .v (.int .i64 n)] (.v (.int .i64 (ipick c n))) := by
  have hv := ipick_val c n hc
  refine pure_of (C := ctx0 Tryz.prog) ctx0_good Tryz.func15 (c := bodyOf Tryz.f15) (by rfl) (Nat.le_of_ble_eq_true (by rfl)) 4 0 [0, 1, 2, 4, 6] ?_
  conv => whnf
  repeat' (first | (refine ifB_t (by assumption) ?_; conv => whnf) | (refine ifB_f (by assumption) ?_; conv => whnf) | (refine ifB_dec (fun h => ?_) (fun h => ?_) <;> (first | (exfalso; omega) | (conv => whnf))) | (refine ifB_eq (fun h => ?_) (fun h => ?_) <;> (first | (exfalso; omega) | (conv => whnf))) | (refine ifB_ne (fun h => ?_) (fun h => ?_) <;> (first | (exfalso; omega) | (conv => whnf))) | (refine ifB_not ?_; conv => whnf) | (refine ifB_and ?_; conv => whnf) | (refine ifB_or ?_; conv => whnf) | (refine And.intro ?_ ?_; (first | omega | assumption | (exact allU_getD (by assumption) _) | (simp only [cutL]; omega) | (refine And.intro ?_ ?_ <;> first | assumption | exact allU_getD (by assumption) _) | (simp only [cutL, IntKind.wrap_u64, IntKind.wrap_i64] at *; omega) | decide); conv => whnf))
  · rw [if_pos h] at hv; exact congrArg (fun b => T.v (Value.int .i64 b)) hv
  · rw [if_neg h] at hv; exact congrArg (fun b => T.v (Value.int .i64 b)) hv
noncomputable def ePick12 : Entry := ⟨15, 3, fun l => match l with | [.v (.int .i64 c), .v (.int .i64 n)] => some (some (I64 c ∧ 0 < n ∧ n ≤ 4096), .v (.int .i64 (ipick c n)), []) | _ => none⟩
theorem ePick12_ok : ePick12.ok Tryz.prog glR := ⟨Am.enters_of Tryz.func15 (by kernel_rfl) (by kernel_rfl), by
  intro args c t bs h hc
  simp only [ePick12] at h
  split at h <;> cases h
  replace hc := hc _ rfl
  exact pick12_pure _ _ hc.1 hc.2.1 hc.2.2⟩
noncomputable def ctxLw12 (P : Program) : Ctx := ctx P glR [ePick12] [] (noEq P) [] (fun _ h => by cases h)
theorem ctxLw12_good : (ctxLw12 Tryz.prog).good := ctx_good (by kernel_rfl) (AllOk.mem ⟨ePick12_ok, trivial⟩) glR_two
/-- A raw configuration's room; a raw key; a raw pair. -/
def rmD (room : Int) : Nat := (1 + ipick room 12).toNat
theorem rmD_f (room : Int) : 1 ≤ rmD room ∧ rmD room ≤ 12 ∧ ((rmD room : Nat) : Int) = 1 + ipick room 12 := by
  obtain ⟨h1, h2⟩ := ipick_bounds room (n := 12) (by omega)
  unfold rmD; omega
theorem fits_rm (room : Int) : fitsB 3 1 (rmD room) = true := by
  obtain ⟨h1, h2, -⟩ := rmD_f room
  exact decide_eq_true (by omega)
set_option maxRecDepth 100000 in
theorem conf12_pure (room : Int) (hr : I64 room) : Pure Tryz.prog glR 11 [.v (.int .i64 room)] (.agg [.v (.int .i64 3), .v (.int .i64 1), .v (.int .i64 (rmD room))]) := by
  obtain ⟨h1, h2, h3⟩ := rmD_f room
  refine pure_of (C := ctxLw12 Tryz.prog) ctxLw12_good Tryz.func11 (c := bodyOf Tryz.f11) (by rfl) (Nat.le_of_ble_eq_true (by rfl)) 4 0 [0, 2] ?_
  conv => whnf
  refine And.intro ⟨hr, by omega, by omega⟩ ?_
  conv => whnf
  rw [h3, wrap64 (by omega) (by omega)]
  repeat' (first | exact trivial | exact rfl | (refine And.intro ?_ ?_) | ((conv => whnf); done) | ((conv => whnf); (first | rfl | (refine congrArg (fun b => T.v (Value.bool b)) ?_; first | rfl | exact (decide_eq_true (by omega)).symm | exact (decide_eq_false (by omega)).symm | exact decide_eq_decide.2 (by omega)) | (refine congrArg (fun b => T.v (Value.int _ b)) ?_; first | rfl | omega) | omega)) | (first | rfl | (refine congrArg (fun b => T.v (Value.bool b)) ?_; first | rfl | exact (decide_eq_true (by omega)).symm | exact (decide_eq_false (by omega)).symm | exact decide_eq_decide.2 (by omega)) | (refine congrArg (fun b => T.v (Value.int _ b)) ?_; first | rfl | omega) | omega))
noncomputable def eConf12 : Entry := ⟨11, 4, fun l => match l with | [.v (.int .i64 room)] => some (some (I64 room), .agg [.v (.int .i64 3), .v (.int .i64 1), .v (.int .i64 (rmD room))], []) | _ => none⟩
theorem eConf12_ok : eConf12.ok Tryz.prog glR := ⟨Am.enters_of Tryz.func11 (by kernel_rfl) (by kernel_rfl), by
  intro args c t bs h hc
  simp only [eConf12] at h
  split at h <;> cases h
  replace hc := hc _ rfl
  exact conf12_pure _ hc⟩
def keyD (n : Int) : Int := if ipick n 16 > 11 then 4611686018427387904 - (ipick n 16 - 12) else ipick n 16
theorem keyD_f (n : Int) : 0 ≤ keyD n ∧ keyD n ≤ 4611686018427387904 := by
  obtain ⟨h1, h2⟩ := ipick_bounds n (n := 16) (by omega)
  unfold keyD; split <;> omega
set_option maxRecDepth 100000 in
theorem key12_pure (n : Int) (hr : I64 n) : Pure Tryz.prog glR 26 [.v (.int .i64 n)] (.v (.int .u64 (keyD n))) := by
  obtain ⟨h1, h2⟩ := ipick_bounds n (n := 16) (by omega)
  have e : IntKind.u64.wrap (ipick n 16) = ipick n 16 := wrapU (by omega) (by omega)
  refine pure_of (C := ctxLw12 Tryz.prog) ctxLw12_good Tryz.func26 (c := bodyOf Tryz.f26) (by rfl) (Nat.le_of_ble_eq_true (by rfl)) 4 0 [0, 2, 3, 8] ?_
  conv => whnf
  refine And.intro ⟨hr, by omega, by omega⟩ ?_
  conv => whnf
  rw [e]
  refine ifB_dec (fun h => ?_) (fun h => ?_)
  · conv => whnf
    rw [wrapU (a := ipick n 16 - 12) (by omega) (by omega), wrapU (by omega) (by omega)]
    unfold keyD; rw [if_pos h]
  · conv => whnf
    unfold keyD; rw [if_neg h]
noncomputable def eKey12 : Entry := ⟨26, 4, fun l => match l with | [.v (.int .i64 n)] => some (some (I64 n), .v (.int .u64 (keyD n)), []) | _ => none⟩
theorem eKey12_ok : eKey12.ok Tryz.prog glR := ⟨Am.enters_of Tryz.func26 (by kernel_rfl) (by kernel_rfl), by
  intro args c t bs h hc
  simp only [eKey12] at h
  split at h <;> cases h
  replace hc := hc _ rfl
  exact key12_pure _ hc⟩
set_option maxRecDepth 100000 in
theorem zero12_pure (k p : Int) (m : Nat) (hm : m ≤ 1000) : Pure Tryz.prog glR 25 [.agg [.v (.int .i64 k), .v (.int .i64 p), .v (.int .i64 m)]] (.ow 0 1 (1 + 4 * m)) [(0, .fl [.u64] (List.replicate (1 + 4 * m) 0))] := by
  have e : IntKind.i64.wrap (1 + IntKind.i64.wrap (4 * (m : Int))) = ((1 + 4 * m : Nat) : Int) := by rw [wrap64 (a := 4 * (m : Int)) (by omega) (by omega), wrap64 (by omega) (by omega)]; omega
  refine pure_of (C := ctx0 Tryz.prog) ctx0_good Tryz.func25 (c := bodyOf Tryz.f25) (by rfl) (Nat.le_of_ble_eq_true (by rfl)) 4 0 [0, 1, 2] ?_
  conv => whnf
  rw [e]
  refine And.intro (by omega) ?_
  conv => whnf
  rw [Int.toNat_natCast]
  repeat' (first | exact trivial | exact rfl | (refine And.intro ?_ ?_) | ((conv => whnf); done) | ((conv => whnf); (first | rfl | (refine congrArg (fun b => T.v (Value.bool b)) ?_; first | rfl | exact (decide_eq_true (by omega)).symm | exact (decide_eq_false (by omega)).symm | exact decide_eq_decide.2 (by omega)) | (refine congrArg (fun b => T.v (Value.int _ b)) ?_; first | rfl | omega) | omega)) | (first | rfl | (refine congrArg (fun b => T.v (Value.bool b)) ?_; first | rfl | exact (decide_eq_true (by omega)).symm | exact (decide_eq_false (by omega)).symm | exact decide_eq_decide.2 (by omega)) | (refine congrArg (fun b => T.v (Value.int _ b)) ?_; first | rfl | omega) | omega))
noncomputable def eZero12 : Entry := ⟨25, 4, fun l => match l with | [.agg [.v (.int .i64 k), .v (.int .i64 p), .v (.int .i64 n)]] => some (some (0 ≤ n ∧ n ≤ 1000), .ow 0 1 (1 + 4 * n.toNat), [(0, .fl [.u64] (List.replicate (1 + 4 * n.toNat) 0))]) | _ => none⟩
theorem eZero12_ok : eZero12.ok Tryz.prog glR := ⟨Am.enters_of Tryz.func25 (by kernel_rfl) (by kernel_rfl), by
  intro args c t bs h hc
  simp only [eZero12] at h
  split at h <;> cases h
  replace hc := hc _ rfl
  exact (by obtain ⟨h1, h2⟩ := hc; obtain ⟨m, rfl⟩ := Int.eq_ofNat_of_zero_le h1; exact zero12_pure _ _ m (by omega))⟩
end Go.Proofs.YtnplgklnkcjmnaaGreatDoor.DcT
namespace Go.Proofs.YtnplgklnkcjmnaaGreatDoor.DcT
open Go.RowKit Go.Proofs.YtnplgklnkcjmnaaGreatDoor.Am Go.Proofs.YtnplgklnkcjmnaaGreatDoor Go.Proofs.YtnplgklnkcjmnaaGreatDoor.PrT
set_option linter.unusedVariables false
set_option linter.unusedSimpArgs false


section
variable {v m : Nat} {k p : Int} {ks vs ks' vs' : List Int}
theorem op_enc (hk : KV v k) (h : TabV k m ks vs) (hf : fitsB k p m = true) : opE v k k p m (encT v m ks vs) = 0 ∧ opK v k k p m (encT v m ks vs) = ks ∧ opV v k k p m (encT v m ks vs) = vs := by
  have hm := fitsK hf
  have hc : cfB k k p m = true := by unfold cfB; rw [hf]; simp
  obtain ⟨e1, e2, e3⟩ := op_yes (v := v) (w := encT v m ks vs) hc
  obtain ⟨d1, d2, d3⟩ := h.dec hk (by omega) (by omega)
  rw [Int.toNat_natCast] at e1 e2 e3
  obtain ⟨g1, g2, g3⟩ := d_yes d1
  exact ⟨e3.trans g3, e1.trans (g1.trans d2), e2.trans (g2.trans d3)⟩
theorem enc_inj (hk : KV v k) (h : TabV k m ks vs) (h' : TabV k m ks' vs') (hm0 : 0 < m) (hm : m ≤ 256) (e : encT v m ks vs = encT v m ks' vs') : ks = ks' ∧ vs = vs' := by
  obtain ⟨d1, d2, d3⟩ := h.dec hk hm0 hm
  obtain ⟨g1, g2, g3⟩ := h'.dec hk hm0 hm
  rw [e] at d2 d3
  exact ⟨d2.symm.trans g2, d3.symm.trans g3⟩
theorem laid_nil (n : Nat) : laid sP n [] = List.replicate n (0, 0) := rfl
theorem flat_zero (v n : Nat) (hv : v = 1 ∨ v = 2) : flat v (List.replicate n (0, 0)) = List.replicate (n * v) 0 := by
  induction n with
  | zero => simp [flat]
  | succ n ih =>
    rw [List.replicate_succ, flat_cons, ih, Nat.succ_mul]
    rcases hv with rfl | rfl <;> rfl
theorem enc_nil (v m : Nat) (hv : v = 1 ∨ v = 2) : encT v m [] [] = List.replicate (1 + 2 * m * v) 0 := by
  unfold encT tabT
  rw [show rsK v [] [] = [] from rfl, laid_nil, flat_zero v _ hv, Nat.add_comm 1, List.replicate_succ]; rfl
theorem ap_enc (hk : KV v k) (h : TabV k m ks vs) (hf : fitsB k p m = true) (code key val : Int) : apL v k k p m (encT v m ks vs) code key val = encT v m (tabD k m ks vs code key val).1 (tabD k m ks vs code key val).2.1 ∧ apR v k k p m (encT v m ks vs) code key val = (tabD k m ks vs code key val).2.2.1 ∧ apV v k k p m (encT v m ks vs) code key val = (tabD k m ks vs code key val).2.2.2 := by
  obtain ⟨e1, e2, e3⟩ := op_enc hk h hf
  obtain ⟨y1, y2, y3⟩ := ap_yes (code := code) (key := key) (val := val) e1
  rw [e2, e3, Int.toNat_natCast] at y1
  rw [e2, e3] at y2 y3
  exact ⟨y1, y2, y3⟩
end
theorem up_enc {m : Nat} {p : Int} {ks vs : List Int} (h : TabV 3 m ks vs) (hf : fitsB 3 p m = true) (l : List R) (hl : ∀ r ∈ l, r.1 ≤ 4611686018427387904) :
    (upS m (ks, vs) l = none → updE 3 p m (encT 2 m ks vs) l = 11 ∧ updL 3 p m (encT 2 m ks vs) l = []) ∧
    (∀ s, upS m (ks, vs) l = some s → updE 3 p m (encT 2 m ks vs) l = 0 ∧ updL 3 p m (encT 2 m ks vs) l = encT 2 m s.1 s.2) := by
  obtain ⟨e1, e2, e3⟩ := op_enc kv2 h hf
  have hok : ¬ ∃ r ∈ l, r.1 > 4611686018427387904 := fun ⟨r, hr, hb⟩ => by have := hl r hr; omega
  have hE : updE 3 p m (encT 2 m ks vs) l = if upS m (ks, vs) l = none then 11 else 0 := by
    unfold updE; rw [e1, if_neg (fun q => q rfl), if_neg hok, e2, e3]
  constructor
  · intro hn
    rw [hn, if_pos rfl] at hE
    exact ⟨hE, by unfold updL; rw [hE, if_neg (by decide)]⟩
  · intro s hs
    rw [hs, if_neg (by simp)] at hE
    refine ⟨hE, ?_⟩
    unfold updL updS
    rw [hE, if_pos rfl, e2, e3, hs, Int.toNat_natCast]; rfl
theorem tb00 : TabV 3 1 [] [] := tabV_nil 3 1
theorem aw_f : fitsB 3 1 ((1 : Nat) : Int) = true := by decide
theorem aw_z : encT 2 1 [] [] = [0, 0, 0, 0, 0] := enc_nil 2 1 (.inr rfl)
theorem aw_t4 : tabD 3 1 [5] [2] 7 5 0 = ([], [], 0, 2) := by decide
theorem aw_u1 : updE 3 1 1 [0, 0, 0, 0, 0] (recs 2 2 [5, 1, 5, 2]) = 0 ∧ updL 3 1 1 [0, 0, 0, 0, 0] (recs 2 2 [5, 1, 5, 2]) = encT 2 1 [5] [2] := by
  have := (up_enc tb00 aw_f [(5, 1), (5, 2)] (by decide)).2 ([5], [2]) (by decide)
  rw [aw_z] at this; exact this
theorem aw_u2 : updE 3 1 1 [0, 0, 0, 0, 0] (recs 2 2 [5, 1, 6, 1]) = 11 ∧ updL 3 1 1 [0, 0, 0, 0, 0] (recs 2 2 [5, 1, 6, 1]) = [] := by
  have := (up_enc tb00 aw_f [(5, 1), (6, 1)] (by decide)).1 (by decide)
  rw [aw_z] at this; exact this
theorem tb52 : TabV 3 1 [5] [2] := by
  have h1 := tabD_v tb00 (key := 5) (v := 2) (code := 11) ⟨by decide, by decide⟩ ⟨by decide, by decide⟩
  rw [show tabD 3 ((1 : Nat) : Int) [] [] 11 5 2 = ([5], [2], 0, 0) by decide] at h1
  exact h1
theorem aw_o1 : opE 2 3 3 1 1 (encT 2 1 [5] [2]) = 0 ∧ opK 2 3 3 1 1 (encT 2 1 [5] [2]) = [5] ∧ opV 2 3 3 1 1 (encT 2 1 [5] [2]) = [2] := op_enc kv2 tb52 aw_f
theorem aw_a1 : apL 2 3 3 1 1 (encT 2 1 [5] [2]) 7 5 0 = [0, 0, 0, 0, 0] ∧ apR 2 3 3 1 1 (encT 2 1 [5] [2]) 7 5 0 = 0 ∧ apV 2 3 3 1 1 (encT 2 1 [5] [2]) 7 5 0 = 2 := by
  have h := ap_enc kv2 tb52 aw_f 7 5 0
  rw [show ((1 : Nat) : Int) = 1 from rfl, aw_t4] at h
  dsimp only at h
  rw [aw_z] at h
  exact h
theorem aw_o2 : opE 2 3 3 1 1 [1, 0, 0, 0, 0] = 2 ∧ opK 2 3 3 1 1 [1, 0, 0, 0, 0] = [] ∧ opV 2 3 3 1 1 [1, 0, 0, 0, 0] = [] := by
  have hu : AllU [1, 0, 0, 0, 0] := by intro x hx; simp at hx; rcases hx with rfl | rfl <;> exact ⟨by decide, by decide⟩
  rcases op_facts kv2 3 1 1 hu with ⟨-, -, -, hT, hE, hO⟩ | ⟨h1, h2, h3, -⟩
  · exfalso
    have h9 := tb00.lst kv2 (by omega) (by omega)
    have hd : tabT 2 1 [] [] = [0, 0, 0, 0] := by have := aw_z; unfold encT at this; exact (List.cons.inj this).2
    rw [hd] at h9
    unfold okD at hO
    have := (of_decide_eq_true hO).2.2.2.1
    rw [show List.drop 1 [(1 : Int), 0, 0, 0, 0] = [0, 0, 0, 0] from rfl, h9] at this
    revert this; decide
  · refine ⟨?_, h2, h3⟩
    rcases h1 with h | h
    · exact h
    · exfalso
      have hc : cfB 3 3 1 1 = true := by decide
      obtain ⟨-, -, e3⟩ := op_yes (v := 2) (w := [1, 0, 0, 0, 0]) hc
      rw [h] at e3
      unfold dE at e3
      split at e3 <;> cases e3
theorem aw_o3 (w : List Int) : opE 2 3 2 1 1 w = 5 := (op_no (v := 2) (w := w) (by decide)).2.2
theorem allU_52 : AllU (encT 2 1 [5] [2]) := tb52.enc_u kv2 (by omega)
theorem len_52 : (encT 2 1 [5] [2]).length = 5 := tb52.enc_len kv2
theorem aw_all : ∃ W : List Int, (AllU W ∧ W.length = 5) ∧ (updE 3 1 1 [0, 0, 0, 0, 0] (recs 2 2 [5, 1, 5, 2]) = 0 ∧ updL 3 1 1 [0, 0, 0, 0, 0] (recs 2 2 [5, 1, 5, 2]) = W) ∧
    (opE 2 3 3 1 1 W = 0 ∧ opK 2 3 3 1 1 W = [5] ∧ opV 2 3 3 1 1 W = [2]) ∧ (apL 2 3 3 1 1 W 7 5 0 = [0, 0, 0, 0, 0] ∧ apR 2 3 3 1 1 W 7 5 0 = 0 ∧ apV 2 3 3 1 1 W 7 5 0 = 2) :=
  ⟨_, ⟨allU_52, len_52⟩, aw_u1, aw_o1, aw_a1⟩
theorem ctxAw12_eqOk : ∀ t, hasN [57] t = true → Tryz.prog.stoodInHeld t = false := HeldOk.mem ⟨by kernel_rfl, trivial⟩
noncomputable def ctxAw12 (P : Program) (heq : ∀ t, hasN [57] t = true → P.stoodInHeld t = false) : Ctx := ctx P glM [eUpdate, ePairs, eApply, eZero12, eRRecs, Go.Proofs.YtnplgklnkcjmnaaGreatDoor.eWords] [57] heq [] (fun _ h => by cases h)
theorem ctxAw12_good : (ctxAw12 Tryz.prog ctxAw12_eqOk).good := ctx_good (by kernel_rfl) (AllOk.mem ⟨eUpdate_ok, ePairs_ok, eApply_ok, entry_lift eZero12_ok, entry_lift eRRecs_ok, entry_lift Go.Proofs.YtnplgklnkcjmnaaGreatDoor.eWords_ok, trivial⟩) glM_two
attribute [local irreducible] updE updL apL apR apV opE opK opV encT prD
set_option maxHeartbeats 2000000 in
set_option maxRecDepth 100000 in
theorem awake12_pure : Pure Tryz.prog glM 10 [] (.v (.bool true)) := by
  have hz : AllU [0, 0, 0, 0, 0] := by intro x hx; simp at hx; unfold U64; omega
  have h1 : AllU [(5 : Int), 1, 5, 2] := by intro x hx; simp at hx; unfold U64; omega
  have h2 : AllU [(5 : Int), 1, 6, 1] := by intro x hx; simp at hx; unfold U64; omega
  have h3 : AllU [(1 : Int), 0, 0, 0, 0] := by intro x hx; simp at hx; unfold U64; omega
  have u5 : U64 5 := ⟨by decide, by decide⟩
  have u0 : U64 0 := ⟨by decide, by decide⟩
  have e0 : List.replicate (1 + 4 * Int.toNat 1) (0 : Int) = [0, 0, 0, 0, 0] := rfl
  obtain ⟨W, ⟨allU_52, len_52⟩, aw_u1, aw_o1, aw_a1⟩ := aw_all
  refine pure_of (C := ctxAw12 Tryz.prog ctxAw12_eqOk) ctxAw12_good Tryz.func10 (c := bodyOf Tryz.f10) (by rfl) (Nat.le_of_ble_eq_true (by rfl)) 4 0 [0, 1, 2, 3, 5, 6, 7, 8, 9, 10, 12, 15] ?_
  conv => whnf
  repeat (refine And.intro (by decide) ?_; conv => whnf)
  rw [e0]
  refine And.intro ⟨hz, h1, by decide, by decide⟩ ?_
  conv => whnf
  rw [aw_u1.1, aw_u1.2]
  conv => whnf
  repeat (refine And.intro (by decide) ?_; conv => whnf)
  try rw [e0]
  refine And.intro ⟨hz, h2, by decide, by decide⟩ ?_
  conv => whnf
  rw [aw_u2.1, aw_u2.2]
  conv => whnf
  refine And.intro ⟨allU_52, by rw [len_52]; decide⟩ ?_
  conv => whnf
  rw [aw_o1.1, aw_o1.2.1, aw_o1.2.2]
  conv => whnf
  refine And.intro ⟨allU_52, by rw [len_52]; decide, u5, u0⟩ ?_
  conv => whnf
  rw [aw_a1.1, aw_a1.2.1, aw_a1.2.2]
  conv => whnf
  refine And.intro ⟨h3, by decide⟩ ?_
  conv => whnf
  rw [aw_o2.1, aw_o2.2.1, aw_o2.2.2]
  conv => whnf
  refine And.intro ⟨allU_52, by rw [len_52]; decide, u0, u0⟩ ?_
  conv => whnf
  rw [aw_o3]
  conv => whnf
  rw [show flat 2 (prD [5] [2]) = [5, 2] by unfold prD; rfl]
  conv => whnf
  repeat (refine And.intro (by decide) ?_; conv => whnf)
  rfl
noncomputable def eAwk12 : Entry := ⟨10, 10, fun l => match l with | [] => some (none, .v (.bool true), []) | _ => none⟩
theorem eAwk12_ok : eAwk12.ok Tryz.prog glM := ⟨Am.enters_of Tryz.func10 (by kernel_rfl) (by kernel_rfl), by
  intro args c t bs h hc
  simp only [eAwk12] at h
  split at h <;> cases h
  exact awake12_pure⟩
end Go.Proofs.YtnplgklnkcjmnaaGreatDoor.DcT
namespace Go.Proofs.YtnplgklnkcjmnaaGreatDoor.DcT
open Go.RowKit Go.Proofs.YtnplgklnkcjmnaaGreatDoor.Am Go.Proofs.YtnplgklnkcjmnaaGreatDoor Go.Proofs.YtnplgklnkcjmnaaGreatDoor.PrT
set_option linter.unusedVariables false
set_option linter.unusedSimpArgs false


theorem tabD_look {m : Int} {ks vs : List Int} {code key val : Int} (h7 : code ≠ 7) (h11 : code ≠ 11) : (tabD 3 m ks vs code key val).1 = ks ∧ (tabD 3 m ks vs code key val).2.1 = vs := by
  have hv : valB 3 = true := rfl
  unfold tabD
  split
  · exact ⟨rfl, rfl⟩
  · split
    · exact ⟨rfl, rfl⟩
    · unfold plcD
      rw [if_neg h7]
      split
      · split <;> exact ⟨rfl, rfl⟩
      · rw [if_neg (fun q => by rw [hv] at q; cases q.2)]
        split
        · split <;> exact ⟨rfl, rfl⟩
        · rw [if_neg (fun q => by rw [hv] at q; cases q.2), if_neg (fun q => h11 q.1)]
          exact ⟨rfl, rfl⟩
theorem ctxSt12_eqOk : ∀ t, hasN [57] t = true → Tryz.prog.stoodInHeld t = false := HeldOk.mem ⟨by kernel_rfl, trivial⟩
noncomputable def ctxSt12 (P : Program) (heq : ∀ t, hasN [57] t = true → P.stoodInHeld t = false) : Ctx := ctx P glM [eAwk12, eConf12, eKey12, eStateK, eEnc10, eApply, ePairs, Go.Proofs.YtnplgklnkcjmnaaGreatDoor.eWords] [57] heq [] (fun _ h => by cases h)
theorem ctxSt12_good : (ctxSt12 Tryz.prog ctxSt12_eqOk).good := ctx_good (by kernel_rfl) (AllOk.mem ⟨eAwk12_ok, entry_lift eConf12_ok, entry_lift eKey12_ok, entry_lift eStateK_ok, entry_lift eEnc10_ok, eApply_ok, ePairs_ok, entry_lift Go.Proofs.YtnplgklnkcjmnaaGreatDoor.eWords_ok, trivial⟩) glM_two
attribute [local irreducible] updE updL apL apR apV opE opK opV encT prD tabD stK rmD keyD hereK atK insK
set_option maxHeartbeats 4000000 in
set_option maxRecDepth 100000 in
theorem still12_pure (room : Int) (rn : Nat) (raw : List Int) (k val : Int) (hr : I64 room) (hx : AllI raw) (hk : I64 k) (hv : U64 val) : Pure Tryz.prog glM 5 [.v (.int .i64 room), .fl [.i64, .i64, .i64] rn raw, .v (.int .i64 k), .v (.int .u64 val)] (.v (.bool true)) := by
  have hf := fits_rm room
  obtain ⟨r1, r2, -⟩ := rmD_f room
  have hT := stK_v 3 (rmD room) raw (min rn 30) (by omega)
  obtain ⟨kk1, kk2⟩ := keyD_f k
  refine pure_of (C := ctxSt12 Tryz.prog ctxSt12_eqOk) ctxSt12_good Tryz.func5 (c := bodyOf Tryz.f5) (by rfl) (Nat.le_of_ble_eq_true (by rfl)) 4 0 [0, 1, 2, 3, 8, 9, 10, 11, 13, 15, 16, 18, 19, 20, 22, 23, 24, 25, 26, 27, 28, 42, 43, 44, 45, 66, 110, 114, 132, 139, 160, 161, 167] ?_
  conv => whnf
  refine And.intro hr ?_
  conv => whnf
  generalize rmD room = m at *
  refine And.intro ⟨.inr (.inl rfl), hf, hx⟩ ?_
  conv => whnf
  rw [Int.toNat_natCast]
  generalize stK 3 m raw (min rn 30) = st at *
  obtain ⟨ks, vs⟩ := st
  replace hT : TabV 3 m ks vs := hT
  refine And.intro ⟨.inr rfl, hf, hT, rfl, rfl, rfl⟩ ?_
  conv => whnf
  rw [show wdK 3 = 2 from rfl]
  refine And.intro hk ?_
  conv => whnf
  generalize keyD k = key at *
  have hwu := hT.enc_u kv2 (by omega)
  have hwl := hT.enc_len kv2
  obtain ⟨o1, o2, o3⟩ := op_enc kv2 hT hf
  have hap := fun code key val => ap_enc kv2 hT hf code key val
  have uk : U64 key := by unfold U64; omega
  have hkl := hT.len
  generalize hW : encT 2 m ks vs = W at *
  refine TW.loopD ctxSt12_good 0 (base := 0) (lv := [0, 1, 2, 3, 8, 9, 10, 11, 13, 15, 16, 18, 19, 20, 22, 23, 24, 25, 26, 27, 28, 42, 43, 44, 45, 66, 110, 114, 132, 139, 160, 161, 167]) [44] [] [] (fun i : Nat => [.v (.int .i64 i)]) (fun _ => []) (fun i => i ≤ 6) (fun i => 6 - i) ?_
  conv => whnf
  refine ⟨⟨0, ⟨rfl, rfl, rfl⟩, by omega⟩, fun i hi => ?_⟩
  replace hi : i ≤ 6 := hi
  conv => whnf
  refine ifB_dec (fun h => ?_) (fun h => ?_)
  · replace h : (i : Int) < 6 := h
    have hcd : [(10 : Int), 8, 9, 5, 6, 12].getD (0 + addN 0 (i : Int).toNat * (0 + 1)) 0 ≠ 7 ∧ [(10 : Int), 8, 9, 5, 6, 12].getD (0 + addN 0 (i : Int).toNat * (0 + 1)) 0 ≠ 11 := by
      rw [addN_eq, show 0 + (0 + (i : Int).toNat) * (0 + 1) = i by omega]
      have : i = 0 ∨ i = 1 ∨ i = 2 ∨ i = 3 ∨ i = 4 ∨ i = 5 := by omega
      rcases this with rfl | rfl | rfl | rfl | rfl | rfl <;> decide
    conv => whnf
    repeat (refine And.intro (by omega) ?_; conv => whnf)
    generalize [(10 : Int), 8, 9, 5, 6, 12].getD (0 + addN 0 (i : Int).toNat * (0 + 1)) 0 = cd at *
    obtain ⟨y1, y2, y3⟩ := hap cd key val
    obtain ⟨z1, z2⟩ := tabD_look (m := m) (ks := ks) (vs := vs) (key := key) (val := val) hcd.1 hcd.2
    rw [z1, z2, hW] at y1
    refine And.intro ⟨hwu, by omega, uk, hv⟩ ?_
    conv => whnf
    rw [o1, y1]
    conv => whnf
    refine ifB_f (by simp) ?_
    conv => whnf
    rw [wsucc (j := i) (n := 6) (by omega) (by omega)]
    exact ⟨i + 1, [], ⟨rfl, rfl, rfl⟩, (by omega : i + 1 ≤ 6), by dsimp only; omega⟩
  · replace h : ¬ (i : Int) < 6 := h
    have u0 : U64 0 := ⟨by decide, by decide⟩
    obtain ⟨n1, n2, n3⟩ := hap 9 val 0
    rw [tabD_count rfl] at n1 n2 n3
    obtain ⟨p1, p2, p3⟩ := hap 11 key val
    conv => whnf
    refine And.intro ⟨hwu, by omega⟩ ?_
    conv => whnf
    rw [o1, o2, o3]
    refine And.intro ⟨hwu, by omega, hv, u0⟩ ?_
    conv => whnf
    rw [n1, n2, n3]
    refine And.intro ⟨hwu, by omega, uk, hv⟩ ?_
    conv => whnf
    cases hh : hereK 3 ks key
    · by_cases hl : ks.length = m
      · have hd := put_full hT ⟨kk1, kk2⟩ hh hl (val := val)
        rw [hd] at p1 p2 p3
        dsimp only at p1 p2 p3
        rw [hW] at p1
        rw [p1, p2, p3, o1]
        conv => whnf
        rw [show IntKind.u64.wrap (ks.length : Int) = ks.length from wrapU (by omega) (by omega)]
        refine ifB_f (by simp) ?_
        conv => whnf
        refine TW.loopD ctxSt12_good 0 (base := 0) (lv := [0, 1, 2, 3, 8, 9, 10, 11, 13, 15, 16, 18, 19, 20, 22, 23, 24, 25, 26, 27, 28, 42, 43, 44, 45, 66, 110, 114, 132, 139, 160, 161, 167]) [28] [] [] (fun i2 : Nat => [.v (.int .i64 i2)]) (fun _ => []) (fun i2 => i2 ≤ ks.length) (fun i2 => ks.length - i2) ?_
        conv => whnf
        refine ⟨⟨0, ⟨rfl, rfl, rfl⟩, Nat.zero_le _⟩, fun i2 hi2 => ?_⟩
        replace hi2 : i2 ≤ ks.length := hi2
        conv => whnf
        refine ifB_dec (fun g => ?_) (fun g => ?_)
        · replace g : (i2 : Int) < ks.length := g
          have gne : ks.getD i2 0 ≠ key := fun e => by rw [(here_iff hT kv2 key).2 ⟨i2, by omega, e⟩] at hh; cases hh
          have W0 : IntKind.i64.wrap ((i2 : Int) - 1) = ((i2 - 1 : Nat) : Int) ∨ i2 = 0 := by
            by_cases z : i2 = 0
            · exact .inr z
            · refine .inl ?_; rw [wrap64 (by omega) (by omega)]; omega
          have E0 : (flat 2 (prD ks vs)).getD (0 + addN 0 (i2 : Int).toNat * (1 + 1)) 0 = ks.getD i2 0 := by
            rw [addN_eq, show 0 + (0 + (i2 : Int).toNat) * (1 + 1) = i2 * 2 by omega, flat_key (.inr rfl) _ (by rw [prD_len]; omega)]
            unfold kR; rw [prD_get vs (by omega)]
          have E1 : (flat 2 (prD ks vs)).getD (0 + 1 + addN 0 (i2 : Int).toNat * (1 + 1)) 0 = vs.getD i2 0 := by
            rw [addN_eq, show 0 + 1 + (0 + (i2 : Int).toNat) * (1 + 1) = i2 * 2 + 1 by omega, flat_val _ (by rw [prD_len]; omega), prD_get vs (by omega)]
          have EP : i2 ≠ 0 → (flat 2 (prD ks vs)).getD (0 + addN 0 ((i2 - 1 : Nat) : Int).toNat * (1 + 1)) 0 < ks.getD i2 0 := fun z => by
            rw [addN_eq, show 0 + (0 + ((i2 - 1 : Nat) : Int).toNat) * (1 + 1) = (i2 - 1) * 2 by omega, flat_key (.inr rfl) _ (by rw [prD_len]; omega)]
            unfold kR; rw [prD_get vs (by omega)]
            exact hT.k_lt kv2 (i := i2 - 1) (j := i2) (by omega) (by omega)
          conv => whnf
          refine ifB_dec (fun g0 => ?_) (fun g0 => ?_)
          · replace g0 : (i2 : Int) > 0 := g0
            conv => whnf
            rw [W0.resolve_right (by omega)]
            repeat (refine And.intro (by omega) ?_; conv => whnf)
            refine ifB_f (show (bif true then decide ((flat 2 (prD ks vs)).getD (0 + addN 0 ((i2 - 1 : Nat) : Int).toNat * (1 + 1)) 0 ≥ (flat 2 (prD ks vs)).getD (0 + addN 0 (i2 : Int).toNat * (1 + 1)) 0) else false) = false from decide_eq_false (by have := EP (by omega); rw [E0]; omega)) ?_
            conv => whnf
            repeat (refine And.intro (by omega) ?_; conv => whnf)
            refine ifB_f (show ((flat 2 (prD ks vs)).getD (0 + addN 0 (i2 : Int).toNat * (1 + 1)) 0 == key) = false by rw [E0]; simpa using gne) ?_
            conv => whnf
            rw [wsucc (j := i2) (n := ks.length) (by omega) (by omega)]
            exact ⟨i2 + 1, [], ⟨rfl, rfl, rfl⟩, (by omega : i2 + 1 ≤ ks.length), by dsimp only; omega⟩
          · replace g0 : ¬ (i2 : Int) > 0 := g0
            conv => whnf
            repeat (refine And.intro (by omega) ?_; conv => whnf)
            refine ifB_f (show ((flat 2 (prD ks vs)).getD (0 + addN 0 (i2 : Int).toNat * (1 + 1)) 0 == key) = false by rw [E0]; simpa using gne) ?_
            conv => whnf
            rw [wsucc (j := i2) (n := ks.length) (by omega) (by omega)]
            exact ⟨i2 + 1, [], ⟨rfl, rfl, rfl⟩, (by omega : i2 + 1 ≤ ks.length), by dsimp only; omega⟩
        · replace g : ¬ (i2 : Int) < ks.length := g
          obtain rfl : i2 = ks.length := by omega
          conv => whnf
          refine ifB_t (show ((ks.length : Int) == m) = true by simp; omega) ?_
          conv => whnf
          exact congrArg (fun b => Am.T.v (Value.bool b)) (by simp)
      · obtain ⟨hd, hT2, -⟩ := put_new hT (by omega) (by omega) ⟨kk1, kk2⟩ hv hh hl
        rw [hd] at p1 p2 p3
        dsimp only at p1 p2 p3
        rw [p1, p2, p3, o1]
        conv => whnf
        have hne : encT 2 m (insK ks (atK 3 ks key) key) (insK vs (atK 3 ks key) val) ≠ W := fun e => by
          rw [← hW] at e
          have h1 := congrArg List.length (enc_inj kv2 hT2 hT (by omega) (by omega) e).1
          rw [insK_len (atK_le _ _ _)] at h1
          omega
        rw [show IntKind.u64.wrap (ks.length : Int) = ks.length from wrapU (by omega) (by omega)]
        refine ifB_f (by simp) ?_
        conv => whnf
        refine TW.loopD ctxSt12_good 0 (base := 0) (lv := [0, 1, 2, 3, 8, 9, 10, 11, 13, 15, 16, 18, 19, 20, 22, 23, 24, 25, 26, 27, 28, 42, 43, 44, 45, 66, 110, 114, 132, 139, 160, 161, 167]) [28] [] [] (fun i2 : Nat => [.v (.int .i64 i2)]) (fun _ => []) (fun i2 => i2 ≤ ks.length) (fun i2 => ks.length - i2) ?_
        conv => whnf
        refine ⟨⟨0, ⟨rfl, rfl, rfl⟩, Nat.zero_le _⟩, fun i2 hi2 => ?_⟩
        replace hi2 : i2 ≤ ks.length := hi2
        conv => whnf
        refine ifB_dec (fun g => ?_) (fun g => ?_)
        · replace g : (i2 : Int) < ks.length := g
          have gne : ks.getD i2 0 ≠ key := fun e => by rw [(here_iff hT kv2 key).2 ⟨i2, by omega, e⟩] at hh; cases hh
          have W0 : IntKind.i64.wrap ((i2 : Int) - 1) = ((i2 - 1 : Nat) : Int) ∨ i2 = 0 := by
            by_cases z : i2 = 0
            · exact .inr z
            · refine .inl ?_; rw [wrap64 (by omega) (by omega)]; omega
          have E0 : (flat 2 (prD ks vs)).getD (0 + addN 0 (i2 : Int).toNat * (1 + 1)) 0 = ks.getD i2 0 := by
            rw [addN_eq, show 0 + (0 + (i2 : Int).toNat) * (1 + 1) = i2 * 2 by omega, flat_key (.inr rfl) _ (by rw [prD_len]; omega)]
            unfold kR; rw [prD_get vs (by omega)]
          have E1 : (flat 2 (prD ks vs)).getD (0 + 1 + addN 0 (i2 : Int).toNat * (1 + 1)) 0 = vs.getD i2 0 := by
            rw [addN_eq, show 0 + 1 + (0 + (i2 : Int).toNat) * (1 + 1) = i2 * 2 + 1 by omega, flat_val _ (by rw [prD_len]; omega), prD_get vs (by omega)]
          have EP : i2 ≠ 0 → (flat 2 (prD ks vs)).getD (0 + addN 0 ((i2 - 1 : Nat) : Int).toNat * (1 + 1)) 0 < ks.getD i2 0 := fun z => by
            rw [addN_eq, show 0 + (0 + ((i2 - 1 : Nat) : Int).toNat) * (1 + 1) = (i2 - 1) * 2 by omega, flat_key (.inr rfl) _ (by rw [prD_len]; omega)]
            unfold kR; rw [prD_get vs (by omega)]
            exact hT.k_lt kv2 (i := i2 - 1) (j := i2) (by omega) (by omega)
          conv => whnf
          refine ifB_dec (fun g0 => ?_) (fun g0 => ?_)
          · replace g0 : (i2 : Int) > 0 := g0
            conv => whnf
            rw [W0.resolve_right (by omega)]
            repeat (refine And.intro (by omega) ?_; conv => whnf)
            refine ifB_f (show (bif true then decide ((flat 2 (prD ks vs)).getD (0 + addN 0 ((i2 - 1 : Nat) : Int).toNat * (1 + 1)) 0 ≥ (flat 2 (prD ks vs)).getD (0 + addN 0 (i2 : Int).toNat * (1 + 1)) 0) else false) = false from decide_eq_false (by have := EP (by omega); rw [E0]; omega)) ?_
            conv => whnf
            repeat (refine And.intro (by omega) ?_; conv => whnf)
            refine ifB_f (show ((flat 2 (prD ks vs)).getD (0 + addN 0 (i2 : Int).toNat * (1 + 1)) 0 == key) = false by rw [E0]; simpa using gne) ?_
            conv => whnf
            rw [wsucc (j := i2) (n := ks.length) (by omega) (by omega)]
            exact ⟨i2 + 1, [], ⟨rfl, rfl, rfl⟩, (by omega : i2 + 1 ≤ ks.length), by dsimp only; omega⟩
          · replace g0 : ¬ (i2 : Int) > 0 := g0
            conv => whnf
            repeat (refine And.intro (by omega) ?_; conv => whnf)
            refine ifB_f (show ((flat 2 (prD ks vs)).getD (0 + addN 0 (i2 : Int).toNat * (1 + 1)) 0 == key) = false by rw [E0]; simpa using gne) ?_
            conv => whnf
            rw [wsucc (j := i2) (n := ks.length) (by omega) (by omega)]
            exact ⟨i2 + 1, [], ⟨rfl, rfl, rfl⟩, (by omega : i2 + 1 ≤ ks.length), by dsimp only; omega⟩
        · replace g : ¬ (i2 : Int) < ks.length := g
          obtain rfl : i2 = ks.length := by omega
          conv => whnf
          refine ifB_f (show ((ks.length : Int) == m) = false by simp; omega) ?_
          conv => whnf
          exact congrArg (fun b => Am.T.v (Value.bool b)) (by rw [decide_eq_false hne]; rfl)
    · obtain ⟨hd, hT2, -⟩ := put_here hT (by omega) (by omega) ⟨kk1, kk2⟩ hv hh
      obtain ⟨a1, a2⟩ := hereK_t hh
      rw [hd] at p1 p2 p3
      dsimp only at p1 p2 p3
      rw [p1, p2, p3, o1]
      conv => whnf
      rw [show IntKind.u64.wrap (ks.length : Int) = ks.length from wrapU (by omega) (by omega)]
      refine ifB_f (by simp) ?_
      conv => whnf
      have hvl : vs.length = ks.length := by have := hT.vlen; rwa [if_pos (by decide)] at this
      have hEq : decide (encT 2 m ks (vs.set (atK 3 ks key) val) = W) = (vs.getD (atK 3 ks key) 0 == val) := by
        rw [Bool.eq_iff_iff, decide_eq_true_iff, beq_iff_eq]
        constructor
        · intro e
          rw [← hW] at e
          have := (enc_inj kv2 hT2 hT (by omega) (by omega) e).2
          rw [← this, List.getD_eq_getElem?_getD, List.getElem?_set_self (by omega)]; rfl
        · intro e
          rw [← hW, ← e]
          congr 1
          exact ext_getD (by simp) fun j hj => by
            rw [List.length_set] at hj
            rw [List.getD_eq_getElem?_getD, List.getElem?_set]
            by_cases z : atK 3 ks key = j
            · rw [if_pos z, if_pos (by omega), ← z]; rfl
            · rw [if_neg z, ← List.getD_eq_getElem?_getD]
      refine TW.loopD ctxSt12_good 0 (base := 0) (lv := [0, 1, 2, 3, 8, 9, 10, 11, 13, 15, 16, 18, 19, 20, 22, 23, 24, 25, 26, 27, 28, 42, 43, 44, 45, 66, 110, 114, 132, 139, 160, 161, 167]) [27, 28] [] [] (fun x : Nat × Bool => [.v (.bool x.2), .v (.int .i64 x.1)]) (fun _ => []) (fun x => x.1 ≤ ks.length ∧ x.2 = decide (atK 3 ks key < x.1)) (fun x => ks.length - x.1) ?_
      conv => whnf
      refine ⟨⟨(0, false), ⟨rfl, rfl, rfl⟩, Nat.zero_le _, (decide_eq_false (Nat.not_lt_zero _)).symm⟩, fun ⟨i2, hb⟩ ⟨hi2, hhb⟩ => ?_⟩
      replace hi2 : i2 ≤ ks.length := hi2
      replace hhb : hb = decide (atK 3 ks key < i2) := hhb
      conv => whnf
      refine ifB_dec (fun g => ?_) (fun g => ?_)
      · replace g : (i2 : Int) < ks.length := g
        have W0 : IntKind.i64.wrap ((i2 : Int) - 1) = ((i2 - 1 : Nat) : Int) ∨ i2 = 0 := by
          by_cases z : i2 = 0
          · exact .inr z
          · refine .inl ?_; rw [wrap64 (by omega) (by omega)]; omega
        have E0 : (flat 2 (prD ks vs)).getD (0 + addN 0 (i2 : Int).toNat * (1 + 1)) 0 = ks.getD i2 0 := by
          rw [addN_eq, show 0 + (0 + (i2 : Int).toNat) * (1 + 1) = i2 * 2 by omega, flat_key (.inr rfl) _ (by rw [prD_len]; omega)]
          unfold kR; rw [prD_get vs (by omega)]
        have E1 : (flat 2 (prD ks vs)).getD (0 + 1 + addN 0 (i2 : Int).toNat * (1 + 1)) 0 = vs.getD i2 0 := by
          rw [addN_eq, show 0 + 1 + (0 + (i2 : Int).toNat) * (1 + 1) = i2 * 2 + 1 by omega, flat_val _ (by rw [prD_len]; omega), prD_get vs (by omega)]
        have EP : i2 ≠ 0 → (flat 2 (prD ks vs)).getD (0 + addN 0 ((i2 - 1 : Nat) : Int).toNat * (1 + 1)) 0 < ks.getD i2 0 := fun z => by
          rw [addN_eq, show 0 + (0 + ((i2 - 1 : Nat) : Int).toNat) * (1 + 1) = (i2 - 1) * 2 by omega, flat_key (.inr rfl) _ (by rw [prD_len]; omega)]
          unfold kR; rw [prD_get vs (by omega)]
          exact hT.k_lt kv2 (i := i2 - 1) (j := i2) (by omega) (by omega)
        conv => whnf
        refine ifB_dec (fun g0 => ?_) (fun g0 => ?_)
        · replace g0 : (i2 : Int) > 0 := g0
          conv => whnf
          rw [W0.resolve_right (by omega)]
          repeat (refine And.intro (by omega) ?_; conv => whnf)
          refine ifB_f (show (bif true then decide ((flat 2 (prD ks vs)).getD (0 + addN 0 ((i2 - 1 : Nat) : Int).toNat * (1 + 1)) 0 ≥ (flat 2 (prD ks vs)).getD (0 + addN 0 (i2 : Int).toNat * (1 + 1)) 0) else false) = false from decide_eq_false (by have := EP (by omega); rw [E0]; omega)) ?_
          conv => whnf
          repeat (refine And.intro (by omega) ?_; conv => whnf)
          rw [show (flat 2 (prD ks vs)).getD (0 + addN 0 (((i2, hb) : Nat × Bool).1 : Int).toNat * (1 + 1)) 0 = ks.getD i2 0 from E0]
          refine ifB_eq (x := ks.getD i2 0) (y := key) (fun ge => ?_) (fun ge => ?_)
          · have hat : i2 = atK 3 ks key := hT.k_inj kv2 (by omega) a1 (by rw [a2, ge])
            conv => whnf
            repeat (refine And.intro (by first | omega | (dsimp only; omega)) ?_; conv => whnf)
            rw [show (flat 2 (prD ks vs)).getD (0 + 1 + addN 0 (((i2, hb) : Nat × Bool).1 : Int).toNat * (1 + 1)) 0 = vs.getD (atK 3 ks key) 0 from by rw [← hat]; exact E1]
            refine ifB_f (by simp) ?_
            conv => whnf
            repeat (refine And.intro (by first | omega | (dsimp only; omega)) ?_; conv => whnf)
            rw [hEq, show (flat 2 (prD ks vs)).getD (0 + 1 + addN 0 (((i2, hb) : Nat × Bool).1 : Int).toNat * (1 + 1)) 0 = vs.getD (atK 3 ks key) 0 from by rw [← hat]; exact E1]
            refine ifB_f (by simp) ?_
            conv => whnf
            rw [wsucc (j := i2) (n := ks.length) (by omega) (by omega)]
            exact ⟨(i2 + 1, true), [], ⟨rfl, rfl, rfl⟩, ⟨(by omega : i2 + 1 ≤ ks.length), (decide_eq_true (by dsimp only; omega)).symm⟩, by dsimp only; omega⟩
          · have hat : i2 ≠ atK 3 ks key := fun e => ge (by rw [e]; exact a2)
            conv => whnf
            rw [wsucc (j := i2) (n := ks.length) (by omega) (by omega)]
            exact ⟨(i2 + 1, hb), [], ⟨rfl, rfl, rfl⟩, ⟨(by omega : i2 + 1 ≤ ks.length), by dsimp only; rw [hhb]; exact decide_eq_decide.2 (by omega)⟩, by dsimp only; omega⟩
        · replace g0 : ¬ (i2 : Int) > 0 := g0
          conv => whnf
          repeat (refine And.intro (by omega) ?_; conv => whnf)
          rw [show (flat 2 (prD ks vs)).getD (0 + addN 0 (((i2, hb) : Nat × Bool).1 : Int).toNat * (1 + 1)) 0 = ks.getD i2 0 from E0]
          refine ifB_eq (x := ks.getD i2 0) (y := key) (fun ge => ?_) (fun ge => ?_)
          · have hat : i2 = atK 3 ks key := hT.k_inj kv2 (by omega) a1 (by rw [a2, ge])
            conv => whnf
            repeat (refine And.intro (by first | omega | (dsimp only; omega)) ?_; conv => whnf)
            rw [show (flat 2 (prD ks vs)).getD (0 + 1 + addN 0 (((i2, hb) : Nat × Bool).1 : Int).toNat * (1 + 1)) 0 = vs.getD (atK 3 ks key) 0 from by rw [← hat]; exact E1]
            refine ifB_f (by simp) ?_
            conv => whnf
            repeat (refine And.intro (by first | omega | (dsimp only; omega)) ?_; conv => whnf)
            rw [hEq, show (flat 2 (prD ks vs)).getD (0 + 1 + addN 0 (((i2, hb) : Nat × Bool).1 : Int).toNat * (1 + 1)) 0 = vs.getD (atK 3 ks key) 0 from by rw [← hat]; exact E1]
            refine ifB_f (by simp) ?_
            conv => whnf
            rw [wsucc (j := i2) (n := ks.length) (by omega) (by omega)]
            exact ⟨(i2 + 1, true), [], ⟨rfl, rfl, rfl⟩, ⟨(by omega : i2 + 1 ≤ ks.length), (decide_eq_true (by dsimp only; omega)).symm⟩, by dsimp only; omega⟩
          · have hat : i2 ≠ atK 3 ks key := fun e => ge (by rw [e]; exact a2)
            conv => whnf
            rw [wsucc (j := i2) (n := ks.length) (by omega) (by omega)]
            exact ⟨(i2 + 1, hb), [], ⟨rfl, rfl, rfl⟩, ⟨(by omega : i2 + 1 ≤ ks.length), by dsimp only; rw [hhb]; exact decide_eq_decide.2 (by omega)⟩, by dsimp only; omega⟩
      · replace g : ¬ (i2 : Int) < ks.length := g
        obtain rfl : i2 = ks.length := by omega
        conv => whnf
        rw [hhb, decide_eq_true a1]
        conv => whnf
        repeat' (first | exact trivial | exact rfl | (refine And.intro ?_ ?_) | ((conv => whnf); done) | ((conv => whnf); (first | rfl | (refine congrArg (fun b => T.v (Value.bool b)) ?_; first | rfl | exact (decide_eq_true (by omega)).symm | exact (decide_eq_false (by omega)).symm | exact decide_eq_decide.2 (by omega)) | (refine congrArg (fun b => T.v (Value.int _ b)) ?_; first | rfl | omega) | omega)) | (first | rfl | (refine congrArg (fun b => T.v (Value.bool b)) ?_; first | rfl | exact (decide_eq_true (by omega)).symm | exact (decide_eq_false (by omega)).symm | exact decide_eq_decide.2 (by omega)) | (refine congrArg (fun b => T.v (Value.int _ b)) ?_; first | rfl | omega) | omega))
end Go.Proofs.YtnplgklnkcjmnaaGreatDoor.DcT
namespace Go.Proofs.YtnplgklnkcjmnaaGreatDoor.DcT
open Go.RowKit Go.Proofs.YtnplgklnkcjmnaaGreatDoor.Am Go.Proofs.YtnplgklnkcjmnaaGreatDoor Go.Proofs.YtnplgklnkcjmnaaGreatDoor.PrT
set_option linter.unusedVariables false
set_option linter.unusedSimpArgs false


attribute [local irreducible] updE updL apL apR apV opE opK opV encT prD tabD stK rmD keyD hereK atK insK recs
end Go.Proofs.YtnplgklnkcjmnaaGreatDoor.DcT
namespace Go.Proofs.YtnplgklnkcjmnaaGreatDoor.DcT
open Go.RowKit Go.Proofs.YtnplgklnkcjmnaaGreatDoor.Am Go.Proofs.YtnplgklnkcjmnaaGreatDoor Go.Proofs.YtnplgklnkcjmnaaGreatDoor.PrT
set_option linter.unusedVariables false
set_option linter.unusedSimpArgs false


attribute [local irreducible] updE updL apL apR apV opE opK opV encT prD tabD stK rmD keyD hereK atK insK recs codeG keyG valG
end Go.Proofs.YtnplgklnkcjmnaaGreatDoor.DcT
namespace Go.Proofs.YtnplgklnkcjmnaaGreatDoor.DcT
open Go.RowKit Go.Proofs.YtnplgklnkcjmnaaGreatDoor.Am Go.Proofs.YtnplgklnkcjmnaaGreatDoor Go.Proofs.YtnplgklnkcjmnaaGreatDoor.PrT
set_option linter.unusedVariables false
set_option linter.unusedSimpArgs false


attribute [local irreducible] updE updL apL apR apV opE opK opV encT prD tabD stK rmD keyD hereK atK insK recs codeG keyG valG
end Go.Proofs.YtnplgklnkcjmnaaGreatDoor.DcT
namespace Go.Proofs.YtnplgklnkcjmnaaGreatDoor.DcT
open Go.RowKit Go.Proofs.YtnplgklnkcjmnaaGreatDoor.Am Go.Proofs.YtnplgklnkcjmnaaGreatDoor Go.Proofs.YtnplgklnkcjmnaaGreatDoor.PrT
set_option linter.unusedVariables false
set_option linter.unusedSimpArgs false


attribute [local irreducible] updE updL apL apR apV opE opK opV encT prD tabD stK rmD keyD hereK atK insK recs codeG keyG valG
end Go.Proofs.YtnplgklnkcjmnaaGreatDoor.DcT
namespace Go.Proofs.YtnplgklnkcjmnaaGreatDoor.DcT
open Go.RowKit Go.Proofs.YtnplgklnkcjmnaaGreatDoor.Am Go.Proofs.YtnplgklnkcjmnaaGreatDoor Go.Proofs.YtnplgklnkcjmnaaGreatDoor.PrT
set_option linter.unusedVariables false
set_option linter.unusedSimpArgs false
end Go.Proofs.YtnplgklnkcjmnaaGreatDoor.DcT
namespace Go.Proofs.YtnplgklnkcjmnaaGreatDoor.DcT
open Go.RowKit Go.Proofs.YtnplgklnkcjmnaaGreatDoor.Am Go.Proofs.YtnplgklnkcjmnaaGreatDoor Go.Proofs.YtnplgklnkcjmnaaGreatDoor.PrT
set_option linter.unusedVariables false
set_option linter.unusedSimpArgs false


attribute [local irreducible] updE updL apL apR apV opE opK opV encT prD tabD stK rmD keyD hereK atK insK recs upS
end Go.Proofs.YtnplgklnkcjmnaaGreatDoor.DcT
