/- Texts put together: PrP, PrQ, PrV, PrY, PrZ, PrAA. -/
import Derived.Test.YtdbmbbfgcaimgaaDoorProbeOneM5
namespace Go.Proofs.YtdbmbbfgcaimgaaDoor.PrT
open Go.RowKit Go.Proofs.YtdbmbbfgcaimgaaDoor.Am Go.Proofs.YtdbmbbfgcaimgaaDoor
set_option linter.unusedVariables false
set_option linter.unusedSimpArgs false

theorem ok_one {k v : Int} (hu : U64 k) (hk : k ≠ 0) : Ok sP 1 [(k, v)] := by
  have e : ∀ j, j < 1 → kR [(k, v)] j = k := by
    intro j hj
    obtain rfl : j = 0 := by omega
    rfl
  refine ⟨rfl, fun j hj h => absurd ((e j hj).symm.trans h) hk, fun j hj _ => by rw [e j hj, sP_U]; exact hu, fun i j hi hj _ _ => ?_, fun j hj _ s hs hd => ?_⟩
  · omega
  · obtain rfl : s = j := by omega
    exact absurd hd (Nat.lt_irrefl _)
theorem laid_none (n : Nat) : laid sP n [] = List.replicate n (0, 0) := rfl
theorem laid_one {k v : Int} (hu : U64 k) (hk : k ≠ 0) : laid sP 1 [(k, v)] = [(k, v)] := by
  refine laid_is ⟨fun r hr => ?_, fun r hr => ?_, by simp⟩ (Nat.le_refl _) (ok_one hu hk) fun x => ?_
  · rw [List.mem_singleton.1 hr, sP_U]; exact hu
  · rw [List.mem_singleton.1 hr]; exact hk
  · rw [List.mem_singleton]
    constructor
    · rintro ⟨h1, j, h2, h3⟩
      obtain rfl : j = 0 := by omega
      exact h3.symm
    · rintro rfl; exact ⟨hk, 0, by omega, rfl⟩
theorem aw_u5 : U64 5 := ⟨by decide, by decide⟩
theorem aw_build : bldW 1 2 [] = [0, 0] ∧ bldE 1 2 [] = 0 := by
  obtain ⟨h1, h2, -⟩ := Tb.nil (n := 1) (v := 2) (.inr rfl) (by omega) (by omega)
  exact ⟨h2.trans (by rw [laid_none]; rfl), h1⟩
theorem aw_tb0 : Tb 1 2 [0, 0] := by
  obtain ⟨h1, h2, h3⟩ := Tb.nil (n := 1) (v := 2) (.inr rfl) (by omega) (by omega)
  have := aw_build.1
  rw [show bldW ((1 : Nat) : Int) ((2 : Nat) : Int) [] = [0, 0] from this] at h3
  exact h3
theorem aw_put : putL 2 [0, 0] 5 9 = [5, 9] ∧ putE 2 [0, 0] 5 9 = 0 := by
  obtain ⟨-, h⟩ := aw_tb0.put (.inr rfl) (by omega) (by omega) aw_u5 (by decide) (val := 9) ⟨by decide, by decide⟩ (fun q => by cases q)
  have e : oth (nzs (recs 1 2 [0, 0])) 5 = [] := rfl
  rw [e] at h
  rcases h with ⟨-, -, h⟩ | ⟨h1, h2, -⟩
  · exact absurd h (by decide)
  · refine ⟨h2.trans ?_, h1⟩
    rw [List.nil_append, laid_one aw_u5 (by decide)]; rfl
theorem aw_tb1 : Tb 1 2 [5, 9] := by
  have h := (aw_tb0.put (.inr rfl) (by omega) (by omega) aw_u5 (by decide) (val := 9) ⟨by decide, by decide⟩ (fun q => by cases q)).1
  rw [show putL ((2 : Nat) : Int) [0, 0] 5 9 = [5, 9] from aw_put.1] at h
  exact h
theorem aw_right : rightB 2 [5, 9] = true := (aw_tb1.facts (.inr rfl) (by omega) (by omega)).1
theorem aw_find : fndP 2 [5, 9] 5 = 0 := by
  obtain ⟨h1, h2, -⟩ := aw_tb1.facts (.inr rfl) (by omega) (by omega)
  unfold fndP
  rw [if_pos ⟨h1, by decide⟩, show shN 2 [5, 9] = 1 from h2]
  exact findF_in (key := 5) aw_tb1.ok (p := 0) (by omega) rfl (by decide) 1 _ (sP.hlt 1 5 (by omega)) (by rw [dist_self]; exact Nat.zero_le _) (dist_lt (sP.hlt 1 5 (by omega)) (by omega))
theorem aw_full : putE 2 [5, 9] 6 1 = 11 := by
  obtain ⟨-, h⟩ := aw_tb1.put (.inr rfl) (by omega) (by omega) (key := 6) (val := 1) ⟨by decide, by decide⟩ (by decide) ⟨by decide, by decide⟩ (fun q => by cases q)
  have e : oth (nzs (recs 1 2 [5, 9])) 6 = [(5, 9)] := rfl
  rw [e] at h
  rcases h with ⟨h, -⟩ | ⟨-, -, h, -⟩
  · exact h
  · exact absurd h (by decide)
theorem aw_del : delL 2 [5, 9] 5 = [0, 0] ∧ delE 2 [5, 9] 5 = 0 := by
  obtain ⟨g, h⟩ := aw_tb1.del (.inr rfl) (by omega) (by omega) (key := 5) (by decide)
  have e : oth (nzs (recs 1 2 [5, 9])) 5 = [] := rfl
  rcases h with ⟨-, -, h⟩ | ⟨h1, -, h2⟩
  · exact absurd ⟨(5, 9), by decide, rfl⟩ h
  · rw [e, laid_none] at h2
    have := flat_recs (w := 2) (.inr rfl) g.len
    rw [h2] at this
    exact ⟨this.symm, h1⟩
theorem aw_none : delE 2 [0, 0] 5 = 12 := by
  obtain ⟨-, h⟩ := aw_tb0.del (.inr rfl) (by omega) (by omega) (key := 5) (by decide)
  rcases h with ⟨h, -⟩ | ⟨-, ⟨r, h, -⟩, -⟩
  · exact h
  · exact absurd h (by rw [show nzs (recs 1 2 [0, 0]) = [] from rfl]; simp)
theorem aw_list : lstP 2 [5, 9] = [(5, 9)] := by
  obtain ⟨h1, h2, -⟩ := aw_tb1.facts (.inr rfl) (by omega) (by omega)
  unfold lstP
  rw [if_pos (show rightB 2 [5, 9] = true from h1), show shN 2 [5, 9] = 1 from h2]; rfl
theorem aw_bad : bldE 1 3 [] = 1 := by unfold bldE; rw [if_pos (by omega)]
theorem aw_not : rightB 3 [5, 9] = false := right_not fun q => by rcases q.1.1 with h | h <;> omega

noncomputable def ctxAw (P : Program) : Ctx := ctx P glM [eBuild, ePut, eFindP, eDel, eList, eRight, eSame, eRRecs] [] (noEq P) [] (fun _ h => by cases h)
theorem ctxAw_good : (ctxAw Tryd.prog).good := ctx_good (by kernel_rfl) (AllOk.mem ⟨eBuild_ok, ePut_ok, eFindP_ok, eDel_ok, eList_ok, eRight_ok, entry_lift eSame_ok, entry_lift eRRecs_ok, trivial⟩) glM_two
attribute [local irreducible] bldE bldW putL putE delL delE lstP fndP rightB
theorem allU_pair {a b : Int} (ha : U64 a) (hb : U64 b) : AllU [a, b] := by
  intro x hx
  rcases List.mem_cons.1 hx with rfl | hx
  · exact ha
  · rw [List.mem_singleton.1 hx]; exact hb
set_option maxHeartbeats 2000000 in
set_option maxRecDepth 100000 in
theorem awake_pure : Pure Tryd.prog glM 8 [] (.v (.bool true)) := by
  have u0 : AllU [0, 0] := aw_tb0.u
  have u1 : AllU [5, 9] := aw_tb1.u
  refine pure_of (C := ctxAw Tryd.prog) ctxAw_good Tryd.func8 (c := bodyOf Tryd.f8) (by rfl) (Nat.le_of_ble_eq_true (by rfl)) 4 0 [0, 1, 2, 3, 4, 5, 6, 8, 9, 10, 12, 13, 15] ?_
  conv => whnf
  rw [aw_build.1, aw_build.2]
  conv => whnf
  refine And.intro ⟨by decide, u0, aw_u5⟩ ?_
  conv => whnf
  rw [aw_put.1, aw_put.2]
  have c1 : [(5 : Int), 9].length ≤ 1000000 ∧ AllU [(5 : Int), 9] := ⟨by decide, u1⟩
  refine And.intro c1 ?_
  conv => whnf
  rw [aw_find]
  refine And.intro ⟨c1.1, u1, by decide, by decide⟩ ?_
  conv => whnf
  rw [aw_full]
  refine And.intro c1 ?_
  conv => whnf
  rw [aw_del.1, aw_del.2]
  refine And.intro ⟨(by decide : [(0 : Int), 0].length ≤ 1000000), u0⟩ ?_
  conv => whnf
  rw [aw_none]
  refine And.intro c1 ?_
  conv => whnf
  rw [aw_list, aw_bad]
  conv => whnf
  refine And.intro c1 ?_
  conv => whnf
  rw [aw_right]
  conv => whnf
  refine And.intro c1 ?_
  conv => whnf
  rw [aw_not]
  repeat' (first | exact trivial | exact rfl | (refine And.intro ?_ ?_) | ((conv => whnf); done) | ((conv => whnf); (first | rfl | (refine congrArg (fun b => T.v (Value.bool b)) ?_; first | rfl | exact (decide_eq_true (by omega)).symm | exact (decide_eq_false (by omega)).symm | exact decide_eq_decide.2 (by omega)) | (refine congrArg (fun b => T.v (Value.int _ b)) ?_; first | rfl | omega) | omega)) | (first | rfl | (refine congrArg (fun b => T.v (Value.bool b)) ?_; first | rfl | exact (decide_eq_true (by omega)).symm | exact (decide_eq_false (by omega)).symm | exact decide_eq_decide.2 (by omega)) | (refine congrArg (fun b => T.v (Value.int _ b)) ?_; first | rfl | omega) | omega))

noncomputable def eAwk : Entry := ⟨8, 4, fun l => match l with | [] => some (none, .v (.bool true), []) | _ => none⟩
theorem eAwk_ok : eAwk.ok Tryd.prog glM := ⟨Am.enters_of Tryd.func8 (by kernel_rfl) (by kernel_rfl), by
  intro args c t bs h hc
  simp only [eAwk] at h
  split at h <;> cases h
  exact awake_pure⟩
end Go.Proofs.YtdbmbbfgcaimgaaDoor.PrT
namespace Go.Proofs.YtdbmbbfgcaimgaaDoor.PrT
open Go.RowKit Go.Proofs.YtdbmbbfgcaimgaaDoor.Am Go.Proofs.YtdbmbbfgcaimgaaDoor
set_option linter.unusedVariables false
set_option linter.unusedSimpArgs false

noncomputable def ctxPl (P : Program) : Ctx := ctx P glM [eAwk, eTable, eKey07, ePick07, eRight, eRRight, eList, eRList, eRRecs, eFindP, eRFind, ePut, eRPut, eDel, eRDel, eSame, eBuild, eRBuild] [] (noEq P) [] (fun _ h => by cases h)
theorem ctxPl_good : (ctxPl Tryd.prog).good := ctx_good (by kernel_rfl) (AllOk.mem ⟨eAwk_ok, entry_lift eTable_ok, entry_lift eKey07_ok, entry_lift ePick07_ok, eRight_ok, entry_lift eRRight_ok, eList_ok, entry_lift eRList_ok, entry_lift eRRecs_ok, eFindP_ok, entry_lift eRFind_ok, ePut_ok, entry_lift eRPut_ok, eDel_ok, entry_lift eRDel_ok, entry_lift eSame_ok, eBuild_ok, entry_lift eRBuild_ok, trivial⟩) glM_two
attribute [local irreducible] bldE bldW putL putE delL delE lstP fndP rightB tabS keyS slN wdN ipick
theorem wr01 : IntKind.i64.wrap ((0 : Int) + 1) = 1 := by decide
theorem wr12 : IntKind.i64.wrap ((1 : Int) + 1) = 2 := by decide
theorem wr23 : IntKind.i64.wrap ((2 : Int) + 1) = 3 := by decide
theorem allU_take {xs : List Int} (h : AllU xs) (n : Nat) : AllU (xs.take n) := fun x hx => h x (List.mem_of_mem_take hx)
set_option maxHeartbeats 4000000 in
set_option maxRecDepth 100000 in
theorem tells07_pure (slots width : Int) (rn : Nat) (raw : List Int) (an : Nat) (any : List Int) (odd key val k : Int) (h1 : I64 slots) (h2 : I64 width) (h3 : ∀ r ∈ raw, I64 r) (h4 : AllU any) (h5 : I64 odd) (h6 : U64 key) (h7 : U64 val) (h8 : I64 k) :
    Pure Tryd.prog glM 3 [.v (.int .i64 slots), .v (.int .i64 width), .fl [.i64] rn raw, .fl [.u64] an any, .v (.int .i64 odd), .v (.int .u64 key), .v (.int .u64 val), .v (.int .i64 k)] (.v (.bool true)) := by
  refine pure_wf fun hw => ?_
  obtain ⟨-, -, ⟨w1, w2⟩, ⟨w3, w4⟩, -⟩ := hw
  simp only [List.length_cons, List.length_nil, Nat.zero_add, Nat.mul_one] at w1 w3
  obtain ⟨⟨n1, n2⟩, n3⟩ := slN_f slots
  obtain ⟨v1, v2⟩ := wdN_f width
  have hT := tabS_tb v1 (n := slN slots) (by omega) (by omega) (raw.take 14)
  obtain ⟨k1, k2⟩ := keyS_facts k
  refine pure_of (C := ctxPl Tryd.prog) ctxPl_good Tryd.func3 (c := bodyOf Tryd.f3) (by rfl) (Nat.le_of_ble_eq_true (by rfl)) 4 0 [0, 1, 2, 3, 4, 5, 6, 7, 16, 17, 18, 19, 20, 21, 23, 25, 27, 28, 29, 30, 31, 32, 33, 34, 35, 36, 37, 38, 39, 57, 70, 71, 72, 73, 80, 81, 82, 83, 102, 113, 114, 115, 116, 200] ?_
  conv => whnf
  refine And.intro ⟨h1, h2, h3⟩ ?_
  conv => whnf
  generalize slN slots = n at *
  generalize wdN width = v at *
  generalize tabS n v (raw.take 14) = t at *
  have hnv : n * v ≤ 24 ∧ 1 ≤ n * v := by rcases v1 with rfl | rfl <;> omega
  have htl := hT.len
  have htu := hT.u
  have hZ : AllU [key, val, keyS k, 0, keyS k, val] := by
    intro x hx
    simp only [List.mem_cons, List.not_mem_nil, or_false] at hx
    rcases hx with rfl | rfl | rfl | rfl | rfl | rfl
    · exact h6
    · exact h7
    · exact k1
    · exact ⟨by decide, by decide⟩
    · exact k1
    · exact h7
  obtain ⟨c, hc, hcn, hc60⟩ : ∃ c : Nat, (if (60 : Int) < (an : Int) then (60 : Int) else (an : Int)) = (c : Int) ∧ c ≤ an ∧ c ≤ 60 := ⟨min an 60, by split <;> omega, by omega, by omega⟩
  have hx : cutN (0 + 1) none (some (c : Int)) any = any.take c := rfl
  have hxl : cutL an none (some (c : Int)) = c := rfl
  have hxu := allU_take h4 c
  have hxn : (any.take c).length = c := by rw [List.length_take]; omega
  rw [hc, hx, hxl]
  generalize any.take c = xs at *
  refine And.intro (by omega) ?_
  conv => whnf
  refine And.intro (show n * v * 8 ≤ 140737488355328 by omega) ?_
  conv => whnf
  refine ifB_dec (fun hc0 => ?_) (fun hc0 => ?_)
  · conv => whnf
    refine And.intro ⟨h5, by omega, by omega⟩ ?_
    conv => whnf
    have hib := ipick_bounds odd (n := ((n * v : Nat) : Int)) (by omega)
    repeat (refine And.intro (by first | omega | (constructor <;> omega)) ?_; conv => whnf)
    have htu2 : AllU (t.set (0 + addN 0 (ipick odd ((n * v : Nat) : Int)).toNat * (0 + 1) + 0) (xs.getD (0 + Int.toNat 0 * (0 + 1)) 0)) := allU_set htu _ (allU_getD hxu _)
    generalize t.set (0 + addN 0 (ipick odd ((n * v : Nat) : Int)).toNat * (0 + 1) + 0) (xs.getD (0 + Int.toNat 0 * (0 + 1)) 0) = tu at *
    refine TW.roundsV ctxPl_good 0 (base := 0) (lv := [0, 1, 2, 3, 4, 5, 6, 7, 16, 17, 18, 19, 20, 21, 23, 25, 27, 28, 29, 30, 31, 32, 33, 34, 35, 36, 37, 38, 39, 57, 70, 71, 72, 73, 80, 81, 82, 83, 102, 113, 114, 115, 116, 200]) 4 ?_
    conv => whnf
    repeat (refine And.intro (by first | omega | (constructor <;> omega)) ?_; conv => whnf)
    refine TW.loopD ctxPl_good 0 (base := 0) (lv := [0, 1, 2, 3, 4, 5, 6, 7, 16, 17, 18, 19, 20, 21, 23, 25, 27, 28, 29, 30, 31, 32, 33, 34, 35, 36, 37, 38, 39, 57, 70, 71, 72, 73, 80, 81, 82, 83, 102, 113, 114, 115, 116, 200]) [82] [] [] (fun j : Nat => [.v (.int .i64 j)]) (fun j => []) (fun j => j ≤ 3) (fun j => 3 - j) ?_
    conv => whnf
    refine ⟨⟨0, ⟨rfl, rfl, rfl⟩, by omega⟩, fun j hj => ?_⟩
    conv => whnf
    refine ifB_dec (fun hj3 => ?_) (fun hj3 => ?_)
    · conv => whnf
      repeat (refine And.intro (by first | omega | (constructor <;> omega)) ?_; conv => whnf)
      generalize ([(v : Int), odd, IntKind.i64.wrap (3 - (v : Int))]).getD (0 + addN 0 (j : Int).toNat * (0 + 1)) 0 = W
      repeat (first | (refine ifB_f (by simp) ?_; conv => whnf) | (refine And.intro (by first | omega | exact ⟨by omega, by assumption⟩ | assumption) ?_; conv => whnf))
      refine TW.loopD ctxPl_good 0 (base := 0) (lv := [0, 1, 2, 3, 4, 5, 6, 7, 16, 17, 18, 19, 20, 21, 23, 25, 27, 28, 29, 30, 31, 32, 33, 34, 35, 36, 37, 38, 39, 57, 70, 71, 72, 73, 80, 81, 82, 83, 102, 113, 114, 115, 116, 200]) [115] [] [] (fun i : Nat => [.v (.int .i64 i)]) (fun i => []) (fun i => i ≤ 3) (fun i => 3 - i) ?_
      conv => whnf
      refine ⟨⟨0, ⟨rfl, rfl, rfl⟩, by omega⟩, fun i hi => ?_⟩
      conv => whnf
      refine ifB_dec (fun hi3 => ?_) (fun hi3 => ?_)
      · conv => whnf
        repeat (refine And.intro (by omega) ?_; conv => whnf)
        have z0 := allU_getD hZ (0 + addN 0 (i : Int).toNat * (1 + 1) + 0)
        have z1 := allU_getD hZ (0 + addN 0 (i : Int).toNat * (1 + 1) + (0 + 1))
        generalize ([key, val, keyS k, 0, keyS k, val]).getD (0 + addN 0 (i : Int).toNat * (1 + 1) + 0) 0 = Z0 at *
        generalize ([key, val, keyS k, 0, keyS k, val]).getD (0 + addN 0 (i : Int).toNat * (1 + 1) + (0 + 1)) 0 = Z1 at *
        repeat (first | (refine And.intro (by first | omega | exact ⟨by omega, by assumption⟩ | exact ⟨by omega, by assumption, z0⟩) ?_; conv => whnf) | (refine ifB_f (by simp) ?_; conv => whnf))
        rw [wsucc (j := i) (n := 3) (by omega) (by omega)]
        exact ⟨i + 1, [], ⟨rfl, rfl, rfl⟩, (by omega : i + 1 ≤ 3), by dsimp only; omega⟩
      · conv => whnf
        rw [wsucc (j := j) (n := 3) (by omega) (by omega)]
        exact ⟨j + 1, [], ⟨rfl, rfl, rfl⟩, (by omega : j + 1 ≤ 3), by dsimp only; omega⟩
    conv => whnf
    refine ⟨⟨[0, 1, 2, 3, 4, 5, 6, 7, 16, 17, 18, 19, 20, 21, 70, 71, 72], [(280, 280), (216, 216), (180, 180)], []⟩, rfl, ?_⟩
    first | rw [wr01] | rw [wr12] | rw [wr23]
    conv => whnf
    repeat (refine And.intro (by first | omega | (constructor <;> omega)) ?_; conv => whnf)
    refine TW.loopD ctxPl_good 0 (base := 0) (lv := [0, 1, 2, 3, 4, 5, 6, 7, 16, 17, 18, 19, 20, 21, 23, 25, 27, 28, 29, 30, 31, 32, 33, 34, 35, 36, 37, 38, 39, 57, 70, 71, 72, 73, 80, 81, 82, 83, 102, 113, 114, 115, 116, 200]) [82] [] [] (fun j : Nat => [.v (.int .i64 j)]) (fun j => []) (fun j => j ≤ 3) (fun j => 3 - j) ?_
    conv => whnf
    refine ⟨⟨0, ⟨rfl, rfl, rfl⟩, by omega⟩, fun j hj => ?_⟩
    conv => whnf
    refine ifB_dec (fun hj3 => ?_) (fun hj3 => ?_)
    · conv => whnf
      repeat (refine And.intro (by first | omega | (constructor <;> omega)) ?_; conv => whnf)
      generalize ([(v : Int), odd, IntKind.i64.wrap (3 - (v : Int))]).getD (0 + addN 0 (j : Int).toNat * (0 + 1)) 0 = W
      repeat (first | (refine ifB_f (by simp) ?_; conv => whnf) | (refine And.intro (by first | omega | exact ⟨by omega, by assumption⟩ | assumption) ?_; conv => whnf))
      refine TW.loopD ctxPl_good 0 (base := 0) (lv := [0, 1, 2, 3, 4, 5, 6, 7, 16, 17, 18, 19, 20, 21, 23, 25, 27, 28, 29, 30, 31, 32, 33, 34, 35, 36, 37, 38, 39, 57, 70, 71, 72, 73, 80, 81, 82, 83, 102, 113, 114, 115, 116, 200]) [115] [] [] (fun i : Nat => [.v (.int .i64 i)]) (fun i => []) (fun i => i ≤ 3) (fun i => 3 - i) ?_
      conv => whnf
      refine ⟨⟨0, ⟨rfl, rfl, rfl⟩, by omega⟩, fun i hi => ?_⟩
      conv => whnf
      refine ifB_dec (fun hi3 => ?_) (fun hi3 => ?_)
      · conv => whnf
        repeat (refine And.intro (by omega) ?_; conv => whnf)
        have z0 := allU_getD hZ (0 + addN 0 (i : Int).toNat * (1 + 1) + 0)
        have z1 := allU_getD hZ (0 + addN 0 (i : Int).toNat * (1 + 1) + (0 + 1))
        generalize ([key, val, keyS k, 0, keyS k, val]).getD (0 + addN 0 (i : Int).toNat * (1 + 1) + 0) 0 = Z0 at *
        generalize ([key, val, keyS k, 0, keyS k, val]).getD (0 + addN 0 (i : Int).toNat * (1 + 1) + (0 + 1)) 0 = Z1 at *
        repeat (first | (refine And.intro (by first | omega | exact ⟨by omega, by assumption⟩ | exact ⟨by omega, by assumption, z0⟩) ?_; conv => whnf) | (refine ifB_f (by simp) ?_; conv => whnf))
        rw [wsucc (j := i) (n := 3) (by omega) (by omega)]
        exact ⟨i + 1, [], ⟨rfl, rfl, rfl⟩, (by omega : i + 1 ≤ 3), by dsimp only; omega⟩
      · conv => whnf
        rw [wsucc (j := j) (n := 3) (by omega) (by omega)]
        exact ⟨j + 1, [], ⟨rfl, rfl, rfl⟩, (by omega : j + 1 ≤ 3), by dsimp only; omega⟩
    conv => whnf
    refine ⟨⟨[0, 1, 2, 3, 4, 5, 6, 7, 16, 17, 18, 19, 20, 21, 70, 71, 72], [(280, 280), (216, 216), (180, 180)], []⟩, rfl, ?_⟩
    first | rw [wr01] | rw [wr12] | rw [wr23]
    conv => whnf
    repeat (refine And.intro (by first | omega | (constructor <;> omega)) ?_; conv => whnf)
    refine TW.loopD ctxPl_good 0 (base := 0) (lv := [0, 1, 2, 3, 4, 5, 6, 7, 16, 17, 18, 19, 20, 21, 23, 25, 27, 28, 29, 30, 31, 32, 33, 34, 35, 36, 37, 38, 39, 57, 70, 71, 72, 73, 80, 81, 82, 83, 102, 113, 114, 115, 116, 200]) [82] [] [] (fun j : Nat => [.v (.int .i64 j)]) (fun j => []) (fun j => j ≤ 3) (fun j => 3 - j) ?_
    conv => whnf
    refine ⟨⟨0, ⟨rfl, rfl, rfl⟩, by omega⟩, fun j hj => ?_⟩
    conv => whnf
    refine ifB_dec (fun hj3 => ?_) (fun hj3 => ?_)
    · conv => whnf
      repeat (refine And.intro (by first | omega | (constructor <;> omega)) ?_; conv => whnf)
      generalize ([(v : Int), odd, IntKind.i64.wrap (3 - (v : Int))]).getD (0 + addN 0 (j : Int).toNat * (0 + 1)) 0 = W
      repeat (first | (refine ifB_f (by simp) ?_; conv => whnf) | (refine And.intro (by first | omega | exact ⟨by omega, by assumption⟩ | assumption) ?_; conv => whnf))
      refine TW.loopD ctxPl_good 0 (base := 0) (lv := [0, 1, 2, 3, 4, 5, 6, 7, 16, 17, 18, 19, 20, 21, 23, 25, 27, 28, 29, 30, 31, 32, 33, 34, 35, 36, 37, 38, 39, 57, 70, 71, 72, 73, 80, 81, 82, 83, 102, 113, 114, 115, 116, 200]) [115] [] [] (fun i : Nat => [.v (.int .i64 i)]) (fun i => []) (fun i => i ≤ 3) (fun i => 3 - i) ?_
      conv => whnf
      refine ⟨⟨0, ⟨rfl, rfl, rfl⟩, by omega⟩, fun i hi => ?_⟩
      conv => whnf
      refine ifB_dec (fun hi3 => ?_) (fun hi3 => ?_)
      · conv => whnf
        repeat (refine And.intro (by omega) ?_; conv => whnf)
        have z0 := allU_getD hZ (0 + addN 0 (i : Int).toNat * (1 + 1) + 0)
        have z1 := allU_getD hZ (0 + addN 0 (i : Int).toNat * (1 + 1) + (0 + 1))
        generalize ([key, val, keyS k, 0, keyS k, val]).getD (0 + addN 0 (i : Int).toNat * (1 + 1) + 0) 0 = Z0 at *
        generalize ([key, val, keyS k, 0, keyS k, val]).getD (0 + addN 0 (i : Int).toNat * (1 + 1) + (0 + 1)) 0 = Z1 at *
        repeat (first | (refine And.intro (by first | omega | exact ⟨by omega, by assumption⟩ | exact ⟨by omega, by assumption, z0⟩) ?_; conv => whnf) | (refine ifB_f (by simp) ?_; conv => whnf))
        rw [wsucc (j := i) (n := 3) (by omega) (by omega)]
        exact ⟨i + 1, [], ⟨rfl, rfl, rfl⟩, (by omega : i + 1 ≤ 3), by dsimp only; omega⟩
      · conv => whnf
        rw [wsucc (j := j) (n := 3) (by omega) (by omega)]
        exact ⟨j + 1, [], ⟨rfl, rfl, rfl⟩, (by omega : j + 1 ≤ 3), by dsimp only; omega⟩
    conv => whnf
    refine ⟨⟨[0, 1, 2, 3, 4, 5, 6, 7, 16, 17, 18, 19, 20, 21, 70, 71, 72], [(280, 280), (216, 216), (180, 180)], []⟩, rfl, ?_⟩
    first | rw [wr01] | rw [wr12] | rw [wr23]
    conv => whnf
    repeat' (first | exact trivial | exact rfl | (refine And.intro ?_ ?_) | ((conv => whnf); done) | ((conv => whnf); (first | rfl | (refine congrArg (fun b => T.v (Value.bool b)) ?_; first | rfl | exact (decide_eq_true (by omega)).symm | exact (decide_eq_false (by omega)).symm | exact decide_eq_decide.2 (by omega)) | (refine congrArg (fun b => T.v (Value.int _ b)) ?_; first | rfl | omega) | omega)) | (first | rfl | (refine congrArg (fun b => T.v (Value.bool b)) ?_; first | rfl | exact (decide_eq_true (by omega)).symm | exact (decide_eq_false (by omega)).symm | exact decide_eq_decide.2 (by omega)) | (refine congrArg (fun b => T.v (Value.int _ b)) ?_; first | rfl | omega) | omega))
  · conv => whnf
    refine TW.roundsV ctxPl_good 0 (base := 0) (lv := [0, 1, 2, 3, 4, 5, 6, 7, 16, 17, 18, 19, 20, 21, 23, 25, 27, 28, 29, 30, 31, 32, 33, 34, 35, 36, 37, 38, 39, 57, 70, 71, 72, 73, 80, 81, 82, 83, 102, 113, 114, 115, 116, 200]) 4 ?_
    conv => whnf
    repeat (refine And.intro (by first | omega | (constructor <;> omega)) ?_; conv => whnf)
    refine TW.loopD ctxPl_good 0 (base := 0) (lv := [0, 1, 2, 3, 4, 5, 6, 7, 16, 17, 18, 19, 20, 21, 23, 25, 27, 28, 29, 30, 31, 32, 33, 34, 35, 36, 37, 38, 39, 57, 70, 71, 72, 73, 80, 81, 82, 83, 102, 113, 114, 115, 116, 200]) [82] [] [] (fun j : Nat => [.v (.int .i64 j)]) (fun j => []) (fun j => j ≤ 3) (fun j => 3 - j) ?_
    conv => whnf
    refine ⟨⟨0, ⟨rfl, rfl, rfl⟩, by omega⟩, fun j hj => ?_⟩
    conv => whnf
    refine ifB_dec (fun hj3 => ?_) (fun hj3 => ?_)
    · conv => whnf
      repeat (refine And.intro (by first | omega | (constructor <;> omega)) ?_; conv => whnf)
      generalize ([(v : Int), odd, IntKind.i64.wrap (3 - (v : Int))]).getD (0 + addN 0 (j : Int).toNat * (0 + 1)) 0 = W
      repeat (first | (refine ifB_f (by simp) ?_; conv => whnf) | (refine And.intro (by first | omega | exact ⟨by omega, by assumption⟩ | assumption) ?_; conv => whnf))
      refine TW.loopD ctxPl_good 0 (base := 0) (lv := [0, 1, 2, 3, 4, 5, 6, 7, 16, 17, 18, 19, 20, 21, 23, 25, 27, 28, 29, 30, 31, 32, 33, 34, 35, 36, 37, 38, 39, 57, 70, 71, 72, 73, 80, 81, 82, 83, 102, 113, 114, 115, 116, 200]) [115] [] [] (fun i : Nat => [.v (.int .i64 i)]) (fun i => []) (fun i => i ≤ 3) (fun i => 3 - i) ?_
      conv => whnf
      refine ⟨⟨0, ⟨rfl, rfl, rfl⟩, by omega⟩, fun i hi => ?_⟩
      conv => whnf
      refine ifB_dec (fun hi3 => ?_) (fun hi3 => ?_)
      · conv => whnf
        repeat (refine And.intro (by omega) ?_; conv => whnf)
        have z0 := allU_getD hZ (0 + addN 0 (i : Int).toNat * (1 + 1) + 0)
        have z1 := allU_getD hZ (0 + addN 0 (i : Int).toNat * (1 + 1) + (0 + 1))
        generalize ([key, val, keyS k, 0, keyS k, val]).getD (0 + addN 0 (i : Int).toNat * (1 + 1) + 0) 0 = Z0 at *
        generalize ([key, val, keyS k, 0, keyS k, val]).getD (0 + addN 0 (i : Int).toNat * (1 + 1) + (0 + 1)) 0 = Z1 at *
        repeat (first | (refine And.intro (by first | omega | exact ⟨by omega, by assumption⟩ | exact ⟨by omega, by assumption, z0⟩) ?_; conv => whnf) | (refine ifB_f (by simp) ?_; conv => whnf))
        rw [wsucc (j := i) (n := 3) (by omega) (by omega)]
        exact ⟨i + 1, [], ⟨rfl, rfl, rfl⟩, (by omega : i + 1 ≤ 3), by dsimp only; omega⟩
      · conv => whnf
        rw [wsucc (j := j) (n := 3) (by omega) (by omega)]
        exact ⟨j + 1, [], ⟨rfl, rfl, rfl⟩, (by omega : j + 1 ≤ 3), by dsimp only; omega⟩
    conv => whnf
    refine ⟨⟨[0, 1, 2, 3, 4, 5, 6, 7, 16, 17, 18, 19, 20, 21, 70, 71, 72], [(280, 280), (216, 216), (180, 180)], []⟩, rfl, ?_⟩
    first | rw [wr01] | rw [wr12] | rw [wr23]
    conv => whnf
    repeat (refine And.intro (by first | omega | (constructor <;> omega)) ?_; conv => whnf)
    refine TW.loopD ctxPl_good 0 (base := 0) (lv := [0, 1, 2, 3, 4, 5, 6, 7, 16, 17, 18, 19, 20, 21, 23, 25, 27, 28, 29, 30, 31, 32, 33, 34, 35, 36, 37, 38, 39, 57, 70, 71, 72, 73, 80, 81, 82, 83, 102, 113, 114, 115, 116, 200]) [82] [] [] (fun j : Nat => [.v (.int .i64 j)]) (fun j => []) (fun j => j ≤ 3) (fun j => 3 - j) ?_
    conv => whnf
    refine ⟨⟨0, ⟨rfl, rfl, rfl⟩, by omega⟩, fun j hj => ?_⟩
    conv => whnf
    refine ifB_dec (fun hj3 => ?_) (fun hj3 => ?_)
    · conv => whnf
      repeat (refine And.intro (by first | omega | (constructor <;> omega)) ?_; conv => whnf)
      generalize ([(v : Int), odd, IntKind.i64.wrap (3 - (v : Int))]).getD (0 + addN 0 (j : Int).toNat * (0 + 1)) 0 = W
      repeat (first | (refine ifB_f (by simp) ?_; conv => whnf) | (refine And.intro (by first | omega | exact ⟨by omega, by assumption⟩ | assumption) ?_; conv => whnf))
      refine TW.loopD ctxPl_good 0 (base := 0) (lv := [0, 1, 2, 3, 4, 5, 6, 7, 16, 17, 18, 19, 20, 21, 23, 25, 27, 28, 29, 30, 31, 32, 33, 34, 35, 36, 37, 38, 39, 57, 70, 71, 72, 73, 80, 81, 82, 83, 102, 113, 114, 115, 116, 200]) [115] [] [] (fun i : Nat => [.v (.int .i64 i)]) (fun i => []) (fun i => i ≤ 3) (fun i => 3 - i) ?_
      conv => whnf
      refine ⟨⟨0, ⟨rfl, rfl, rfl⟩, by omega⟩, fun i hi => ?_⟩
      conv => whnf
      refine ifB_dec (fun hi3 => ?_) (fun hi3 => ?_)
      · conv => whnf
        repeat (refine And.intro (by omega) ?_; conv => whnf)
        have z0 := allU_getD hZ (0 + addN 0 (i : Int).toNat * (1 + 1) + 0)
        have z1 := allU_getD hZ (0 + addN 0 (i : Int).toNat * (1 + 1) + (0 + 1))
        generalize ([key, val, keyS k, 0, keyS k, val]).getD (0 + addN 0 (i : Int).toNat * (1 + 1) + 0) 0 = Z0 at *
        generalize ([key, val, keyS k, 0, keyS k, val]).getD (0 + addN 0 (i : Int).toNat * (1 + 1) + (0 + 1)) 0 = Z1 at *
        repeat (first | (refine And.intro (by first | omega | exact ⟨by omega, by assumption⟩ | exact ⟨by omega, by assumption, z0⟩) ?_; conv => whnf) | (refine ifB_f (by simp) ?_; conv => whnf))
        rw [wsucc (j := i) (n := 3) (by omega) (by omega)]
        exact ⟨i + 1, [], ⟨rfl, rfl, rfl⟩, (by omega : i + 1 ≤ 3), by dsimp only; omega⟩
      · conv => whnf
        rw [wsucc (j := j) (n := 3) (by omega) (by omega)]
        exact ⟨j + 1, [], ⟨rfl, rfl, rfl⟩, (by omega : j + 1 ≤ 3), by dsimp only; omega⟩
    conv => whnf
    refine ⟨⟨[0, 1, 2, 3, 4, 5, 6, 7, 16, 17, 18, 19, 20, 21, 70, 71, 72], [(280, 280), (216, 216), (180, 180)], []⟩, rfl, ?_⟩
    first | rw [wr01] | rw [wr12] | rw [wr23]
    conv => whnf
    repeat (refine And.intro (by first | omega | (constructor <;> omega)) ?_; conv => whnf)
    refine TW.loopD ctxPl_good 0 (base := 0) (lv := [0, 1, 2, 3, 4, 5, 6, 7, 16, 17, 18, 19, 20, 21, 23, 25, 27, 28, 29, 30, 31, 32, 33, 34, 35, 36, 37, 38, 39, 57, 70, 71, 72, 73, 80, 81, 82, 83, 102, 113, 114, 115, 116, 200]) [82] [] [] (fun j : Nat => [.v (.int .i64 j)]) (fun j => []) (fun j => j ≤ 3) (fun j => 3 - j) ?_
    conv => whnf
    refine ⟨⟨0, ⟨rfl, rfl, rfl⟩, by omega⟩, fun j hj => ?_⟩
    conv => whnf
    refine ifB_dec (fun hj3 => ?_) (fun hj3 => ?_)
    · conv => whnf
      repeat (refine And.intro (by first | omega | (constructor <;> omega)) ?_; conv => whnf)
      generalize ([(v : Int), odd, IntKind.i64.wrap (3 - (v : Int))]).getD (0 + addN 0 (j : Int).toNat * (0 + 1)) 0 = W
      repeat (first | (refine ifB_f (by simp) ?_; conv => whnf) | (refine And.intro (by first | omega | exact ⟨by omega, by assumption⟩ | assumption) ?_; conv => whnf))
      refine TW.loopD ctxPl_good 0 (base := 0) (lv := [0, 1, 2, 3, 4, 5, 6, 7, 16, 17, 18, 19, 20, 21, 23, 25, 27, 28, 29, 30, 31, 32, 33, 34, 35, 36, 37, 38, 39, 57, 70, 71, 72, 73, 80, 81, 82, 83, 102, 113, 114, 115, 116, 200]) [115] [] [] (fun i : Nat => [.v (.int .i64 i)]) (fun i => []) (fun i => i ≤ 3) (fun i => 3 - i) ?_
      conv => whnf
      refine ⟨⟨0, ⟨rfl, rfl, rfl⟩, by omega⟩, fun i hi => ?_⟩
      conv => whnf
      refine ifB_dec (fun hi3 => ?_) (fun hi3 => ?_)
      · conv => whnf
        repeat (refine And.intro (by omega) ?_; conv => whnf)
        have z0 := allU_getD hZ (0 + addN 0 (i : Int).toNat * (1 + 1) + 0)
        have z1 := allU_getD hZ (0 + addN 0 (i : Int).toNat * (1 + 1) + (0 + 1))
        generalize ([key, val, keyS k, 0, keyS k, val]).getD (0 + addN 0 (i : Int).toNat * (1 + 1) + 0) 0 = Z0 at *
        generalize ([key, val, keyS k, 0, keyS k, val]).getD (0 + addN 0 (i : Int).toNat * (1 + 1) + (0 + 1)) 0 = Z1 at *
        repeat (first | (refine And.intro (by first | omega | exact ⟨by omega, by assumption⟩ | exact ⟨by omega, by assumption, z0⟩) ?_; conv => whnf) | (refine ifB_f (by simp) ?_; conv => whnf))
        rw [wsucc (j := i) (n := 3) (by omega) (by omega)]
        exact ⟨i + 1, [], ⟨rfl, rfl, rfl⟩, (by omega : i + 1 ≤ 3), by dsimp only; omega⟩
      · conv => whnf
        rw [wsucc (j := j) (n := 3) (by omega) (by omega)]
        exact ⟨j + 1, [], ⟨rfl, rfl, rfl⟩, (by omega : j + 1 ≤ 3), by dsimp only; omega⟩
    conv => whnf
    refine ⟨⟨[0, 1, 2, 3, 4, 5, 6, 7, 16, 17, 18, 19, 20, 21, 70, 71, 72], [(280, 280), (216, 216), (180, 180)], []⟩, rfl, ?_⟩
    first | rw [wr01] | rw [wr12] | rw [wr23]
    conv => whnf
    repeat' (first | exact trivial | exact rfl | (refine And.intro ?_ ?_) | ((conv => whnf); done) | ((conv => whnf); (first | rfl | (refine congrArg (fun b => T.v (Value.bool b)) ?_; first | rfl | exact (decide_eq_true (by omega)).symm | exact (decide_eq_false (by omega)).symm | exact decide_eq_decide.2 (by omega)) | (refine congrArg (fun b => T.v (Value.int _ b)) ?_; first | rfl | omega) | omega)) | (first | rfl | (refine congrArg (fun b => T.v (Value.bool b)) ?_; first | rfl | exact (decide_eq_true (by omega)).symm | exact (decide_eq_false (by omega)).symm | exact decide_eq_decide.2 (by omega)) | (refine congrArg (fun b => T.v (Value.int _ b)) ?_; first | rfl | omega) | omega))
end Go.Proofs.YtdbmbbfgcaimgaaDoor.PrT
namespace Go.Proofs.YtdbmbbfgcaimgaaDoor.PrT
open Go.RowKit Go.Proofs.YtdbmbbfgcaimgaaDoor.Am Go.Proofs.YtdbmbbfgcaimgaaDoor
set_option linter.unusedVariables false
set_option linter.unusedSimpArgs false

/-- A right table's list. -/
theorem Tb.list {n v : Nat} {t : List Int} (h : Tb n v t) (hv : v = 1 ∨ v = 2) (hn0 : 0 < n) (hn : n ≤ 1024) :
    lstP v t = sortI byK (nzs (recs n v t)) ∧ bldE n v (lstP v t) = 0 ∧ bldW n v (lstP v t) = t ∧ ((lstP v t).Pairwise fun a b => a.1 < b.1) ∧ ∀ r ∈ lstP v t, ∃ p, p < n ∧ gR (recs n v t) p = r ∧ r.1 ≠ 0 ∧ fndP v t r.1 = p := by
  obtain ⟨hr, f2, f3⟩ := h.facts hv hn0 hn
  have e : lstP v t = sortI byK (nzs (recs n v t)) := by unfold lstP; rw [if_pos hr, f2, Int.toNat_natCast]
  obtain ⟨q1, q2⟩ := (rright_is hv hn0 hn h.len h.u).2 h.ok
  rw [e]
  refine ⟨rfl, q1, q2, sortI_sorted (fun a b => rfl) h.ok.recs.nd, fun r hm => ?_⟩
  obtain ⟨h1, p, h2, h3⟩ := (In_nzs (recs_len n v t) r).2 ((sortI_mem _ _ _).1 hm)
  refine ⟨p, h2, h3, h1, ?_⟩
  unfold fndP
  rw [if_pos ⟨hr, h1⟩, f2, Int.toNat_natCast]
  exact findF_in h.ok h2 (by unfold kR; rw [h3]) h1 n _ (sP.hlt n r.1 hn0) (by rw [dist_self]; exact Nat.zero_le _) (dist_lt (sP.hlt n r.1 hn0) h2)
theorem nzs_take {T : List R} {j : Nat} (h : j < T.length) : (nzs (T.take (j + 1))).length = (nzs (T.take j)).length + if kR T j = 0 then 0 else 1 := by
  rw [take_snocR h, nzs_snoc]
  split
  · rename_i q; rw [if_pos (show kR T j = 0 from q)]; rfl
  · rename_i q; rw [if_neg (show ¬ kR T j = 0 from q)]; simp
theorem pw_lt {L : List R} (h : L.Pairwise fun a b => a.1 < b.1) {i j : Nat} (hij : i < j) (hj : j < L.length) : (gR L i).1 < (gR L j).1 := by
  have := (List.pairwise_iff_getElem.1 h) i j (by omega) hj hij
  unfold gR
  rw [List.getD_eq_getElem?_getD, List.getD_eq_getElem?_getD, List.getElem?_eq_getElem (by omega), List.getElem?_eq_getElem hj]
  exact this
attribute [local irreducible] bldE bldW putL putE delL delE lstP fndP rightB tabS keyS slN wdN ipick nzs recs
set_option maxHeartbeats 4000000 in
set_option maxRecDepth 100000 in
theorem lists07_pure (slots width : Int) (rn : Nat) (raw : List Int) (h1 : I64 slots) (h2 : I64 width) (h3 : ∀ r ∈ raw, I64 r) :
    Pure Tryd.prog glM 7 [.v (.int .i64 slots), .v (.int .i64 width), .fl [.i64] rn raw] (.v (.bool true)) := by
  refine pure_wf fun hw => ?_
  obtain ⟨-, -, ⟨w1, w2⟩, -⟩ := hw
  simp only [List.length_cons, List.length_nil, Nat.zero_add, Nat.mul_one] at w1
  obtain ⟨⟨n1, n2⟩, n3⟩ := slN_f slots
  obtain ⟨v1, v2⟩ := wdN_f width
  have hT := tabS_tb v1 (n := slN slots) (by omega) (by omega) (raw.take 14)
  refine pure_of (C := ctxPl Tryd.prog) ctxPl_good Tryd.func7 (c := bodyOf Tryd.f7) (by rfl) (Nat.le_of_ble_eq_true (by rfl)) 4 0 [0, 1, 2, 6, 7, 8, 9, 10, 11, 12, 13, 14, 15, 16, 17, 34, 43, 49, 127] ?_
  conv => whnf
  refine And.intro ⟨h1, h2, h3⟩ ?_
  conv => whnf
  generalize slN slots = n at *
  generalize wdN width = v at *
  generalize tabS n v (raw.take 14) = t at *
  have hnv : n * v ≤ 24 ∧ 1 ≤ n * v := by rcases v1 with rfl | rfl <;> omega
  have htl := hT.len
  have htu := hT.u
  obtain ⟨l1, l2, l3, l4, l5⟩ := hT.list v1 (by omega) (by omega)
  have hdv : IntKind.i64.wrap (((n * v : Nat) : Int).tdiv v) = n := by
    rw [Int.tdiv_eq_ediv_of_nonneg (by omega), ← Int.natCast_ediv, Nat.mul_div_cancel _ (by omega), wrap64 (by omega) (by omega)]
  have hTl := recs_len n v t
  have hll : (lstP v t).length = (nzs (recs n v t)).length := by rw [l1, sortI_len]
  have hkR : ∀ i, i < n → kR (recs n v t) i = t.getD (i * v) 0 := fun i hi => by unfold kR; rw [recs_get t hi]
  have hgR : ∀ i, i < n → (gR (recs n v t) i).1 = t.getD (i * v) 0 := hkR
  have hgR2 : ∀ i, i < n → v = 2 → (gR (recs n v t) i).2 = t.getD (i * v + 1) 0 := fun i hi q => by rw [recs_get t hi, if_neg (by omega)]
  generalize hLL : lstP v t = L at *
  refine And.intro ⟨by omega, htu⟩ ?_
  conv => whnf
  have hlt : ∀ i, i < n → i * v + v ≤ n * v := fun i hi => by
    have := Nat.mul_le_mul_right v (Nat.succ_le_of_lt hi); rw [Nat.succ_mul] at this; exact this
  have hwm : ∀ i, i < n → IntKind.i64.wrap ((i : Int) * v) = ((i * v : Nat) : Int) := fun i hi => by
    have := hlt i hi
    rw [← Int.natCast_mul, wrap64 (by omega) (by omega)]
  refine TW.loopD ctxPl_good 0 (base := 0) (lv := [0, 1, 2, 6, 7, 8, 9, 10, 11, 12, 13, 14, 15, 16, 17, 34, 43, 49, 127]) [11, 12] [] [] (fun x : Nat × Nat => [.v (.int .i64 x.2), .v (.int .i64 x.1)]) (fun x => []) (fun x => x.1 ≤ n ∧ x.2 = (nzs ((recs n v t).take x.1)).length ∧ x.2 ≤ x.1) (fun x => n - x.1) ?_
  conv => whnf
  refine ⟨⟨(0, 0), ⟨rfl, rfl, rfl⟩, Nat.zero_le _, by unfold nzs; rfl, Nat.le_refl _⟩, fun ⟨j, c⟩ ⟨hj, hc, hcj⟩ => ?_⟩
  replace hj : j ≤ n := hj
  replace hc : c = (nzs ((recs n v t).take j)).length := hc
  replace hcj : c ≤ j := hcj
  conv => whnf
  repeat (refine And.intro (by omega) ?_; conv => whnf)
  rw [hdv]
  refine ifB_dec (fun h => ?_) (fun h => ?_)
  · replace h : (j : Int) < n := h
    have hjl := hlt j (by omega)
    have ej : IntKind.i64.wrap ((((j, c) : Nat × Nat).1 : Int) * v) = ((j * v : Nat) : Int) := hwm j (by omega)
    have hns := nzs_take (T := recs n v t) (j := j) (by omega)
    rw [hkR j (by omega)] at hns
    conv => whnf
    rw [ej]
    repeat (refine And.intro (by omega) ?_; conv => whnf)
    rw [show 0 + addN 0 ((j * v : Nat) : Int).toNat * (0 + 1) = j * v by rw [addN_eq, Int.toNat_natCast]; omega]
    refine ifB_ne (x := t.getD (j * v) 0) (y := 0) (fun hz => ?_) (fun hz => ?_)
    · rw [if_neg hz] at hns
      conv => whnf
      rw [wsucc (j := j) (n := n) (by omega) (by omega), wsucc (j := c) (n := n) (by omega) (by omega)]
      exact ⟨(j + 1, c + 1), [], ⟨rfl, rfl, rfl⟩, ⟨(by omega : j + 1 ≤ n), by dsimp only; omega, (by omega : c + 1 ≤ j + 1)⟩, by dsimp only; omega⟩
    · rw [if_pos hz] at hns
      conv => whnf
      rw [wsucc (j := j) (n := n) (by omega) (by omega)]
      exact ⟨(j + 1, c), [], ⟨rfl, rfl, rfl⟩, ⟨(by omega : j + 1 ≤ n), by dsimp only; omega, (by omega : c ≤ j + 1)⟩, by dsimp only; omega⟩
  · replace h : ¬ (j : Int) < n := h
    have hjn : j = n := by omega
    subst hjn
    rw [List.take_of_length_le (by omega), ← hll] at hc
    subst hc
    conv => whnf
    refine TW.loopD ctxPl_good 0 (base := 0) (lv := [0, 1, 2, 6, 7, 8, 9, 10, 11, 12, 13, 14, 15, 16, 17, 34, 43, 49, 127]) [13] [] [] (fun i : Nat => [.v (.int .i64 i)]) (fun i => []) (fun i => i ≤ L.length) (fun i => L.length - i) ?_
    conv => whnf
    refine ⟨⟨0, ⟨rfl, rfl, rfl⟩, Nat.zero_le _⟩, fun i hi => ?_⟩
    conv => whnf
    refine ifB_dec (fun h => ?_) (fun h => ?_)
    · replace h : (i : Int) < L.length := h
      obtain ⟨p, p1, p2, p3, p4⟩ := l5 (gR L i) (gR_mem (by omega))
      have hpl := hlt p p1
      have hpm := hwm p p1
      conv => whnf
      repeat (refine And.intro (by omega) ?_; conv => whnf)
      refine And.intro ⟨by omega, htu⟩ ?_
      conv => whnf
      have E0 : (flat 2 L).getD (0 + addN 0 (i : Int).toNat * (1 + 1)) 0 = (gR L i).1 := by
        rw [addN_eq, show 0 + (0 + (i : Int).toNat) * (1 + 1) = i * 2 by omega]; exact flat_key (.inr rfl) L (by omega)
      rw [E0, p4, if_neg (by omega), decide_eq_true (by omega : (0 : Int) ≤ (p : Int))]
      have G1 : (gR L i).1 = t.getD (p * v) 0 := by rw [← p2]; exact hgR p p1
      have G2 : v = 2 → (gR L i).2 = t.getD (p * v + 1) 0 := fun q => by rw [← p2]; exact hgR2 p p1 q
      have E1 : (flat 2 L).getD (0 + 1 + addN 0 (i : Int).toNat * (1 + 1)) 0 = (gR L i).2 := by
        rw [addN_eq, show 0 + 1 + (0 + (i : Int).toNat) * (1 + 1) = i * 2 + 1 by omega]; exact flat_val L (by omega)
      have I1 : 0 + addN 0 ((p * v : Nat) : Int).toNat * (0 + 1) = p * v := by rw [addN_eq, Int.toNat_natCast]; omega
      have I2 : 0 + addN 0 ((p * v + 1 : Nat) : Int).toNat * (0 + 1) = p * v + 1 := by rw [addN_eq, Int.toNat_natCast]; omega
      have hp1 : IntKind.i64.wrap (((p * v : Nat) : Int) + 1) = ((p * v + 1 : Nat) : Int) := by rw [wrap64 (by omega) (by omega)]; omega
      conv => whnf
      rw [hpm]
      refine ifB_f (decide_eq_false (by omega)) ?_
      conv => whnf
      rw [hpm]
      repeat (refine And.intro (by omega) ?_; conv => whnf)
      rw [I1, E0, G1]
      refine ifB_f (by simp) ?_
      conv => whnf
      refine ifB_eq (fun hv => ?_) (fun hv => ?_)
      · conv => whnf
        repeat (first | (refine And.intro (by omega) ?_; conv => whnf) | rw [hpm] | rw [hp1])
        rw [I2, E1, G2 (by omega)]
        refine ifB_f (by simp) ?_
        conv => whnf
        refine ifB_dec (fun h0 => ?_) (fun h0 => ?_)
        · replace h0 : (i : Int) > 0 := h0
          have ei : IntKind.i64.wrap ((i : Int) - 1) = ((i - 1 : Nat) : Int) := by rw [wrap64 (by omega) (by omega)]; omega
          have E2 : (flat 2 L).getD (0 + addN 0 ((i - 1 : Nat) : Int).toNat * (1 + 1)) 0 = (gR L (i - 1)).1 := by
            rw [addN_eq, show 0 + (0 + ((i - 1 : Nat) : Int).toNat) * (1 + 1) = (i - 1) * 2 by omega]; exact flat_key (.inr rfl) L (by omega)
          have hlt2 := pw_lt l4 (i := i - 1) (j := i) (by omega) (by omega)
          conv => whnf
          repeat (first | (refine And.intro (by omega) ?_; conv => whnf) | rw [ei])
          rw [E2, E0]
          refine ifB_f (decide_eq_false (by omega)) ?_
          conv => whnf
          rw [wsucc (j := i) (n := L.length) (by omega) (by omega)]
          exact ⟨i + 1, [], ⟨rfl, rfl, rfl⟩, (by omega : i + 1 ≤ L.length), by dsimp only; omega⟩
        · conv => whnf
          rw [wsucc (j := i) (n := L.length) (by omega) (by omega)]
          exact ⟨i + 1, [], ⟨rfl, rfl, rfl⟩, (by omega : i + 1 ≤ L.length), by dsimp only; omega⟩
      · conv => whnf
        refine ifB_dec (fun h0 => ?_) (fun h0 => ?_)
        · replace h0 : (i : Int) > 0 := h0
          have ei : IntKind.i64.wrap ((i : Int) - 1) = ((i - 1 : Nat) : Int) := by rw [wrap64 (by omega) (by omega)]; omega
          have E2 : (flat 2 L).getD (0 + addN 0 ((i - 1 : Nat) : Int).toNat * (1 + 1)) 0 = (gR L (i - 1)).1 := by
            rw [addN_eq, show 0 + (0 + ((i - 1 : Nat) : Int).toNat) * (1 + 1) = (i - 1) * 2 by omega]; exact flat_key (.inr rfl) L (by omega)
          have hlt2 := pw_lt l4 (i := i - 1) (j := i) (by omega) (by omega)
          conv => whnf
          repeat (first | (refine And.intro (by omega) ?_; conv => whnf) | rw [ei])
          rw [E2, E0]
          refine ifB_f (decide_eq_false (by omega)) ?_
          conv => whnf
          rw [wsucc (j := i) (n := L.length) (by omega) (by omega)]
          exact ⟨i + 1, [], ⟨rfl, rfl, rfl⟩, (by omega : i + 1 ≤ L.length), by dsimp only; omega⟩
        · conv => whnf
          rw [wsucc (j := i) (n := L.length) (by omega) (by omega)]
          exact ⟨i + 1, [], ⟨rfl, rfl, rfl⟩, (by omega : i + 1 ≤ L.length), by dsimp only; omega⟩
    · replace h : ¬ (i : Int) < L.length := h
      conv => whnf
      repeat (refine And.intro (by omega) ?_; conv => whnf)
      rw [hdv]
      refine And.intro ⟨by omega, fun r hr => ?_⟩ ?_
      · rw [show recs L.length 2 (flat 2 L) = L from recs_flat (.inr rfl) rfl (fun q => by cases q)] at hr
        obtain ⟨p, p1, p2, -⟩ := l5 r hr
        rw [sP_U, ← p2, hgR p p1]
        exact allU_getD htu _
      conv => whnf
      rw [show recs L.length 2 (flat 2 L) = L from recs_flat (.inr rfl) rfl (fun q => by cases q), l2, l3]
      refine ifB_t (by simp) ?_
      conv => whnf
      repeat (refine And.intro (by omega) ?_; conv => whnf)
      exact congrArg (fun b => Am.T.v (Value.bool b)) (by simp)
end Go.Proofs.YtdbmbbfgcaimgaaDoor.PrT
namespace Go.Proofs.YtdbmbbfgcaimgaaDoor.PrT
open Go.RowKit Go.Proofs.YtdbmbbfgcaimgaaDoor.Am Go.Proofs.YtdbmbbfgcaimgaaDoor
set_option linter.unusedVariables false
set_option linter.unusedSimpArgs false

theorem keys_nodup {l : List R} (h : l.Pairwise fun a b => a.1 ≠ b.1) : l.Nodup := h.imp fun h e => h (congrArg Prod.fst e)
theorem same_len {l m : List R} (h1 : l.Pairwise fun a b => a.1 ≠ b.1) (h2 : m.Pairwise fun a b => a.1 ≠ b.1) (h : ∀ x, x ∈ l ↔ x ∈ m) : l.length = m.length :=
  Nat.le_antisymm (nodup_sub_len (keys_nodup h1) fun x hx => (h x).1 hx) (nodup_sub_len (keys_nodup h2) fun x hx => (h x).2 hx)
theorem laid_nzs_len {n : Nat} {l : List R} (hr : Recs sP l) (hl : l.length ≤ n) : (∀ x, x ∈ nzs (laid sP n l) ↔ x ∈ l) ∧ (nzs (laid sP n l)).length = l.length := by
  obtain ⟨g1, g2⟩ := laid_ok hr hl
  have h : ∀ x, x ∈ nzs (laid sP n l) ↔ x ∈ l := fun x => (In_nzs g1.len x).symm.trans (g2 x)
  exact ⟨h, same_len g1.recs.nd hr.nd h⟩
section
variable {n v : Nat} {t : List Int}
theorem Tb.lst_len (h : Tb n v t) (hv : v = 1 ∨ v = 2) (hn0 : 0 < n) (hn : n ≤ 1024) : (lstP v t).length = (nzs (recs n v t)).length := by
  rw [(h.list hv hn0 hn).1, sortI_len]
theorem Tb.fnd (h : Tb n v t) (hv : v = 1 ∨ v = 2) (hn0 : 0 < n) (hn : n ≤ 1024) {key : Int} (hk : key ≠ 0) :
    (fndP v t key = -1 ∧ ∀ j, j < n → kR (recs n v t) j ≠ key) ∨ ∃ p, p < n ∧ fndP v t key = p ∧ kR (recs n v t) p = key := by
  obtain ⟨hr, f2, f3⟩ := h.facts hv hn0 hn
  have e : fndP v t key = findF sP n (recs n v t) key n (sP.hm n key) := by
    unfold fndP; rw [if_pos ⟨hr, hk⟩, f2, Int.toNat_natCast]
  rw [e]
  by_cases hin : ∃ p, p < n ∧ kR (recs n v t) p = key
  · obtain ⟨p, hp, hpk⟩ := hin
    exact .inr ⟨p, hp, findF_in h.ok hp hpk hk n _ (sP.hlt n key hn0) (by rw [dist_self]; exact Nat.zero_le _) (dist_lt (sP.hlt n key hn0) hp), hpk⟩
  · exact .inl ⟨findF_out (fun j hj e => hin ⟨j, hj, e⟩) n _ (sP.hlt n key hn0), fun j hj e => hin ⟨j, hj, e⟩⟩
theorem Tb.eq_of (h : Tb n v t) (hv : v = 1 ∨ v = 2) {t' : List Int} (h' : Tb n v t') (hin : ∀ x, x ∈ nzs (recs n v t) ↔ x ∈ nzs (recs n v t')) : t = t' := by
  have := h.ok.uniq h'.ok fun x => ((In_nzs (recs_len n v t) x).trans (hin x)).trans (In_nzs (recs_len n v t') x).symm
  rw [← flat_recs hv h.len, ← flat_recs hv h'.len, this]
/-- The records of what Put makes. -/
theorem Tb.put_mem (h : Tb n v t) (hv : v = 1 ∨ v = 2) (hn0 : 0 < n) (hn : n ≤ 1024) {key val : Int} (hku : U64 key) (hk : key ≠ 0) (hvu : U64 val) (hv1 : v = 1 → val = 0) (hE : putE v t key val = 0) :
    Tb n v (putL v t key val) ∧ (∀ x, x ∈ nzs (recs n v (putL v t key val)) ↔ (x ∈ nzs (recs n v t) ∧ x.1 ≠ key) ∨ x = (key, val)) ∧ (nzs (recs n v (putL v t key val))).length = (oth (nzs (recs n v t)) key).length + 1 := by
  obtain ⟨q1, q2⟩ := h.put hv hn0 hn hku hk hvu hv1
  refine ⟨q1, ?_⟩
  rcases q2 with ⟨e, -⟩ | ⟨-, -, e1, e2⟩
  · rw [hE] at e; cases e
  · have hpr := put_recs h.ok hku hk (val := val)
    obtain ⟨g1, g2⟩ := laid_nzs_len hpr (n := n) (by simp; omega)
    rw [e2]
    refine ⟨fun x => ?_, by rw [g2]; simp⟩
    rw [g1, List.mem_append, oth_mem, List.mem_singleton]
theorem Tb.del_mem (h : Tb n v t) (hv : v = 1 ∨ v = 2) (hn0 : 0 < n) (hn : n ≤ 1024) {key : Int} (hk : key ≠ 0) (hex : ∃ r ∈ nzs (recs n v t), r.1 = key) :
    delE v t key = 0 ∧ Tb n v (delL v t key) ∧ (∀ x, x ∈ nzs (recs n v (delL v t key)) ↔ x ∈ nzs (recs n v t) ∧ x.1 ≠ key) := by
  obtain ⟨q1, q2⟩ := h.del hv hn0 hn hk
  rcases q2 with ⟨-, -, e⟩ | ⟨e0, -, e2⟩
  · exact absurd hex e
  · refine ⟨e0, q1, fun x => ?_⟩
    have hpr : Recs sP (oth (nzs (recs n v t)) key) := h.ok.recs.of_mem (fun x hx => (oth_mem.1 hx).1) (h.ok.recs.nd.sublist List.filter_sublist)
    have hl : (oth (nzs (recs n v t)) key).length ≤ n := by
      have := oth_len_le (nzs (recs n v t)) key; have h2 := nzs_len (recs n v t); rw [recs_len] at h2; omega
    rw [e2, (laid_nzs_len hpr hl).1, oth_mem]
theorem Tb.not_in (h : Tb n v t) {key : Int} (hnk : ∀ j, j < n → kR (recs n v t) j ≠ key) : ∀ x ∈ nzs (recs n v t), x.1 ≠ key := fun x hx e => by
  obtain ⟨h1, j, h2, h3⟩ := (In_nzs (recs_len n v t) x).2 hx
  exact hnk j h2 (by unfold kR; rw [h3, e])
/-- A key that is not there: put, and taken out again. -/
theorem Tb.back_new (h : Tb n v t) (hv : v = 1 ∨ v = 2) (hn0 : 0 < n) (hn : n ≤ 1024) {key val : Int} (hku : U64 key) (hk : key ≠ 0) (hvu : U64 val) (hv1 : v = 1 → val = 0) (hnk : ∀ j, j < n → kR (recs n v t) j ≠ key) :
    (putE v t key val = 11 ∧ putL v t key val = t ∧ (lstP v t).length = n) ∨
      (putE v t key val = 0 ∧ Tb n v (putL v t key val) ∧ (∃ p, p < n ∧ fndP v (putL v t key val) key = p ∧ (putL v t key val).getD (p * v) 0 = key ∧ (v = 2 → (putL v t key val).getD (p * v + 1) 0 = val)) ∧
        delE v (putL v t key val) key = 0 ∧ delL v (putL v t key val) key = t ∧ (lstP v (putL v t key val)).length = (lstP v t).length + 1) := by
  have hni := h.not_in hnk
  have hoth : oth (nzs (recs n v t)) key = nzs (recs n v t) := oth_not h.ok hnk
  obtain ⟨-, q2⟩ := h.put hv hn0 hn hku hk hvu hv1
  rcases q2 with ⟨e0, e1, e2⟩ | ⟨e0, -, -, -⟩
  · refine .inl ⟨e0, e1, ?_⟩
    have h2 := nzs_len (recs n v t)
    rw [recs_len] at h2
    rw [hoth] at e2
    rw [h.lst_len hv hn0 hn]; omega
  · obtain ⟨g1, g2, g3⟩ := h.put_mem hv hn0 hn hku hk hvu hv1 e0
    have hm : (key, val) ∈ nzs (recs n v (putL v t key val)) := (g2 _).2 (.inr rfl)
    obtain ⟨m1, p, m2, m3⟩ := (In_nzs (recs_len n v _) _).2 hm
    have hf := (g1.fnd hv hn0 hn hk).resolve_left fun q => q.2 p m2 (by unfold kR; rw [m3])
    obtain ⟨p', p1, p2, p3⟩ := hf
    have hpp : p' = p := g1.ok.nd p' p p1 m2 (by rw [p3]; exact hk) (by rw [p3]; unfold kR; rw [m3])
    subst hpp
    have hg := recs_get (w := v) (putL v t key val) p1
    rw [m3] at hg
    obtain ⟨d0, d1, d2⟩ := g1.del_mem hv hn0 hn hk ⟨_, hm, rfl⟩
    refine .inr ⟨e0, g1, ⟨p', p1, p2, (congrArg Prod.fst hg).symm, fun q => ?_⟩, d0, ?_, ?_⟩
    · have := congrArg Prod.snd hg
      rw [if_neg (by omega)] at this
      exact this.symm
    · refine d1.eq_of hv h fun x => ?_
      rw [d2, g2]
      constructor
      · rintro ⟨(⟨z, -⟩ | z), z2⟩
        · exact z
        · rw [z] at z2; exact absurd rfl z2
      · intro z; exact ⟨.inl ⟨z, hni x z⟩, hni x z⟩
    · rw [g1.lst_len hv hn0 hn, h.lst_len hv hn0 hn, g3, hoth]
/-- A key that is there: taken out, and put again; or put anew. -/
theorem Tb.back_old (h : Tb n v t) (hv : v = 1 ∨ v = 2) (hn0 : 0 < n) (hn : n ≤ 1024) {key val had : Int} (hku : U64 key) (hk : key ≠ 0) (hvu : U64 val) (hv1 : v = 1 → val = 0) {p : Nat} (hp : p < n) (hpk : kR (recs n v t) p = key) (hhad : had = (gR (recs n v t) p).2) :
    delE v t key = 0 ∧ Tb n v (delL v t key) ∧ fndP v (delL v t key) key = -1 ∧ putE v (delL v t key) key had = 0 ∧ putL v (delL v t key) key had = t ∧ putE v t key val = 0 ∧ Tb n v (putL v t key val) ∧ (lstP v (putL v t key val)).length = (lstP v t).length := by
  have hgp : gR (recs n v t) p = (key, had) := Prod.ext hpk hhad.symm
  have hm : (key, had) ∈ nzs (recs n v t) := (In_nzs (recs_len n v t) _).1 ⟨hk, p, hp, hgp⟩
  obtain ⟨d0, d1, d2⟩ := h.del_mem hv hn0 hn hk ⟨_, hm, rfl⟩
  have hdn : ∀ j, j < n → kR (recs n v (delL v t key)) j ≠ key := fun j hj e => by
    have hx := (In_nzs (recs_len n v _) _).1 (In.of (n := n) (T := recs n v (delL v t key)) hj (by rw [e]; exact hk))
    exact ((d2 _).1 hx).2 e
  have hf := (d1.fnd hv hn0 hn hk).resolve_right fun ⟨q, q1, _, q3⟩ => hdn q q1 q3
  have hhu : U64 had := (recs_u h.u _ (nzs_mem.1 hm).1).2
  have hh1 : v = 1 → had = 0 := fun q => recs_nv n v t q _ (nzs_mem.1 hm).1
  have e2 : putE v t key val = 0 := by
    obtain ⟨-, q2⟩ := h.put hv hn0 hn hku hk hvu hv1
    rcases q2 with ⟨-, -, q3⟩ | ⟨q3, -⟩
    · have := (put_set h.ok hku hk (val := val) hp hpk).1; omega
    · exact q3
  have ol : (oth (nzs (recs n v t)) key).length + 1 = (nzs (recs n v t)).length := by
    have h1 := h.put_mem hv hn0 hn hku hk hhu hh1 (by
      obtain ⟨-, q2⟩ := h.put hv hn0 hn hku hk hhu hh1
      rcases q2 with ⟨-, -, q3⟩ | ⟨q3, -⟩
      · have := (put_set h.ok hku hk (val := had) hp hpk).1; omega
      · exact q3)
    rw [← h1.2.2]
    refine same_len h1.1.ok.recs.nd h.ok.recs.nd fun x => ?_
    rw [h1.2.1]
    constructor
    · rintro (⟨z, -⟩ | z)
      · exact z
      · rw [z]; exact hm
    · intro z
      by_cases e : x.1 = key
      · right
        obtain ⟨z1, j, z2, z3⟩ := (In_nzs (recs_len n v t) x).2 z
        have := h.ok.nd j p z2 hp (by unfold kR; rw [z3]; exact z1) (by rw [hpk, ← e]; unfold kR; rw [z3])
        subst this; rw [← z3, hgp]
      · exact .inl ⟨z, e⟩
  have e3 : putE v (delL v t key) key had = 0 := by
    obtain ⟨-, q2⟩ := d1.put hv hn0 hn hku hk hhu hh1
    rcases q2 with ⟨-, -, q3⟩ | ⟨q3, -⟩
    · exfalso
      rw [oth_not d1.ok hdn] at q3
      have hl : (nzs (recs n v (delL v t key))).length ≤ (oth (nzs (recs n v t)) key).length := nodup_sub_len (keys_nodup d1.ok.recs.nd) fun x hx => oth_mem.2 ((d2 x).1 hx)
      have h2 := nzs_len (recs n v t)
      rw [recs_len] at h2; omega
    · exact q3
  obtain ⟨b1, b2, -⟩ := d1.put_mem hv hn0 hn hku hk hhu hh1 e3
  obtain ⟨c1, -, c3⟩ := h.put_mem hv hn0 hn hku hk hvu hv1 e2
  refine ⟨d0, d1, hf.1, e3, b1.eq_of hv h fun x => ?_, e2, c1, by rw [c1.lst_len hv hn0 hn, h.lst_len hv hn0 hn, c3, ol]⟩
  rw [b2]
  constructor
  · rintro (⟨z, -⟩ | z)
    · exact ((d2 x).1 z).1
    · rw [z]; exact hm
  · intro z
    by_cases e : x.1 = key
    · right
      obtain ⟨z1, j, z2, z3⟩ := (In_nzs (recs_len n v t) x).2 z
      have := h.ok.nd j p z2 hp (by unfold kR; rw [z3]; exact z1) (by rw [hpk, ← e]; unfold kR; rw [z3])
      subst this; rw [← z3, hgp]
    · exact .inl ⟨(d2 x).2 ⟨z, e⟩, e⟩
end
end Go.Proofs.YtdbmbbfgcaimgaaDoor.PrT
namespace Go.Proofs.YtdbmbbfgcaimgaaDoor.PrT
open Go.RowKit Go.Proofs.YtdbmbbfgcaimgaaDoor.Am Go.Proofs.YtdbmbbfgcaimgaaDoor
set_option linter.unusedVariables false
set_option linter.unusedSimpArgs false

attribute [local irreducible] bldE bldW putL putE delL delE lstP fndP rightB tabS keyS slN wdN ipick nzs recs
theorem ifneg1 {α : Type} {a b : α} : (if (-1 : Int) < 0 then a else b) = a := if_pos (by decide)
set_option maxHeartbeats 4000000 in
set_option maxRecDepth 100000 in
theorem back07_pure (slots width : Int) (rn : Nat) (raw : List Int) (k val : Int) (h1 : I64 slots) (h2 : I64 width) (h3 : ∀ r ∈ raw, I64 r) (h4 : I64 k) (h5 : U64 val) :
    Pure Tryd.prog glM 6 [.v (.int .i64 slots), .v (.int .i64 width), .fl [.i64] rn raw, .v (.int .i64 k), .v (.int .u64 val)] (.v (.bool true)) := by
  refine pure_wf fun hw => ?_
  obtain ⟨-, -, ⟨w1, w2⟩, -⟩ := hw
  simp only [List.length_cons, List.length_nil, Nat.zero_add, Nat.mul_one] at w1
  obtain ⟨⟨n1, n2⟩, n3⟩ := slN_f slots
  obtain ⟨v1, v2⟩ := wdN_f width
  have hT := tabS_tb v1 (n := slN slots) (by omega) (by omega) (raw.take 14)
  obtain ⟨k1, k2⟩ := keyS_facts k
  refine pure_of (C := ctxPl Tryd.prog) ctxPl_good Tryd.func6 (c := bodyOf Tryd.f6) (by rfl) (Nat.le_of_ble_eq_true (by rfl)) 4 0 [0, 1, 2, 3, 4, 10, 11, 12, 13, 14, 15, 16, 17, 18, 19, 20, 21, 22, 23, 24, 25, 26, 28, 29, 30, 31, 32, 56, 66, 183, 185] ?_
  conv => whnf
  refine And.intro ⟨h1, h2, h3⟩ ?_
  conv => whnf
  generalize slN slots = n at *
  generalize wdN width = v at *
  generalize tabS n v (raw.take 14) = t at *
  have hnv : n * v ≤ 24 ∧ 1 ≤ n * v := by rcases v1 with rfl | rfl <;> omega
  have htl := hT.len
  have htu := hT.u
  refine And.intro h4 ?_
  conv => whnf
  generalize keyS k = key at *
  obtain ⟨vv, hvv, hvu, hv1⟩ : ∃ vv : Int, IntKind.u64.wrap (val * IntKind.u64.wrap (IntKind.i64.wrap ((v : Int) - 1))) = vv ∧ U64 vv ∧ (v = 1 → vv = 0) := by
    refine ⟨_, rfl, ?_, ?_⟩
    · rw [IntKind.wrap_u64]; unfold U64; omega
    · intro q; subst q; rw [show IntKind.u64.wrap (IntKind.i64.wrap (((1 : Nat) : Int) - 1)) = 0 by decide, Int.mul_zero]; decide
  rw [hvv]
  have hll : (lstP v t).length ≤ n := by
    rw [hT.lst_len v1 (by omega) (by omega)]
    have := nzs_len (recs n v t); rwa [recs_len] at this
  have hlt : ∀ i, i < n → i * v + v ≤ n * v := fun i hi => by
    have := Nat.mul_le_mul_right v (Nat.succ_le_of_lt hi); rw [Nat.succ_mul] at this; exact this
  have hwm : ∀ i, i < n → IntKind.i64.wrap ((i : Int) * v) = ((i * v : Nat) : Int) := fun i hi => by
    have := hlt i hi
    rw [← Int.natCast_mul, wrap64 (by omega) (by omega)]
  refine And.intro ⟨by omega, htu⟩ ?_
  conv => whnf
  rcases hT.fnd v1 (by omega) (by omega) k2 with ⟨f0, hnk⟩ | ⟨p, p1, f0, hpk⟩
  · rw [f0]
    conv => whnf
    refine And.intro ⟨by omega, htu, k1⟩ ?_
    conv => whnf
    rcases hT.back_new v1 (by omega) (by omega) k1 k2 hvu hv1 hnk with ⟨b1, b2, b3⟩ | ⟨b1, b2, ⟨p, p1, p2, p3, p4⟩, b4, b5, b6⟩
    · rw [b1, b2]
      conv => whnf
      repeat (first | (refine ifB_t (by simp) ?_; conv => whnf) | (refine And.intro (by first | omega | exact ⟨by omega, htu⟩) ?_; conv => whnf))
      rw [b3, ← Int.natCast_mul, wrap64 (by omega) (by omega)]
      exact congrArg (fun b => Am.T.v (Value.bool b)) (by simp)
    · rw [b1]
      conv => whnf
      generalize putL v t key vv = a at *
      have hau := b2.u
      have hal := b2.len
      refine And.intro ⟨by omega, hau⟩ ?_
      conv => whnf
      have z : (if ((p : Nat) : Int) < 0 then (0 : Int) else (p : Int)) = (p : Int) := if_neg (by omega)
      rw [p2, z, decide_eq_true (by omega : (0 : Int) ≤ (p : Int))]
      refine And.intro ⟨by omega, hau⟩ ?_
      conv => whnf
      rw [b4, b5]
      have hpl := hlt p p1
      have hpm := hwm p p1
      have hp1 : IntKind.i64.wrap (((p * v : Nat) : Int) + 1) = ((p * v + 1 : Nat) : Int) := by rw [wrap64 (by omega) (by omega)]; omega
      have I1 : 0 + addN 0 ((p * v : Nat) : Int).toNat * (0 + 1) = p * v := by rw [addN_eq, Int.toNat_natCast]; omega
      have I2 : 0 + addN 0 ((p * v + 1 : Nat) : Int).toNat * (0 + 1) = p * v + 1 := by rw [addN_eq, Int.toNat_natCast]; omega
      rw [hpm]
      refine ifB_t (decide_eq_true (by omega)) ?_
      conv => whnf
      rw [hpm]
      repeat (refine And.intro (by omega) ?_; conv => whnf)
      rw [I1, p3]
      refine ifB_t (by simp) ?_
      conv => whnf
      refine ifB_eq (fun hv => ?_) (fun hv => ?_)
      · conv => whnf
        repeat (first | (refine ifB_t (by simp) ?_; conv => whnf) | (refine And.intro (by first | omega | exact ⟨by omega, htu⟩ | exact ⟨by omega, hau⟩) ?_; conv => whnf))
        rw [b6, wsucc (j := (lstP v t).length) (n := n + 1) (by omega) (by omega)]
        exact congrArg (fun b => Am.T.v (Value.bool b)) (by simp)
      · conv => whnf
        repeat (first | (refine And.intro (by omega) ?_; conv => whnf) | rw [hpm] | rw [hp1])
        rw [I2, p4 (by omega)]
        refine ifB_t (by simp) ?_
        conv => whnf
        repeat (first | (refine ifB_t (by simp) ?_; conv => whnf) | (refine And.intro (by first | omega | exact ⟨by omega, htu⟩ | exact ⟨by omega, hau⟩) ?_; conv => whnf))
        rw [b6, wsucc (j := (lstP v t).length) (n := n + 1) (by omega) (by omega)]
        exact congrArg (fun b => Am.T.v (Value.bool b)) (by simp)
  · have z : (if ((p : Nat) : Int) < 0 then (0 : Int) else (p : Int)) = (p : Int) := if_neg (by omega)
    have hpl := hlt p p1
    have hpm := hwm p p1
    have hp1 : IntKind.i64.wrap (((p * v : Nat) : Int) + 1) = ((p * v + 1 : Nat) : Int) := by rw [wrap64 (by omega) (by omega)]; omega
    have I1 : 0 + addN 0 ((p * v : Nat) : Int).toNat * (0 + 1) = p * v := by rw [addN_eq, Int.toNat_natCast]; omega
    have I2 : 0 + addN 0 ((p * v + 1 : Nat) : Int).toNat * (0 + 1) = p * v + 1 := by rw [addN_eq, Int.toNat_natCast]; omega
    have hk0 : t.getD (p * v) 0 = key := by rw [← hpk]; unfold kR; rw [recs_get t p1]
    obtain ⟨had, hhd⟩ : ∃ had, had = (gR (recs n v t) p).2 := ⟨_, rfl⟩
    have hh2 : v = 2 → t.getD (p * v + 1) 0 = had := fun q => by rw [hhd, recs_get t p1, if_neg (by omega)]
    have hh1 : v = 1 → had = 0 := fun q => by rw [hhd, recs_get t p1, if_pos q]
    obtain ⟨c1, c2, c3, c4, c5, c6, c7, c8⟩ := hT.back_old v1 (by omega) (by omega) k1 k2 hvu hv1 p1 hpk hhd
    have hdu := c2.u
    have hdl := c2.len
    have hcu := c7.u
    have hcl := c7.len
    rw [f0, z, decide_eq_true (by omega : (0 : Int) ≤ (p : Int))]
    conv => whnf
    rw [hpm]
    refine ifB_f (decide_eq_false (by omega)) ?_
    conv => whnf
    rw [hpm]
    repeat (refine And.intro (by omega) ?_; conv => whnf)
    rw [I1, hk0]
    refine ifB_f (by simp) ?_
    conv => whnf
    refine ifB_eq (fun hv => ?_) (fun hv => ?_)
    · conv => whnf
      repeat (first | (refine And.intro (by omega) ?_; conv => whnf) | rw [hpm] | rw [hp1])
      rw [I2, hh2 (by omega)]
      refine And.intro ⟨by omega, htu⟩ ?_
      conv => whnf
      refine And.intro ⟨by omega, hdu⟩ ?_
      conv => whnf
      rw [c3]
      refine And.intro ⟨by omega, hdu, k1⟩ ?_
      conv => whnf
      refine And.intro ⟨by omega, htu, k1⟩ ?_
      conv => whnf
      rw [c1, c4, c5, c6]
      conv => whnf
      repeat (first | (refine ifB_t (by simp) ?_; conv => whnf) | (refine And.intro (by first | omega | exact ⟨by omega, htu⟩ | exact ⟨by omega, hcu⟩) ?_; conv => whnf))
      exact congrArg (fun b => Am.T.v (Value.bool b)) (by simp [c8])
    · conv => whnf
      have hh0 := hh1 (by omega)
      rw [hh0] at c4 c5
      refine And.intro ⟨by omega, htu⟩ ?_
      conv => whnf
      refine And.intro ⟨by omega, hdu⟩ ?_
      conv => whnf
      rw [c3]
      refine And.intro ⟨by omega, hdu, k1⟩ ?_
      conv => whnf
      refine And.intro ⟨by omega, htu, k1⟩ ?_
      conv => whnf
      rw [c1, c4, c5, c6]
      conv => whnf
      repeat (first | (refine ifB_t (by simp) ?_; conv => whnf) | (refine And.intro (by first | omega | exact ⟨by omega, htu⟩ | exact ⟨by omega, hcu⟩) ?_; conv => whnf))
      exact congrArg (fun b => Am.T.v (Value.bool b)) (by simp [c8])
end Go.Proofs.YtdbmbbfgcaimgaaDoor.PrT
namespace Go.Proofs.YtdbmbbfgcaimgaaDoor.PrT
open Go.RowKit Go.Proofs.YtdbmbbfgcaimgaaDoor.Am Go.Proofs.YtdbmbbfgcaimgaaDoor
set_option linter.unusedVariables false
set_option linter.unusedSimpArgs false

def recK (v : Nat) (r : Int) : R := (keyS r, ((v : Int) - 1) * keyS r)
theorem recK_u {v : Nat} (hv : v = 1 ∨ v = 2) (r : Int) : U64 (((v : Int) - 1) * keyS r) ∧ (v = 1 → ((v : Int) - 1) * keyS r = 0) := by
  obtain ⟨⟨h1, h2⟩, -⟩ := keyS_facts r
  refine ⟨?_, fun q => by subst q; omega⟩
  rcases hv with rfl | rfl <;> (unfold U64; omega)
theorem keyS_q (o : Int) : U64 (keyS o + 1099511627776) ∧ keyS o + 1099511627776 ≠ 0 ∧ ∀ y, keyS y ≠ keyS o + 1099511627776 := by
  obtain ⟨h1, h2⟩ := ipick_bounds o (n := 20) (by omega)
  refine ⟨?_, ?_, fun y => ?_⟩
  · unfold keyS U64; split <;> omega
  · unfold keyS; split <;> omega
  · obtain ⟨g1, g2⟩ := ipick_bounds y (n := 20) (by omega)
    unfold keyS; split <;> split <;> omega
/-- A table of such records, with one more. -/
theorem Tb.more {n v : Nat} {t : List Int} (h : Tb n v t) (hv : v = 1 ∨ v = 2) (hn0 : 0 < n) (hn : n ≤ 1024) {P : Int → Prop} (hP : ∀ x, x ∈ nzs (recs n v t) ↔ ∃ y, P y ∧ x = recK v y) {c : Nat} (hc : (nzs (recs n v t)).length ≤ c) (hcn : c < n) (r : Int) :
    putE v t (keyS r) (((v : Int) - 1) * keyS r) = 0 ∧ Tb n v (putL v t (keyS r) (((v : Int) - 1) * keyS r)) ∧ (∀ x, x ∈ nzs (recs n v (putL v t (keyS r) (((v : Int) - 1) * keyS r))) ↔ ∃ y, (P y ∨ y = r) ∧ x = recK v y) ∧ (nzs (recs n v (putL v t (keyS r) (((v : Int) - 1) * keyS r)))).length ≤ c + 1 := by
  obtain ⟨k1, k2⟩ := keyS_facts r
  obtain ⟨u1, u2⟩ := recK_u hv r
  have hol := oth_len_le (nzs (recs n v t)) (keyS r)
  have hE : putE v t (keyS r) (((v : Int) - 1) * keyS r) = 0 := by
    obtain ⟨-, q2⟩ := h.put hv hn0 hn k1 k2 u1 u2
    rcases q2 with ⟨-, -, q3⟩ | ⟨q3, -⟩
    · omega
    · exact q3
  obtain ⟨g1, g2, g3⟩ := h.put_mem hv hn0 hn k1 k2 u1 u2 hE
  refine ⟨hE, g1, fun x => ?_, by omega⟩
  rw [g2, hP]
  constructor
  · rintro (⟨⟨y, y1, y2⟩, -⟩ | e)
    · exact ⟨y, .inl y1, y2⟩
    · exact ⟨r, .inr rfl, e⟩
  · rintro ⟨y, (y1 | rfl), y2⟩
    · by_cases e : x.1 = keyS r
      · right
        rw [y2] at e ⊢
        have e : keyS y = keyS r := e
        unfold recK; rw [e]
      · exact .inl ⟨⟨y, y1, y2⟩, e⟩
    · exact .inr y2
theorem more_step {v i : Nat} {f : Nat → Int} {z : R} : (∃ y, ((∃ j, j < i ∧ y = f j) ∨ y = f i) ∧ z = recK v y) ↔ ∃ y, (∃ j, j < i + 1 ∧ y = f j) ∧ z = recK v y := by
  constructor
  · rintro ⟨y, (⟨j, h1, h2⟩ | h), hz⟩
    · exact ⟨y, ⟨j, by omega, h2⟩, hz⟩
    · exact ⟨y, ⟨i, by omega, h⟩, hz⟩
  · rintro ⟨y, ⟨j, h1, h2⟩, hz⟩
    by_cases e : j = i
    · subst e; exact ⟨y, .inr h2, hz⟩
    · exact ⟨y, .inl ⟨j, by omega, h2⟩, hz⟩
/-- Turning leads to each. -/
theorem turn_on {j k m : Nat} (h : j < m) : ∃ i, i < m ∧ (i + k) % m = j := by
  have hm : 0 < m := by omega
  have hk : k % m < m := Nat.mod_lt _ hm
  refine ⟨(j + (m - k % m)) % m, Nat.mod_lt _ hm, ?_⟩
  rw [Nat.mod_add_mod]
  have e : j + (m - k % m) + k = j + m + m * (k / m) := by
    have := Nat.div_add_mod k m; omega
  rw [e, Nat.add_mul_mod_self_left, Nat.add_mod_right, Nat.mod_eq_of_lt h]
def nnN (slots : Int) : Nat := (12 + ipick slots 20).toNat
theorem nnN_f (s : Int) : (12 ≤ nnN s ∧ nnN s ≤ 31) ∧ ((nnN s : Nat) : Int) = 12 + ipick s 20 := by
  obtain ⟨h1, h2⟩ := ipick_bounds s (n := 20) (by omega)
  unfold nnN; omega
theorem nzs_none (n v : Nat) (hv : v = 1 ∨ v = 2) (hn0 : 0 < n) (hn : n ≤ 1024) : nzs (recs n v (bldW n v [])) = [] := by
  obtain ⟨-, e, h⟩ := Tb.nil (n := n) (v := v) hv hn0 hn
  rw [e, laid_recs hv ⟨fun r hr => (by cases hr), fun r hr => (by cases hr), List.Pairwise.nil⟩ (Nat.zero_le _) (fun _ r hr => (by cases hr)), laid_none]
  unfold nzs
  rw [List.filter_eq_nil_iff]
  intro r hr
  rw [(List.mem_replicate.1 hr).2]; simp
attribute [local irreducible] bldE bldW putL putE delL delE lstP fndP rightB tabS keyS nnN wdN ipick nzs recs
set_option maxHeartbeats 4000000 in
set_option maxRecDepth 100000 in
theorem one07_pure (slots width : Int) (rn : Nat) (raw : List Int) (turn : Int) (on : Nat) (other : List Int) (h1 : I64 slots) (h2 : I64 width) (h3 : ∀ r ∈ raw, I64 r) (h4 : I64 turn) (h5 : ∀ r ∈ other, I64 r) :
    Pure Tryd.prog glM 5 [.v (.int .i64 slots), .v (.int .i64 width), .fl [.i64] rn raw, .v (.int .i64 turn), .fl [.i64] on other] (.v (.bool true)) := by
  refine pure_wf fun hw => ?_
  obtain ⟨-, -, ⟨w1, w2⟩, -, ⟨w3, w4⟩, -⟩ := hw
  simp only [List.length_cons, List.length_nil, Nat.zero_add, Nat.mul_one] at w1 w3
  obtain ⟨⟨n1, n2⟩, n3⟩ := nnN_f slots
  obtain ⟨v1, v2⟩ := wdN_f width
  have e1 : IntKind.i64.wrap (12 + ipick slots 20) = nnN slots := by rw [← n3]; exact wrap64 (by omega) (by omega)
  have e2 : IntKind.i64.wrap (1 + ipick width 2) = wdN width := by rw [← v2]; exact wrap64 (by omega) (by omega)
  generalize nnN slots = n at *
  generalize wdN width = v at *
  obtain ⟨t1, t2, t3⟩ := Tb.nil (n := n) v1 (by omega) (by omega)
  have t4 := nzs_none n v v1 (by omega) (by omega)
  have hnv : n * v ≤ 62 := by rcases v1 with rfl | rfl <;> omega
  obtain ⟨m, hm, hmn, hm12⟩ : ∃ m : Nat, (if (12 : Int) < (rn : Int) then (12 : Int) else (rn : Int)) = (m : Int) ∧ m ≤ rn ∧ m ≤ 12 := ⟨min rn 12, by split <;> omega, by omega, by omega⟩
  have em : IntKind.i64.wrap ((m : Int) + 1) = ((m + 1 : Nat) : Int) := by rw [wrap64 (by omega) (by omega)]; omega
  refine pure_of (C := ctxPl Tryd.prog) ctxPl_good Tryd.func5 (c := bodyOf Tryd.f5) (by rfl) (Nat.le_of_ble_eq_true (by rfl)) 4 0 [0, 1, 2, 3, 4, 10, 11, 12, 13, 14, 15, 16, 17, 18, 19, 20, 21, 22, 23, 24, 25, 26, 27, 28, 29, 54, 64, 120, 126, 145, 147, 162] ?_
  conv => whnf
  refine And.intro ⟨h2, by omega, by omega⟩ ?_
  conv => whnf
  refine And.intro ⟨h1, by omega, by omega⟩ ?_
  conv => whnf
  rw [e1, e2, t1]
  conv => whnf
  rw [hm, em]
  refine And.intro ⟨h4, by omega, by omega⟩ ?_
  conv => whnf
  obtain ⟨q1, q2⟩ := ipick_bounds turn (n := ((m + 1 : Nat) : Int)) (by omega)
  obtain ⟨k, hk⟩ := Int.eq_ofNat_of_zero_le q1
  rw [hk]
  generalize hB : bldW n v [] = B at *
  refine TW.loopD ctxPl_good 0 (base := 0) (lv := [0, 1, 2, 3, 4, 10, 11, 12, 13, 14, 15, 16, 17, 18, 19, 20, 21, 22, 23, 24, 25, 26, 27, 28, 29, 54, 64, 120, 126, 145, 147, 162]) [14, 16, 20] [160, 184] [(160, 160), (184, 184)] (fun x : Nat × List Int × List Int => [.ow 160 1 x.2.1.length, .ow 184 1 x.2.2.length, .v (.int .i64 x.1)]) (fun x => [.fl [.u64] x.2.1, .fl [.u64] x.2.2]) (fun x => x.1 ≤ m ∧ (Tb n v x.2.1 ∧ (∀ z, z ∈ nzs (recs n v x.2.1) ↔ ∃ y, (∃ j, j < x.1 ∧ y = raw.getD j 0) ∧ z = recK v y) ∧ (nzs (recs n v x.2.1)).length ≤ x.1) ∧ (Tb n v x.2.2 ∧ (∀ z, z ∈ nzs (recs n v x.2.2) ↔ ∃ y, (∃ j, j < x.1 ∧ y = raw.getD ((j + k) % m) 0) ∧ z = recK v y) ∧ (nzs (recs n v x.2.2)).length ≤ x.1)) (fun x => m - x.1) ?_
  conv => whnf
  refine ⟨⟨(0, B, B), ⟨rfl, rfl, rfl⟩, Nat.zero_le _, ⟨t3, fun z => ?_, by dsimp only; rw [t4]; exact Nat.le_refl _⟩, ⟨t3, fun z => ?_, by dsimp only; rw [t4]; exact Nat.le_refl _⟩⟩, fun ⟨i, a, b⟩ ⟨hi, ⟨ha, haP, hac⟩, ⟨hb, hbP, hbc⟩⟩ => ?_⟩
  · dsimp only
    rw [t4]
    exact ⟨fun q => (by cases q), fun ⟨y, ⟨j, hj, _⟩, _⟩ => (by omega)⟩
  · dsimp only
    rw [t4]
    exact ⟨fun q => (by cases q), fun ⟨y, ⟨j, hj, _⟩, _⟩ => (by omega)⟩
  replace hi : i ≤ m := hi
  replace ha : Tb n v a := ha
  replace haP : ∀ z, z ∈ nzs (recs n v a) ↔ ∃ y, (∃ j, j < i ∧ y = raw.getD j 0) ∧ z = recK v y := haP
  replace hac : (nzs (recs n v a)).length ≤ i := hac
  replace hb : Tb n v b := hb
  replace hbP : ∀ z, z ∈ nzs (recs n v b) ↔ ∃ y, (∃ j, j < i ∧ y = raw.getD ((j + k) % m) 0) ∧ z = recK v y := hbP
  replace hbc : (nzs (recs n v b)).length ≤ i := hbc
  have hau := ha.u
  have hal := ha.len
  have hbu := hb.u
  have hbl := hb.len
  conv => whnf
  refine ifB_dec (fun h => ?_) (fun h => ?_)
  · replace h : (i : Int) < m := h
    have hri : I64 (raw.getD i 0) := h3 _ (by rw [List.getD_eq_getElem?_getD, List.getElem?_eq_getElem (by omega)]; exact List.getElem_mem (by omega))
    have hkm : (i + k) % m < m := Nat.mod_lt _ (by omega)
    have hrk : I64 (raw.getD ((i + k) % m) 0) := h3 _ (by rw [List.getD_eq_getElem?_getD, List.getElem?_eq_getElem (by omega)]; exact List.getElem_mem (by omega))
    have eik : IntKind.i64.wrap ((((i, a, b) : Nat × List Int × List Int).1 : Int) + (k : Int)) = ((i + k : Nat) : Int) := by rw [wrap64 (by dsimp only; omega) (by dsimp only; omega)]; dsimp only; omega
    have eim : ((i + k : Nat) : Int).tmod m = (((i + k) % m : Nat) : Int) := by rw [Int.tmod_eq_emod_of_nonneg (by omega)]; rfl
    have E0 : 0 + (((i, a, b) : Nat × List Int × List Int).1 : Int).toNat * (0 + 1) = i := by dsimp only; omega
    have E1 : 0 + (((i + k) % m : Nat) : Int).toNat * (0 + 1) = (i + k) % m := by omega
    have e3 : IntKind.i64.wrap ((v : Int) - 1) = (v : Int) - 1 := wrap64 (by omega) (by omega)
    have e4 : IntKind.u64.wrap ((v : Int) - 1) = (v : Int) - 1 := wrapU (by omega) (by omega)
    have e5 : ∀ r, IntKind.u64.wrap (((v : Int) - 1) * keyS r) = ((v : Int) - 1) * keyS r := fun r => by
      obtain ⟨⟨u1, u2⟩, -⟩ := recK_u v1 r
      exact wrapU u1 u2
    obtain ⟨p1, p2, p3, p4⟩ := ha.more v1 (by omega) (by omega) haP hac (by omega) (raw.getD i 0)
    obtain ⟨r1, r2, r3, r4⟩ := hb.more v1 (by omega) (by omega) hbP hbc (by omega) (raw.getD ((i + k) % m) 0)
    have hka := (keyS_facts (raw.getD i 0)).1
    have hkb := (keyS_facts (raw.getD ((i + k) % m) 0)).1
    conv => whnf
    repeat (refine And.intro (by first | omega | (dsimp only; omega)) ?_; conv => whnf)
    rw [E0]
    refine And.intro hri ?_
    conv => whnf
    repeat (refine And.intro (by first | omega | (dsimp only; omega)) ?_; conv => whnf)
    rw [E0]
    refine And.intro hri ?_
    conv => whnf
    rw [e3, e4, e5]
    refine And.intro ⟨by dsimp only; omega, hau, hka⟩ ?_
    conv => whnf
    rw [p1]
    rw [eik]
    repeat (first | (refine And.intro (by first | omega | (dsimp only; omega)) ?_; conv => whnf) | rw [eim])
    rw [E1]
    refine And.intro hrk ?_
    conv => whnf
    rw [eik]
    repeat (first | (refine And.intro (by first | omega | (dsimp only; omega)) ?_; conv => whnf) | rw [eim])
    rw [E1]
    refine And.intro hrk ?_
    conv => whnf
    rw [e3, e4, e5]
    refine And.intro ⟨by dsimp only; omega, hbu, hkb⟩ ?_
    conv => whnf
    rw [r1]
    conv => whnf
    have AP : ∀ z, z ∈ nzs (recs n v (putL v a (keyS (raw.getD i 0)) (((v : Int) - 1) * keyS (raw.getD i 0)))) ↔ ∃ y, (∃ j, j < i + 1 ∧ y = raw.getD j 0) ∧ z = recK v y := fun z => (p3 z).trans (more_step (f := fun j => raw.getD j 0))
    have BP : ∀ z, z ∈ nzs (recs n v (putL v b (keyS (raw.getD ((i + k) % m) 0)) (((v : Int) - 1) * keyS (raw.getD ((i + k) % m) 0)))) ↔ ∃ y, (∃ j, j < i + 1 ∧ y = raw.getD ((j + k) % m) 0) ∧ z = recK v y := fun z => (r3 z).trans (more_step (f := fun j => raw.getD ((j + k) % m) 0))
    have hend : IntKind.i64.wrap ((((i, a, b) : Nat × List Int × List Int).1 : Int) + 1) = ((i + 1 : Nat) : Int) := wsucc (j := i) (n := m) (by omega) (by omega)
    generalize putL v a (keyS (raw.getD i 0)) (((v : Int) - 1) * keyS (raw.getD i 0)) = a2 at *
    generalize putL v b (keyS (raw.getD ((i + k) % m) 0)) (((v : Int) - 1) * keyS (raw.getD ((i + k) % m) 0)) = b2 at *
    have hb2u := r2.u
    have hb2l := r2.len
    refine ifB_dec (fun ho => ?_) (fun ho => ?_)
    · conv => whnf
      rw [hend]
      exact ⟨(i + 1, a2, b2), [(336, 160), (448, 184)], ⟨rfl, rfl, rfl⟩, ⟨(by omega : i + 1 ≤ m), ⟨p2, AP, p4⟩, ⟨r2, BP, r4⟩⟩, by dsimp only; omega⟩
    · replace ho : ¬ (i : Int) ≥ on := ho
      have hro : I64 (other.getD i 0) := h5 _ (by rw [List.getD_eq_getElem?_getD, List.getElem?_eq_getElem (by omega)]; exact List.getElem_mem (by omega))
      obtain ⟨g1, g2, g3⟩ := keyS_q (other.getD i 0)
      have eq1 : IntKind.u64.wrap (keyS (other.getD i 0) + 1099511627776) = keyS (other.getD i 0) + 1099511627776 := wrapU g1.1 g1.2
      have hnk : ∀ j, j < n → kR (recs n v b2) j ≠ keyS (other.getD i 0) + 1099511627776 := fun j hj e => by
        obtain ⟨y, -, hy⟩ := (BP _).1 ((In_nzs (recs_len n v b2) _).1 (In.of hj (by rw [e]; exact g2)))
        have : kR (recs n v b2) j = keyS y := congrArg Prod.fst hy
        exact g3 y (this.symm.trans e)
      conv => whnf
      repeat (refine And.intro (by first | omega | (dsimp only; omega)) ?_; conv => whnf)
      rw [E0]
      refine And.intro hro ?_
      conv => whnf
      rw [eq1]
      generalize keyS (other.getD i 0) + 1099511627776 = q at *
      refine And.intro ⟨by omega, hb2u, g1⟩ ?_
      conv => whnf
      rcases r2.back_new v1 (by omega) (by omega) g1 g2 (val := 0) ⟨by decide, by decide⟩ (fun _ => rfl) hnk with ⟨c1, c2, c3⟩ | ⟨c1, c2, -, c4, c5, -⟩
      · rw [c1]
        conv => whnf
        rw [hend]
        exact ⟨(i + 1, a2, b2), [(336, 160), (448, 184)], ⟨rfl, rfl, rfl⟩, ⟨(by omega : i + 1 ≤ m), ⟨p2, AP, p4⟩, ⟨r2, BP, r4⟩⟩, by dsimp only; omega⟩
      · rw [c1]
        conv => whnf
        have hzu := c2.u
        have hzl := c2.len
        refine And.intro ⟨by omega, hzu⟩ ?_
        conv => whnf
        rw [c4, c5]
        conv => whnf
        refine ifB_f (by simp) ?_
        conv => whnf
        rw [hend]
        exact ⟨(i + 1, a2, b2), [(336, 160), (608, 184)], ⟨rfl, rfl, rfl⟩, ⟨(by omega : i + 1 ≤ m), ⟨p2, AP, p4⟩, ⟨r2, BP, r4⟩⟩, by dsimp only; omega⟩
  · replace h : ¬ (i : Int) < m := h
    have him : i = m := by omega
    have hab : a = b := ha.eq_of v1 hb fun z => by
      rw [haP, hbP]
      constructor
      · rintro ⟨y, ⟨j, j1, j2⟩, hz⟩
        obtain ⟨j', z1, z2⟩ := turn_on (k := k) (m := i) j1
        exact ⟨y, ⟨j', z1, by rw [← him, z2]; exact j2⟩, hz⟩
      · rintro ⟨y, ⟨j, j1, j2⟩, hz⟩
        exact ⟨y, ⟨(j + k) % m, by rw [him]; exact Nat.mod_lt _ (by omega), j2⟩, hz⟩
    have hrt := (ha.facts v1 (by omega) (by omega)).1
    subst hab
    conv => whnf
    refine ifB_t (by simp) ?_
    conv => whnf
    refine And.intro ⟨by dsimp only; omega, hau⟩ ?_
    conv => whnf
    rw [hrt]
    repeat' (first | exact trivial | exact rfl | (refine And.intro ?_ ?_) | ((conv => whnf); done) | ((conv => whnf); (first | rfl | (refine congrArg (fun b => T.v (Value.bool b)) ?_; first | rfl | exact (decide_eq_true (by omega)).symm | exact (decide_eq_false (by omega)).symm | exact decide_eq_decide.2 (by omega)) | (refine congrArg (fun b => T.v (Value.int _ b)) ?_; first | rfl | omega) | omega)) | (first | rfl | (refine congrArg (fun b => T.v (Value.bool b)) ?_; first | rfl | exact (decide_eq_true (by omega)).symm | exact (decide_eq_false (by omega)).symm | exact decide_eq_decide.2 (by omega)) | (refine congrArg (fun b => T.v (Value.int _ b)) ?_; first | rfl | omega) | omega))
end Go.Proofs.YtdbmbbfgcaimgaaDoor.PrT
