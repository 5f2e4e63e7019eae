/- Texts put together: PrP, PrQ. -/
import Derived.Test.YtdbmbbfgcaimgaaDoorProbeTellsM5
namespace Go.Proofs.YtdbmbbfgcaimgaaDoor.PrT
open Go.RowKit Go.Proofs.YtdbmbbfgcaimgaaDoor.Am Go.Proofs.YtdbmbbfgcaimgaaDoor
set_option linter.unusedVariables false
set_option linter.unusedSimpArgs false

theorem ok_one {k v : Int} (hu : U64 k) (hk : k ≠ 0) : Ok sP 1 [(k, v)] := by
  have e : ∀ j, j < 1 → kR [(k, v)] j = k := by
    intro j hj
    obtain rfl : j = 0 := by omega
    rfl
  refine ⟨rfl, fun j hj h => absurd ((e j hj).symm.trans h) hk, fun j hj _ => by rw [e j hj, sP_U]; exact hu, fun i j hi hj _ _ => ?_, fun j hj _ s hs hd => ?_⟩
  · omega
  · obtain rfl : s = j := by omega
    exact absurd hd (Nat.lt_irrefl _)
theorem laid_none (n : Nat) : laid sP n [] = List.replicate n (0, 0) := rfl
theorem laid_one {k v : Int} (hu : U64 k) (hk : k ≠ 0) : laid sP 1 [(k, v)] = [(k, v)] := by
  refine laid_is ⟨fun r hr => ?_, fun r hr => ?_, by simp⟩ (Nat.le_refl _) (ok_one hu hk) fun x => ?_
  · rw [List.mem_singleton.1 hr, sP_U]; exact hu
  · rw [List.mem_singleton.1 hr]; exact hk
  · rw [List.mem_singleton]
    constructor
    · rintro ⟨h1, j, h2, h3⟩
      obtain rfl : j = 0 := by omega
      exact h3.symm
    · rintro rfl; exact ⟨hk, 0, by omega, rfl⟩
theorem aw_u5 : U64 5 := ⟨by decide, by decide⟩
theorem aw_build : bldW 1 2 [] = [0, 0] ∧ bldE 1 2 [] = 0 := by
  obtain ⟨h1, h2, -⟩ := Tb.nil (n := 1) (v := 2) (.inr rfl) (by omega) (by omega)
  exact ⟨h2.trans (by rw [laid_none]; rfl), h1⟩
theorem aw_tb0 : Tb 1 2 [0, 0] := by
  obtain ⟨h1, h2, h3⟩ := Tb.nil (n := 1) (v := 2) (.inr rfl) (by omega) (by omega)
  have := aw_build.1
  rw [show bldW ((1 : Nat) : Int) ((2 : Nat) : Int) [] = [0, 0] from this] at h3
  exact h3
theorem aw_put : putL 2 [0, 0] 5 9 = [5, 9] ∧ putE 2 [0, 0] 5 9 = 0 := by
  obtain ⟨-, h⟩ := aw_tb0.put (.inr rfl) (by omega) (by omega) aw_u5 (by decide) (val := 9) ⟨by decide, by decide⟩ (fun q => by cases q)
  have e : oth (nzs (recs 1 2 [0, 0])) 5 = [] := rfl
  rw [e] at h
  rcases h with ⟨-, -, h⟩ | ⟨h1, h2, -⟩
  · exact absurd h (by decide)
  · refine ⟨h2.trans ?_, h1⟩
    rw [List.nil_append, laid_one aw_u5 (by decide)]; rfl
theorem aw_tb1 : Tb 1 2 [5, 9] := by
  have h := (aw_tb0.put (.inr rfl) (by omega) (by omega) aw_u5 (by decide) (val := 9) ⟨by decide, by decide⟩ (fun q => by cases q)).1
  rw [show putL ((2 : Nat) : Int) [0, 0] 5 9 = [5, 9] from aw_put.1] at h
  exact h
theorem aw_right : rightB 2 [5, 9] = true := (aw_tb1.facts (.inr rfl) (by omega) (by omega)).1
theorem aw_find : fndP 2 [5, 9] 5 = 0 := by
  obtain ⟨h1, h2, -⟩ := aw_tb1.facts (.inr rfl) (by omega) (by omega)
  unfold fndP
  rw [if_pos ⟨h1, by decide⟩, show shN 2 [5, 9] = 1 from h2]
  exact findF_in (key := 5) aw_tb1.ok (p := 0) (by omega) rfl (by decide) 1 _ (sP.hlt 1 5 (by omega)) (by rw [dist_self]; exact Nat.zero_le _) (dist_lt (sP.hlt 1 5 (by omega)) (by omega))
theorem aw_full : putE 2 [5, 9] 6 1 = 11 := by
  obtain ⟨-, h⟩ := aw_tb1.put (.inr rfl) (by omega) (by omega) (key := 6) (val := 1) ⟨by decide, by decide⟩ (by decide) ⟨by decide, by decide⟩ (fun q => by cases q)
  have e : oth (nzs (recs 1 2 [5, 9])) 6 = [(5, 9)] := rfl
  rw [e] at h
  rcases h with ⟨h, -⟩ | ⟨-, -, h, -⟩
  · exact h
  · exact absurd h (by decide)
theorem aw_del : delL 2 [5, 9] 5 = [0, 0] ∧ delE 2 [5, 9] 5 = 0 := by
  obtain ⟨g, h⟩ := aw_tb1.del (.inr rfl) (by omega) (by omega) (key := 5) (by decide)
  have e : oth (nzs (recs 1 2 [5, 9])) 5 = [] := rfl
  rcases h with ⟨-, -, h⟩ | ⟨h1, -, h2⟩
  · exact absurd ⟨(5, 9), by decide, rfl⟩ h
  · rw [e, laid_none] at h2
    have := flat_recs (w := 2) (.inr rfl) g.len
    rw [h2] at this
    exact ⟨this.symm, h1⟩
theorem aw_none : delE 2 [0, 0] 5 = 12 := by
  obtain ⟨-, h⟩ := aw_tb0.del (.inr rfl) (by omega) (by omega) (key := 5) (by decide)
  rcases h with ⟨h, -⟩ | ⟨-, ⟨r, h, -⟩, -⟩
  · exact h
  · exact absurd h (by rw [show nzs (recs 1 2 [0, 0]) = [] from rfl]; simp)
theorem aw_list : lstP 2 [5, 9] = [(5, 9)] := by
  obtain ⟨h1, h2, -⟩ := aw_tb1.facts (.inr rfl) (by omega) (by omega)
  unfold lstP
  rw [if_pos (show rightB 2 [5, 9] = true from h1), show shN 2 [5, 9] = 1 from h2]; rfl
theorem aw_bad : bldE 1 3 [] = 1 := by unfold bldE; rw [if_pos (by omega)]
theorem aw_not : rightB 3 [5, 9] = false := right_not fun q => by rcases q.1.1 with h | h <;> omega

noncomputable def ctxAw (P : Program) : Ctx := ctx P glM [eBuild, ePut, eFindP, eDel, eList, eRight, eSame, eRRecs] [] (noEq P) [] (fun _ h => by cases h)
theorem ctxAw_good : (ctxAw Tryd.prog).good := ctx_good (by kernel_rfl) (AllOk.mem ⟨eBuild_ok, ePut_ok, eFindP_ok, eDel_ok, eList_ok, eRight_ok, entry_lift eSame_ok, entry_lift eRRecs_ok, trivial⟩) glM_two
attribute [local irreducible] bldE bldW putL putE delL delE lstP fndP rightB
theorem allU_pair {a b : Int} (ha : U64 a) (hb : U64 b) : AllU [a, b] := by
  intro x hx
  rcases List.mem_cons.1 hx with rfl | hx
  · exact ha
  · rw [List.mem_singleton.1 hx]; exact hb
set_option maxHeartbeats 2000000 in
set_option maxRecDepth 100000 in
theorem awake_pure : Pure Tryd.prog glM 8 [] (.v (.bool true)) := by
  have u0 : AllU [0, 0] := aw_tb0.u
  have u1 : AllU [5, 9] := aw_tb1.u
  refine pure_of (C := ctxAw Tryd.prog) ctxAw_good Tryd.func8 (c := bodyOf Tryd.f8) (by rfl) (Nat.le_of_ble_eq_true (by rfl)) 4 0 [0, 1, 2, 3, 4, 5, 6, 8, 9, 10, 12, 13, 15] ?_
  conv => whnf
  rw [aw_build.1, aw_build.2]
  conv => whnf
  refine And.intro ⟨by decide, u0, aw_u5⟩ ?_
  conv => whnf
  rw [aw_put.1, aw_put.2]
  have c1 : [(5 : Int), 9].length ≤ 1000000 ∧ AllU [(5 : Int), 9] := ⟨by decide, u1⟩
  refine And.intro c1 ?_
  conv => whnf
  rw [aw_find]
  refine And.intro ⟨c1.1, u1, by decide, by decide⟩ ?_
  conv => whnf
  rw [aw_full]
  refine And.intro c1 ?_
  conv => whnf
  rw [aw_del.1, aw_del.2]
  refine And.intro ⟨(by decide : [(0 : Int), 0].length ≤ 1000000), u0⟩ ?_
  conv => whnf
  rw [aw_none]
  refine And.intro c1 ?_
  conv => whnf
  rw [aw_list, aw_bad]
  conv => whnf
  refine And.intro c1 ?_
  conv => whnf
  rw [aw_right]
  conv => whnf
  refine And.intro c1 ?_
  conv => whnf
  rw [aw_not]
  repeat' (first | exact trivial | exact rfl | (refine And.intro ?_ ?_) | ((conv => whnf); done) | ((conv => whnf); (first | rfl | (refine congrArg (fun b => T.v (Value.bool b)) ?_; first | rfl | exact (decide_eq_true (by omega)).symm | exact (decide_eq_false (by omega)).symm | exact decide_eq_decide.2 (by omega)) | (refine congrArg (fun b => T.v (Value.int _ b)) ?_; first | rfl | omega) | omega)) | (first | rfl | (refine congrArg (fun b => T.v (Value.bool b)) ?_; first | rfl | exact (decide_eq_true (by omega)).symm | exact (decide_eq_false (by omega)).symm | exact decide_eq_decide.2 (by omega)) | (refine congrArg (fun b => T.v (Value.int _ b)) ?_; first | rfl | omega) | omega))

noncomputable def eAwk : Entry := ⟨8, 4, fun l => match l with | [] => some (none, .v (.bool true), []) | _ => none⟩
theorem eAwk_ok : eAwk.ok Tryd.prog glM := ⟨Am.enters_of Tryd.func8 (by kernel_rfl) (by kernel_rfl), by
  intro args c t bs h hc
  simp only [eAwk] at h
  split at h <;> cases h
  exact awake_pure⟩
end Go.Proofs.YtdbmbbfgcaimgaaDoor.PrT
namespace Go.Proofs.YtdbmbbfgcaimgaaDoor.PrT
open Go.RowKit Go.Proofs.YtdbmbbfgcaimgaaDoor.Am Go.Proofs.YtdbmbbfgcaimgaaDoor
set_option linter.unusedVariables false
set_option linter.unusedSimpArgs false

noncomputable def ctxPl (P : Program) : Ctx := ctx P glM [eAwk, eTable, eKey07, ePick07, eRight, eRRight, eList, eRList, eRRecs, eFindP, eRFind, ePut, eRPut, eDel, eRDel, eSame, eBuild, eRBuild] [] (noEq P) [] (fun _ h => by cases h)
theorem ctxPl_good : (ctxPl Tryd.prog).good := ctx_good (by kernel_rfl) (AllOk.mem ⟨eAwk_ok, entry_lift eTable_ok, entry_lift eKey07_ok, entry_lift ePick07_ok, eRight_ok, entry_lift eRRight_ok, eList_ok, entry_lift eRList_ok, entry_lift eRRecs_ok, eFindP_ok, entry_lift eRFind_ok, ePut_ok, entry_lift eRPut_ok, eDel_ok, entry_lift eRDel_ok, entry_lift eSame_ok, eBuild_ok, entry_lift eRBuild_ok, trivial⟩) glM_two
attribute [local irreducible] bldE bldW putL putE delL delE lstP fndP rightB tabS keyS slN wdN ipick
theorem wr01 : IntKind.i64.wrap ((0 : Int) + 1) = 1 := by decide
theorem wr12 : IntKind.i64.wrap ((1 : Int) + 1) = 2 := by decide
theorem wr23 : IntKind.i64.wrap ((2 : Int) + 1) = 3 := by decide
theorem allU_take {xs : List Int} (h : AllU xs) (n : Nat) : AllU (xs.take n) := fun x hx => h x (List.mem_of_mem_take hx)
set_option maxHeartbeats 4000000 in
set_option maxRecDepth 100000 in
theorem tells07_pure (slots width : Int) (rn : Nat) (raw : List Int) (an : Nat) (any : List Int) (odd key val k : Int) (h1 : I64 slots) (h2 : I64 width) (h3 : ∀ r ∈ raw, I64 r) (h4 : AllU any) (h5 : I64 odd) (h6 : U64 key) (h7 : U64 val) (h8 : I64 k) :
    Pure Tryd.prog glM 3 [.v (.int .i64 slots), .v (.int .i64 width), .fl [.i64] rn raw, .fl [.u64] an any, .v (.int .i64 odd), .v (.int .u64 key), .v (.int .u64 val), .v (.int .i64 k)] (.v (.bool true)) := by
  refine pure_wf fun hw => ?_
  obtain ⟨-, -, ⟨w1, w2⟩, ⟨w3, w4⟩, -⟩ := hw
  simp only [List.length_cons, List.length_nil, Nat.zero_add, Nat.mul_one] at w1 w3
  obtain ⟨⟨n1, n2⟩, n3⟩ := slN_f slots
  obtain ⟨v1, v2⟩ := wdN_f width
  have hT := tabS_tb v1 (n := slN slots) (by omega) (by omega) (raw.take 14)
  obtain ⟨k1, k2⟩ := keyS_facts k
  refine pure_of (C := ctxPl Tryd.prog) ctxPl_good Tryd.func3 (c := bodyOf Tryd.f3) (by rfl) (Nat.le_of_ble_eq_true (by rfl)) 4 0 [0, 1, 2, 3, 4, 5, 6, 7, 16, 17, 18, 19, 20, 21, 23, 25, 27, 28, 29, 30, 31, 32, 33, 34, 35, 36, 37, 38, 39, 57, 70, 71, 72, 73, 80, 81, 82, 83, 102, 113, 114, 115, 116, 200] ?_
  conv => whnf
  refine And.intro ⟨h1, h2, h3⟩ ?_
  conv => whnf
  generalize slN slots = n at *
  generalize wdN width = v at *
  generalize tabS n v (raw.take 14) = t at *
  have hnv : n * v ≤ 24 ∧ 1 ≤ n * v := by rcases v1 with rfl | rfl <;> omega
  have htl := hT.len
  have htu := hT.u
  have hZ : AllU [key, val, keyS k, 0, keyS k, val] := by
    intro x hx
    simp only [List.mem_cons, List.not_mem_nil, or_false] at hx
    rcases hx with rfl | rfl | rfl | rfl | rfl | rfl
    · exact h6
    · exact h7
    · exact k1
    · exact ⟨by decide, by decide⟩
    · exact k1
    · exact h7
  obtain ⟨c, hc, hcn, hc60⟩ : ∃ c : Nat, (if (60 : Int) < (an : Int) then (60 : Int) else (an : Int)) = (c : Int) ∧ c ≤ an ∧ c ≤ 60 := ⟨min an 60, by split <;> omega, by omega, by omega⟩
  have hx : cutN (0 + 1) none (some (c : Int)) any = any.take c := rfl
  have hxl : cutL an none (some (c : Int)) = c := rfl
  have hxu := allU_take h4 c
  have hxn : (any.take c).length = c := by rw [List.length_take]; omega
  rw [hc, hx, hxl]
  generalize any.take c = xs at *
  refine And.intro (by omega) ?_
  conv => whnf
  refine And.intro (show n * v * 8 ≤ 140737488355328 by omega) ?_
  conv => whnf
  refine ifB_dec (fun hc0 => ?_) (fun hc0 => ?_)
  · conv => whnf
    refine And.intro ⟨h5, by omega, by omega⟩ ?_
    conv => whnf
    have hib := ipick_bounds odd (n := ((n * v : Nat) : Int)) (by omega)
    repeat (refine And.intro (by first | omega | (constructor <;> omega)) ?_; conv => whnf)
    have htu2 : AllU (t.set (0 + addN 0 (ipick odd ((n * v : Nat) : Int)).toNat * (0 + 1) + 0) (xs.getD (0 + Int.toNat 0 * (0 + 1)) 0)) := allU_set htu _ (allU_getD hxu _)
    generalize t.set (0 + addN 0 (ipick odd ((n * v : Nat) : Int)).toNat * (0 + 1) + 0) (xs.getD (0 + Int.toNat 0 * (0 + 1)) 0) = tu at *
    refine TW.roundsV ctxPl_good 0 (base := 0) (lv := [0, 1, 2, 3, 4, 5, 6, 7, 16, 17, 18, 19, 20, 21, 23, 25, 27, 28, 29, 30, 31, 32, 33, 34, 35, 36, 37, 38, 39, 57, 70, 71, 72, 73, 80, 81, 82, 83, 102, 113, 114, 115, 116, 200]) 4 ?_
    conv => whnf
    repeat (refine And.intro (by first | omega | (constructor <;> omega)) ?_; conv => whnf)
    refine TW.loopD ctxPl_good 0 (base := 0) (lv := [0, 1, 2, 3, 4, 5, 6, 7, 16, 17, 18, 19, 20, 21, 23, 25, 27, 28, 29, 30, 31, 32, 33, 34, 35, 36, 37, 38, 39, 57, 70, 71, 72, 73, 80, 81, 82, 83, 102, 113, 114, 115, 116, 200]) [82] [] [] (fun j : Nat => [.v (.int .i64 j)]) (fun j => []) (fun j => j ≤ 3) (fun j => 3 - j) ?_
    conv => whnf
    refine ⟨⟨0, ⟨rfl, rfl, rfl⟩, by omega⟩, fun j hj => ?_⟩
    conv => whnf
    refine ifB_dec (fun hj3 => ?_) (fun hj3 => ?_)
    · conv => whnf
      repeat (refine And.intro (by first | omega | (constructor <;> omega)) ?_; conv => whnf)
      generalize ([(v : Int), odd, IntKind.i64.wrap (3 - (v : Int))]).getD (0 + addN 0 (j : Int).toNat * (0 + 1)) 0 = W
      repeat (first | (refine ifB_f (by simp) ?_; conv => whnf) | (refine And.intro (by first | omega | exact ⟨by omega, by assumption⟩ | assumption) ?_; conv => whnf))
      refine TW.loopD ctxPl_good 0 (base := 0) (lv := [0, 1, 2, 3, 4, 5, 6, 7, 16, 17, 18, 19, 20, 21, 23, 25, 27, 28, 29, 30, 31, 32, 33, 34, 35, 36, 37, 38, 39, 57, 70, 71, 72, 73, 80, 81, 82, 83, 102, 113, 114, 115, 116, 200]) [115] [] [] (fun i : Nat => [.v (.int .i64 i)]) (fun i => []) (fun i => i ≤ 3) (fun i => 3 - i) ?_
      conv => whnf
      refine ⟨⟨0, ⟨rfl, rfl, rfl⟩, by omega⟩, fun i hi => ?_⟩
      conv => whnf
      refine ifB_dec (fun hi3 => ?_) (fun hi3 => ?_)
      · conv => whnf
        repeat (refine And.intro (by omega) ?_; conv => whnf)
        have z0 := allU_getD hZ (0 + addN 0 (i : Int).toNat * (1 + 1) + 0)
        have z1 := allU_getD hZ (0 + addN 0 (i : Int).toNat * (1 + 1) + (0 + 1))
        generalize ([key, val, keyS k, 0, keyS k, val]).getD (0 + addN 0 (i : Int).toNat * (1 + 1) + 0) 0 = Z0 at *
        generalize ([key, val, keyS k, 0, keyS k, val]).getD (0 + addN 0 (i : Int).toNat * (1 + 1) + (0 + 1)) 0 = Z1 at *
        repeat (first | (refine And.intro (by first | omega | exact ⟨by omega, by assumption⟩ | exact ⟨by omega, by assumption, z0⟩) ?_; conv => whnf) | (refine ifB_f (by simp) ?_; conv => whnf))
        rw [wsucc (j := i) (n := 3) (by omega) (by omega)]
        exact ⟨i + 1, [], ⟨rfl, rfl, rfl⟩, (by omega : i + 1 ≤ 3), by dsimp only; omega⟩
      · conv => whnf
        rw [wsucc (j := j) (n := 3) (by omega) (by omega)]
        exact ⟨j + 1, [], ⟨rfl, rfl, rfl⟩, (by omega : j + 1 ≤ 3), by dsimp only; omega⟩
    conv => whnf
    refine ⟨⟨[0, 1, 2, 3, 4, 5, 6, 7, 16, 17, 18, 19, 20, 21, 70, 71, 72], [(280, 280), (216, 216), (180, 180)], []⟩, rfl, ?_⟩
    first | rw [wr01] | rw [wr12] | rw [wr23]
    conv => whnf
    repeat (refine And.intro (by first | omega | (constructor <;> omega)) ?_; conv => whnf)
    refine TW.loopD ctxPl_good 0 (base := 0) (lv := [0, 1, 2, 3, 4, 5, 6, 7, 16, 17, 18, 19, 20, 21, 23, 25, 27, 28, 29, 30, 31, 32, 33, 34, 35, 36, 37, 38, 39, 57, 70, 71, 72, 73, 80, 81, 82, 83, 102, 113, 114, 115, 116, 200]) [82] [] [] (fun j : Nat => [.v (.int .i64 j)]) (fun j => []) (fun j => j ≤ 3) (fun j => 3 - j) ?_
    conv => whnf
    refine ⟨⟨0, ⟨rfl, rfl, rfl⟩, by omega⟩, fun j hj => ?_⟩
    conv => whnf
    refine ifB_dec (fun hj3 => ?_) (fun hj3 => ?_)
    · conv => whnf
      repeat (refine And.intro (by first | omega | (constructor <;> omega)) ?_; conv => whnf)
      generalize ([(v : Int), odd, IntKind.i64.wrap (3 - (v : Int))]).getD (0 + addN 0 (j : Int).toNat * (0 + 1)) 0 = W
      repeat (first | (refine ifB_f (by simp) ?_; conv => whnf) | (refine And.intro (by first | omega | exact ⟨by omega, by assumption⟩ | assumption) ?_; conv => whnf))
      refine TW.loopD ctxPl_good 0 (base := 0) (lv := [0, 1, 2, 3, 4, 5, 6, 7, 16, 17, 18, 19, 20, 21, 23, 25, 27, 28, 29, 30, 31, 32, 33, 34, 35, 36, 37, 38, 39, 57, 70, 71, 72, 73, 80, 81, 82, 83, 102, 113, 114, 115, 116, 200]) [115] [] [] (fun i : Nat => [.v (.int .i64 i)]) (fun i => []) (fun i => i ≤ 3) (fun i => 3 - i) ?_
      conv => whnf
      refine ⟨⟨0, ⟨rfl, rfl, rfl⟩, by omega⟩, fun i hi => ?_⟩
      conv => whnf
      refine ifB_dec (fun hi3 => ?_) (fun hi3 => ?_)
      · conv => whnf
        repeat (refine And.intro (by omega) ?_; conv => whnf)
        have z0 := allU_getD hZ (0 + addN 0 (i : Int).toNat * (1 + 1) + 0)
        have z1 := allU_getD hZ (0 + addN 0 (i : Int).toNat * (1 + 1) + (0 + 1))
        generalize ([key, val, keyS k, 0, keyS k, val]).getD (0 + addN 0 (i : Int).toNat * (1 + 1) + 0) 0 = Z0 at *
        generalize ([key, val, keyS k, 0, keyS k, val]).getD (0 + addN 0 (i : Int).toNat * (1 + 1) + (0 + 1)) 0 = Z1 at *
        repeat (first | (refine And.intro (by first | omega | exact ⟨by omega, by assumption⟩ | exact ⟨by omega, by assumption, z0⟩) ?_; conv => whnf) | (refine ifB_f (by simp) ?_; conv => whnf))
        rw [wsucc (j := i) (n := 3) (by omega) (by omega)]
        exact ⟨i + 1, [], ⟨rfl, rfl, rfl⟩, (by omega : i + 1 ≤ 3), by dsimp only; omega⟩
      · conv => whnf
        rw [wsucc (j := j) (n := 3) (by omega) (by omega)]
        exact ⟨j + 1, [], ⟨rfl, rfl, rfl⟩, (by omega : j + 1 ≤ 3), by dsimp only; omega⟩
    conv => whnf
    refine ⟨⟨[0, 1, 2, 3, 4, 5, 6, 7, 16, 17, 18, 19, 20, 21, 70, 71, 72], [(280, 280), (216, 216), (180, 180)], []⟩, rfl, ?_⟩
    first | rw [wr01] | rw [wr12] | rw [wr23]
    conv => whnf
    repeat (refine And.intro (by first | omega | (constructor <;> omega)) ?_; conv => whnf)
    refine TW.loopD ctxPl_good 0 (base := 0) (lv := [0, 1, 2, 3, 4, 5, 6, 7, 16, 17, 18, 19, 20, 21, 23, 25, 27, 28, 29, 30, 31, 32, 33, 34, 35, 36, 37, 38, 39, 57, 70, 71, 72, 73, 80, 81, 82, 83, 102, 113, 114, 115, 116, 200]) [82] [] [] (fun j : Nat => [.v (.int .i64 j)]) (fun j => []) (fun j => j ≤ 3) (fun j => 3 - j) ?_
    conv => whnf
    refine ⟨⟨0, ⟨rfl, rfl, rfl⟩, by omega⟩, fun j hj => ?_⟩
    conv => whnf
    refine ifB_dec (fun hj3 => ?_) (fun hj3 => ?_)
    · conv => whnf
      repeat (refine And.intro (by first | omega | (constructor <;> omega)) ?_; conv => whnf)
      generalize ([(v : Int), odd, IntKind.i64.wrap (3 - (v : Int))]).getD (0 + addN 0 (j : Int).toNat * (0 + 1)) 0 = W
      repeat (first | (refine ifB_f (by simp) ?_; conv => whnf) | (refine And.intro (by first | omega | exact ⟨by omega, by assumption⟩ | assumption) ?_; conv => whnf))
      refine TW.loopD ctxPl_good 0 (base := 0) (lv := [0, 1, 2, 3, 4, 5, 6, 7, 16, 17, 18, 19, 20, 21, 23, 25, 27, 28, 29, 30, 31, 32, 33, 34, 35, 36, 37, 38, 39, 57, 70, 71, 72, 73, 80, 81, 82, 83, 102, 113, 114, 115, 116, 200]) [115] [] [] (fun i : Nat => [.v (.int .i64 i)]) (fun i => []) (fun i => i ≤ 3) (fun i => 3 - i) ?_
      conv => whnf
      refine ⟨⟨0, ⟨rfl, rfl, rfl⟩, by omega⟩, fun i hi => ?_⟩
      conv => whnf
      refine ifB_dec (fun hi3 => ?_) (fun hi3 => ?_)
      · conv => whnf
        repeat (refine And.intro (by omega) ?_; conv => whnf)
        have z0 := allU_getD hZ (0 + addN 0 (i : Int).toNat * (1 + 1) + 0)
        have z1 := allU_getD hZ (0 + addN 0 (i : Int).toNat * (1 + 1) + (0 + 1))
        generalize ([key, val, keyS k, 0, keyS k, val]).getD (0 + addN 0 (i : Int).toNat * (1 + 1) + 0) 0 = Z0 at *
        generalize ([key, val, keyS k, 0, keyS k, val]).getD (0 + addN 0 (i : Int).toNat * (1 + 1) + (0 + 1)) 0 = Z1 at *
        repeat (first | (refine And.intro (by first | omega | exact ⟨by omega, by assumption⟩ | exact ⟨by omega, by assumption, z0⟩) ?_; conv => whnf) | (refine ifB_f (by simp) ?_; conv => whnf))
        rw [wsucc (j := i) (n := 3) (by omega) (by omega)]
        exact ⟨i + 1, [], ⟨rfl, rfl, rfl⟩, (by omega : i + 1 ≤ 3), by dsimp only; omega⟩
      · conv => whnf
        rw [wsucc (j := j) (n := 3) (by omega) (by omega)]
        exact ⟨j + 1, [], ⟨rfl, rfl, rfl⟩, (by omega : j + 1 ≤ 3), by dsimp only; omega⟩
    conv => whnf
    refine ⟨⟨[0, 1, 2, 3, 4, 5, 6, 7, 16, 17, 18, 19, 20, 21, 70, 71, 72], [(280, 280), (216, 216), (180, 180)], []⟩, rfl, ?_⟩
    first | rw [wr01] | rw [wr12] | rw [wr23]
    conv => whnf
    repeat' (first | exact trivial | exact rfl | (refine And.intro ?_ ?_) | ((conv => whnf); done) | ((conv => whnf); (first | rfl | (refine congrArg (fun b => T.v (Value.bool b)) ?_; first | rfl | exact (decide_eq_true (by omega)).symm | exact (decide_eq_false (by omega)).symm | exact decide_eq_decide.2 (by omega)) | (refine congrArg (fun b => T.v (Value.int _ b)) ?_; first | rfl | omega) | omega)) | (first | rfl | (refine congrArg (fun b => T.v (Value.bool b)) ?_; first | rfl | exact (decide_eq_true (by omega)).symm | exact (decide_eq_false (by omega)).symm | exact decide_eq_decide.2 (by omega)) | (refine congrArg (fun b => T.v (Value.int _ b)) ?_; first | rfl | omega) | omega))
  · conv => whnf
    refine TW.roundsV ctxPl_good 0 (base := 0) (lv := [0, 1, 2, 3, 4, 5, 6, 7, 16, 17, 18, 19, 20, 21, 23, 25, 27, 28, 29, 30, 31, 32, 33, 34, 35, 36, 37, 38, 39, 57, 70, 71, 72, 73, 80, 81, 82, 83, 102, 113, 114, 115, 116, 200]) 4 ?_
    conv => whnf
    repeat (refine And.intro (by first | omega | (constructor <;> omega)) ?_; conv => whnf)
    refine TW.loopD ctxPl_good 0 (base := 0) (lv := [0, 1, 2, 3, 4, 5, 6, 7, 16, 17, 18, 19, 20, 21, 23, 25, 27, 28, 29, 30, 31, 32, 33, 34, 35, 36, 37, 38, 39, 57, 70, 71, 72, 73, 80, 81, 82, 83, 102, 113, 114, 115, 116, 200]) [82] [] [] (fun j : Nat => [.v (.int .i64 j)]) (fun j => []) (fun j => j ≤ 3) (fun j => 3 - j) ?_
    conv => whnf
    refine ⟨⟨0, ⟨rfl, rfl, rfl⟩, by omega⟩, fun j hj => ?_⟩
    conv => whnf
    refine ifB_dec (fun hj3 => ?_) (fun hj3 => ?_)
    · conv => whnf
      repeat (refine And.intro (by first | omega | (constructor <;> omega)) ?_; conv => whnf)
      generalize ([(v : Int), odd, IntKind.i64.wrap (3 - (v : Int))]).getD (0 + addN 0 (j : Int).toNat * (0 + 1)) 0 = W
      repeat (first | (refine ifB_f (by simp) ?_; conv => whnf) | (refine And.intro (by first | omega | exact ⟨by omega, by assumption⟩ | assumption) ?_; conv => whnf))
      refine TW.loopD ctxPl_good 0 (base := 0) (lv := [0, 1, 2, 3, 4, 5, 6, 7, 16, 17, 18, 19, 20, 21, 23, 25, 27, 28, 29, 30, 31, 32, 33, 34, 35, 36, 37, 38, 39, 57, 70, 71, 72, 73, 80, 81, 82, 83, 102, 113, 114, 115, 116, 200]) [115] [] [] (fun i : Nat => [.v (.int .i64 i)]) (fun i => []) (fun i => i ≤ 3) (fun i => 3 - i) ?_
      conv => whnf
      refine ⟨⟨0, ⟨rfl, rfl, rfl⟩, by omega⟩, fun i hi => ?_⟩
      conv => whnf
      refine ifB_dec (fun hi3 => ?_) (fun hi3 => ?_)
      · conv => whnf
        repeat (refine And.intro (by omega) ?_; conv => whnf)
        have z0 := allU_getD hZ (0 + addN 0 (i : Int).toNat * (1 + 1) + 0)
        have z1 := allU_getD hZ (0 + addN 0 (i : Int).toNat * (1 + 1) + (0 + 1))
        generalize ([key, val, keyS k, 0, keyS k, val]).getD (0 + addN 0 (i : Int).toNat * (1 + 1) + 0) 0 = Z0 at *
        generalize ([key, val, keyS k, 0, keyS k, val]).getD (0 + addN 0 (i : Int).toNat * (1 + 1) + (0 + 1)) 0 = Z1 at *
        repeat (first | (refine And.intro (by first | omega | exact ⟨by omega, by assumption⟩ | exact ⟨by omega, by assumption, z0⟩) ?_; conv => whnf) | (refine ifB_f (by simp) ?_; conv => whnf))
        rw [wsucc (j := i) (n := 3) (by omega) (by omega)]
        exact ⟨i + 1, [], ⟨rfl, rfl, rfl⟩, (by omega : i + 1 ≤ 3), by dsimp only; omega⟩
      · conv => whnf
        rw [wsucc (j := j) (n := 3) (by omega) (by omega)]
        exact ⟨j + 1, [], ⟨rfl, rfl, rfl⟩, (by omega : j + 1 ≤ 3), by dsimp only; omega⟩
    conv => whnf
    refine ⟨⟨[0, 1, 2, 3, 4, 5, 6, 7, 16, 17, 18, 19, 20, 21, 70, 71, 72], [(280, 280), (216, 216), (180, 180)], []⟩, rfl, ?_⟩
    first | rw [wr01] | rw [wr12] | rw [wr23]
    conv => whnf
    repeat (refine And.intro (by first | omega | (constructor <;> omega)) ?_; conv => whnf)
    refine TW.loopD ctxPl_good 0 (base := 0) (lv := [0, 1, 2, 3, 4, 5, 6, 7, 16, 17, 18, 19, 20, 21, 23, 25, 27, 28, 29, 30, 31, 32, 33, 34, 35, 36, 37, 38, 39, 57, 70, 71, 72, 73, 80, 81, 82, 83, 102, 113, 114, 115, 116, 200]) [82] [] [] (fun j : Nat => [.v (.int .i64 j)]) (fun j => []) (fun j => j ≤ 3) (fun j => 3 - j) ?_
    conv => whnf
    refine ⟨⟨0, ⟨rfl, rfl, rfl⟩, by omega⟩, fun j hj => ?_⟩
    conv => whnf
    refine ifB_dec (fun hj3 => ?_) (fun hj3 => ?_)
    · conv => whnf
      repeat (refine And.intro (by first | omega | (constructor <;> omega)) ?_; conv => whnf)
      generalize ([(v : Int), odd, IntKind.i64.wrap (3 - (v : Int))]).getD (0 + addN 0 (j : Int).toNat * (0 + 1)) 0 = W
      repeat (first | (refine ifB_f (by simp) ?_; conv => whnf) | (refine And.intro (by first | omega | exact ⟨by omega, by assumption⟩ | assumption) ?_; conv => whnf))
      refine TW.loopD ctxPl_good 0 (base := 0) (lv := [0, 1, 2, 3, 4, 5, 6, 7, 16, 17, 18, 19, 20, 21, 23, 25, 27, 28, 29, 30, 31, 32, 33, 34, 35, 36, 37, 38, 39, 57, 70, 71, 72, 73, 80, 81, 82, 83, 102, 113, 114, 115, 116, 200]) [115] [] [] (fun i : Nat => [.v (.int .i64 i)]) (fun i => []) (fun i => i ≤ 3) (fun i => 3 - i) ?_
      conv => whnf
      refine ⟨⟨0, ⟨rfl, rfl, rfl⟩, by omega⟩, fun i hi => ?_⟩
      conv => whnf
      refine ifB_dec (fun hi3 => ?_) (fun hi3 => ?_)
      · conv => whnf
        repeat (refine And.intro (by omega) ?_; conv => whnf)
        have z0 := allU_getD hZ (0 + addN 0 (i : Int).toNat * (1 + 1) + 0)
        have z1 := allU_getD hZ (0 + addN 0 (i : Int).toNat * (1 + 1) + (0 + 1))
        generalize ([key, val, keyS k, 0, keyS k, val]).getD (0 + addN 0 (i : Int).toNat * (1 + 1) + 0) 0 = Z0 at *
        generalize ([key, val, keyS k, 0, keyS k, val]).getD (0 + addN 0 (i : Int).toNat * (1 + 1) + (0 + 1)) 0 = Z1 at *
        repeat (first | (refine And.intro (by first | omega | exact ⟨by omega, by assumption⟩ | exact ⟨by omega, by assumption, z0⟩) ?_; conv => whnf) | (refine ifB_f (by simp) ?_; conv => whnf))
        rw [wsucc (j := i) (n := 3) (by omega) (by omega)]
        exact ⟨i + 1, [], ⟨rfl, rfl, rfl⟩, (by omega : i + 1 ≤ 3), by dsimp only; omega⟩
      · conv => whnf
        rw [wsucc (j := j) (n := 3) (by omega) (by omega)]
        exact ⟨j + 1, [], ⟨rfl, rfl, rfl⟩, (by omega : j + 1 ≤ 3), by dsimp only; omega⟩
    conv => whnf
    refine ⟨⟨[0, 1, 2, 3, 4, 5, 6, 7, 16, 17, 18, 19, 20, 21, 70, 71, 72], [(280, 280), (216, 216), (180, 180)], []⟩, rfl, ?_⟩
    first | rw [wr01] | rw [wr12] | rw [wr23]
    conv => whnf
    repeat (refine And.intro (by first | omega | (constructor <;> omega)) ?_; conv => whnf)
    refine TW.loopD ctxPl_good 0 (base := 0) (lv := [0, 1, 2, 3, 4, 5, 6, 7, 16, 17, 18, 19, 20, 21, 23, 25, 27, 28, 29, 30, 31, 32, 33, 34, 35, 36, 37, 38, 39, 57, 70, 71, 72, 73, 80, 81, 82, 83, 102, 113, 114, 115, 116, 200]) [82] [] [] (fun j : Nat => [.v (.int .i64 j)]) (fun j => []) (fun j => j ≤ 3) (fun j => 3 - j) ?_
    conv => whnf
    refine ⟨⟨0, ⟨rfl, rfl, rfl⟩, by omega⟩, fun j hj => ?_⟩
    conv => whnf
    refine ifB_dec (fun hj3 => ?_) (fun hj3 => ?_)
    · conv => whnf
      repeat (refine And.intro (by first | omega | (constructor <;> omega)) ?_; conv => whnf)
      generalize ([(v : Int), odd, IntKind.i64.wrap (3 - (v : Int))]).getD (0 + addN 0 (j : Int).toNat * (0 + 1)) 0 = W
      repeat (first | (refine ifB_f (by simp) ?_; conv => whnf) | (refine And.intro (by first | omega | exact ⟨by omega, by assumption⟩ | assumption) ?_; conv => whnf))
      refine TW.loopD ctxPl_good 0 (base := 0) (lv := [0, 1, 2, 3, 4, 5, 6, 7, 16, 17, 18, 19, 20, 21, 23, 25, 27, 28, 29, 30, 31, 32, 33, 34, 35, 36, 37, 38, 39, 57, 70, 71, 72, 73, 80, 81, 82, 83, 102, 113, 114, 115, 116, 200]) [115] [] [] (fun i : Nat => [.v (.int .i64 i)]) (fun i => []) (fun i => i ≤ 3) (fun i => 3 - i) ?_
      conv => whnf
      refine ⟨⟨0, ⟨rfl, rfl, rfl⟩, by omega⟩, fun i hi => ?_⟩
      conv => whnf
      refine ifB_dec (fun hi3 => ?_) (fun hi3 => ?_)
      · conv => whnf
        repeat (refine And.intro (by omega) ?_; conv => whnf)
        have z0 := allU_getD hZ (0 + addN 0 (i : Int).toNat * (1 + 1) + 0)
        have z1 := allU_getD hZ (0 + addN 0 (i : Int).toNat * (1 + 1) + (0 + 1))
        generalize ([key, val, keyS k, 0, keyS k, val]).getD (0 + addN 0 (i : Int).toNat * (1 + 1) + 0) 0 = Z0 at *
        generalize ([key, val, keyS k, 0, keyS k, val]).getD (0 + addN 0 (i : Int).toNat * (1 + 1) + (0 + 1)) 0 = Z1 at *
        repeat (first | (refine And.intro (by first | omega | exact ⟨by omega, by assumption⟩ | exact ⟨by omega, by assumption, z0⟩) ?_; conv => whnf) | (refine ifB_f (by simp) ?_; conv => whnf))
        rw [wsucc (j := i) (n := 3) (by omega) (by omega)]
        exact ⟨i + 1, [], ⟨rfl, rfl, rfl⟩, (by omega : i + 1 ≤ 3), by dsimp only; omega⟩
      · conv => whnf
        rw [wsucc (j := j) (n := 3) (by omega) (by omega)]
        exact ⟨j + 1, [], ⟨rfl, rfl, rfl⟩, (by omega : j + 1 ≤ 3), by dsimp only; omega⟩
    conv => whnf
    refine ⟨⟨[0, 1, 2, 3, 4, 5, 6, 7, 16, 17, 18, 19, 20, 21, 70, 71, 72], [(280, 280), (216, 216), (180, 180)], []⟩, rfl, ?_⟩
    first | rw [wr01] | rw [wr12] | rw [wr23]
    conv => whnf
    repeat' (first | exact trivial | exact rfl | (refine And.intro ?_ ?_) | ((conv => whnf); done) | ((conv => whnf); (first | rfl | (refine congrArg (fun b => T.v (Value.bool b)) ?_; first | rfl | exact (decide_eq_true (by omega)).symm | exact (decide_eq_false (by omega)).symm | exact decide_eq_decide.2 (by omega)) | (refine congrArg (fun b => T.v (Value.int _ b)) ?_; first | rfl | omega) | omega)) | (first | rfl | (refine congrArg (fun b => T.v (Value.bool b)) ?_; first | rfl | exact (decide_eq_true (by omega)).symm | exact (decide_eq_false (by omega)).symm | exact decide_eq_decide.2 (by omega)) | (refine congrArg (fun b => T.v (Value.int _ b)) ?_; first | rfl | omega) | omega))
end Go.Proofs.YtdbmbbfgcaimgaaDoor.PrT
