/- Texts put together: PrP, PrQ, PrV, PrX. -/
import Derived.Test.YtdbmbbfgcaimgaaDoorProbeListsM5
namespace Go.Proofs.YtdbmbbfgcaimgaaDoor.PrT
open Go.RowKit Go.Proofs.YtdbmbbfgcaimgaaDoor.Am Go.Proofs.YtdbmbbfgcaimgaaDoor
set_option linter.unusedVariables false
set_option linter.unusedSimpArgs false

theorem ok_one {k v : Int} (hu : U64 k) (hk : k ≠ 0) : Ok sP 1 [(k, v)] := by
  have e : ∀ j, j < 1 → kR [(k, v)] j = k := by
    intro j hj
    obtain rfl : j = 0 := by omega
    rfl
  refine ⟨rfl, fun j hj h => absurd ((e j hj).symm.trans h) hk, fun j hj _ => by rw [e j hj, sP_U]; exact hu, fun i j hi hj _ _ => ?_, fun j hj _ s hs hd => ?_⟩
  · omega
  · obtain rfl : s = j := by omega
    exact absurd hd (Nat.lt_irrefl _)
theorem laid_none (n : Nat) : laid sP n [] = List.replicate n (0, 0) := rfl
theorem laid_one {k v : Int} (hu : U64 k) (hk : k ≠ 0) : laid sP 1 [(k, v)] = [(k, v)] := by
  refine laid_is ⟨fun r hr => ?_, fun r hr => ?_, by simp⟩ (Nat.le_refl _) (ok_one hu hk) fun x => ?_
  · rw [List.mem_singleton.1 hr, sP_U]; exact hu
  · rw [List.mem_singleton.1 hr]; exact hk
  · rw [List.mem_singleton]
    constructor
    · rintro ⟨h1, j, h2, h3⟩
      obtain rfl : j = 0 := by omega
      exact h3.symm
    · rintro rfl; exact ⟨hk, 0, by omega, rfl⟩
theorem aw_u5 : U64 5 := ⟨by decide, by decide⟩
theorem aw_build : bldW 1 2 [] = [0, 0] ∧ bldE 1 2 [] = 0 := by
  obtain ⟨h1, h2, -⟩ := Tb.nil (n := 1) (v := 2) (.inr rfl) (by omega) (by omega)
  exact ⟨h2.trans (by rw [laid_none]; rfl), h1⟩
theorem aw_tb0 : Tb 1 2 [0, 0] := by
  obtain ⟨h1, h2, h3⟩ := Tb.nil (n := 1) (v := 2) (.inr rfl) (by omega) (by omega)
  have := aw_build.1
  rw [show bldW ((1 : Nat) : Int) ((2 : Nat) : Int) [] = [0, 0] from this] at h3
  exact h3
theorem aw_put : putL 2 [0, 0] 5 9 = [5, 9] ∧ putE 2 [0, 0] 5 9 = 0 := by
  obtain ⟨-, h⟩ := aw_tb0.put (.inr rfl) (by omega) (by omega) aw_u5 (by decide) (val := 9) ⟨by decide, by decide⟩ (fun q => by cases q)
  have e : oth (nzs (recs 1 2 [0, 0])) 5 = [] := rfl
  rw [e] at h
  rcases h with ⟨-, -, h⟩ | ⟨h1, h2, -⟩
  · exact absurd h (by decide)
  · refine ⟨h2.trans ?_, h1⟩
    rw [List.nil_append, laid_one aw_u5 (by decide)]; rfl
theorem aw_tb1 : Tb 1 2 [5, 9] := by
  have h := (aw_tb0.put (.inr rfl) (by omega) (by omega) aw_u5 (by decide) (val := 9) ⟨by decide, by decide⟩ (fun q => by cases q)).1
  rw [show putL ((2 : Nat) : Int) [0, 0] 5 9 = [5, 9] from aw_put.1] at h
  exact h
theorem aw_right : rightB 2 [5, 9] = true := (aw_tb1.facts (.inr rfl) (by omega) (by omega)).1
theorem aw_find : fndP 2 [5, 9] 5 = 0 := by
  obtain ⟨h1, h2, -⟩ := aw_tb1.facts (.inr rfl) (by omega) (by omega)
  unfold fndP
  rw [if_pos ⟨h1, by decide⟩, show shN 2 [5, 9] = 1 from h2]
  exact findF_in (key := 5) aw_tb1.ok (p := 0) (by omega) rfl (by decide) 1 _ (sP.hlt 1 5 (by omega)) (by rw [dist_self]; exact Nat.zero_le _) (dist_lt (sP.hlt 1 5 (by omega)) (by omega))
theorem aw_full : putE 2 [5, 9] 6 1 = 11 := by
  obtain ⟨-, h⟩ := aw_tb1.put (.inr rfl) (by omega) (by omega) (key := 6) (val := 1) ⟨by decide, by decide⟩ (by decide) ⟨by decide, by decide⟩ (fun q => by cases q)
  have e : oth (nzs (recs 1 2 [5, 9])) 6 = [(5, 9)] := rfl
  rw [e] at h
  rcases h with ⟨h, -⟩ | ⟨-, -, h, -⟩
  · exact h
  · exact absurd h (by decide)
theorem aw_del : delL 2 [5, 9] 5 = [0, 0] ∧ delE 2 [5, 9] 5 = 0 := by
  obtain ⟨g, h⟩ := aw_tb1.del (.inr rfl) (by omega) (by omega) (key := 5) (by decide)
  have e : oth (nzs (recs 1 2 [5, 9])) 5 = [] := rfl
  rcases h with ⟨-, -, h⟩ | ⟨h1, -, h2⟩
  · exact absurd ⟨(5, 9), by decide, rfl⟩ h
  · rw [e, laid_none] at h2
    have := flat_recs (w := 2) (.inr rfl) g.len
    rw [h2] at this
    exact ⟨this.symm, h1⟩
theorem aw_none : delE 2 [0, 0] 5 = 12 := by
  obtain ⟨-, h⟩ := aw_tb0.del (.inr rfl) (by omega) (by omega) (key := 5) (by decide)
  rcases h with ⟨h, -⟩ | ⟨-, ⟨r, h, -⟩, -⟩
  · exact h
  · exact absurd h (by rw [show nzs (recs 1 2 [0, 0]) = [] from rfl]; simp)
theorem aw_list : lstP 2 [5, 9] = [(5, 9)] := by
  obtain ⟨h1, h2, -⟩ := aw_tb1.facts (.inr rfl) (by omega) (by omega)
  unfold lstP
  rw [if_pos (show rightB 2 [5, 9] = true from h1), show shN 2 [5, 9] = 1 from h2]; rfl
theorem aw_bad : bldE 1 3 [] = 1 := by unfold bldE; rw [if_pos (by omega)]
theorem aw_not : rightB 3 [5, 9] = false := right_not fun q => by rcases q.1.1 with h | h <;> omega

noncomputable def ctxAw (P : Program) : Ctx := ctx P glM [eBuild, ePut, eFindP, eDel, eList, eRight, eSame, eRRecs] [] (noEq P) [] (fun _ h => by cases h)
theorem ctxAw_good : (ctxAw Tryd.prog).good := ctx_good (by kernel_rfl) (AllOk.mem ⟨eBuild_ok, ePut_ok, eFindP_ok, eDel_ok, eList_ok, eRight_ok, entry_lift eSame_ok, entry_lift eRRecs_ok, trivial⟩) glM_two
attribute [local irreducible] bldE bldW putL putE delL delE lstP fndP rightB
theorem allU_pair {a b : Int} (ha : U64 a) (hb : U64 b) : AllU [a, b] := by
  intro x hx
  rcases List.mem_cons.1 hx with rfl | hx
  · exact ha
  · rw [List.mem_singleton.1 hx]; exact hb
set_option maxHeartbeats 2000000 in
set_option maxRecDepth 100000 in
theorem awake_pure : Pure Tryd.prog glM 8 [] (.v (.bool true)) := by
  have u0 : AllU [0, 0] := aw_tb0.u
  have u1 : AllU [5, 9] := aw_tb1.u
  refine pure_of (C := ctxAw Tryd.prog) ctxAw_good Tryd.func8 (c := bodyOf Tryd.f8) (by rfl) (Nat.le_of_ble_eq_true (by rfl)) 4 0 [0, 1, 2, 3, 4, 5, 6, 8, 9, 10, 12, 13, 15] ?_
  conv => whnf
  rw [aw_build.1, aw_build.2]
  conv => whnf
  refine And.intro ⟨by decide, u0, aw_u5⟩ ?_
  conv => whnf
  rw [aw_put.1, aw_put.2]
  have c1 : [(5 : Int), 9].length ≤ 1000000 ∧ AllU [(5 : Int), 9] := ⟨by decide, u1⟩
  refine And.intro c1 ?_
  conv => whnf
  rw [aw_find]
  refine And.intro ⟨c1.1, u1, by decide, by decide⟩ ?_
  conv => whnf
  rw [aw_full]
  refine And.intro c1 ?_
  conv => whnf
  rw [aw_del.1, aw_del.2]
  refine And.intro ⟨(by decide : [(0 : Int), 0].length ≤ 1000000), u0⟩ ?_
  conv => whnf
  rw [aw_none]
  refine And.intro c1 ?_
  conv => whnf
  rw [aw_list, aw_bad]
  conv => whnf
  refine And.intro c1 ?_
  conv => whnf
  rw [aw_right]
  conv => whnf
  refine And.intro c1 ?_
  conv => whnf
  rw [aw_not]
  repeat' (first | exact trivial | exact rfl | (refine And.intro ?_ ?_) | ((conv => whnf); done) | ((conv => whnf); (first | rfl | (refine congrArg (fun b => T.v (Value.bool b)) ?_; first | rfl | exact (decide_eq_true (by omega)).symm | exact (decide_eq_false (by omega)).symm | exact decide_eq_decide.2 (by omega)) | (refine congrArg (fun b => T.v (Value.int _ b)) ?_; first | rfl | omega) | omega)) | (first | rfl | (refine congrArg (fun b => T.v (Value.bool b)) ?_; first | rfl | exact (decide_eq_true (by omega)).symm | exact (decide_eq_false (by omega)).symm | exact decide_eq_decide.2 (by omega)) | (refine congrArg (fun b => T.v (Value.int _ b)) ?_; first | rfl | omega) | omega))

noncomputable def eAwk : Entry := ⟨8, 4, fun l => match l with | [] => some (none, .v (.bool true), []) | _ => none⟩
theorem eAwk_ok : eAwk.ok Tryd.prog glM := ⟨Am.enters_of Tryd.func8 (by kernel_rfl) (by kernel_rfl), by
  intro args c t bs h hc
  simp only [eAwk] at h
  split at h <;> cases h
  exact awake_pure⟩
end Go.Proofs.YtdbmbbfgcaimgaaDoor.PrT
namespace Go.Proofs.YtdbmbbfgcaimgaaDoor.PrT
open Go.RowKit Go.Proofs.YtdbmbbfgcaimgaaDoor.Am Go.Proofs.YtdbmbbfgcaimgaaDoor
set_option linter.unusedVariables false
set_option linter.unusedSimpArgs false

noncomputable def ctxPl (P : Program) : Ctx := ctx P glM [eAwk, eTable, eKey07, ePick07, eRight, eRRight, eList, eRList, eRRecs, eFindP, eRFind, ePut, eRPut, eDel, eRDel, eSame, eBuild, eRBuild] [] (noEq P) [] (fun _ h => by cases h)
theorem ctxPl_good : (ctxPl Tryd.prog).good := ctx_good (by kernel_rfl) (AllOk.mem ⟨eAwk_ok, entry_lift eTable_ok, entry_lift eKey07_ok, entry_lift ePick07_ok, eRight_ok, entry_lift eRRight_ok, eList_ok, entry_lift eRList_ok, entry_lift eRRecs_ok, eFindP_ok, entry_lift eRFind_ok, ePut_ok, entry_lift eRPut_ok, eDel_ok, entry_lift eRDel_ok, entry_lift eSame_ok, eBuild_ok, entry_lift eRBuild_ok, trivial⟩) glM_two
attribute [local irreducible] bldE bldW putL putE delL delE lstP fndP rightB tabS keyS slN wdN ipick
theorem wr01 : IntKind.i64.wrap ((0 : Int) + 1) = 1 := by decide
theorem wr12 : IntKind.i64.wrap ((1 : Int) + 1) = 2 := by decide
theorem wr23 : IntKind.i64.wrap ((2 : Int) + 1) = 3 := by decide
theorem allU_take {xs : List Int} (h : AllU xs) (n : Nat) : AllU (xs.take n) := fun x hx => h x (List.mem_of_mem_take hx)
set_option maxHeartbeats 4000000 in
set_option maxRecDepth 100000 in
theorem tells07_pure (slots width : Int) (rn : Nat) (raw : List Int) (an : Nat) (any : List Int) (odd key val k : Int) (h1 : I64 slots) (h2 : I64 width) (h3 : ∀ r ∈ raw, I64 r) (h4 : AllU any) (h5 : I64 odd) (h6 : U64 key) (h7 : U64 val) (h8 : I64 k) :
    Pure Tryd.prog glM 3 [.v (.int .i64 slots), .v (.int .i64 width), .fl [.i64] rn raw, .fl [.u64] an any, .v (.int .i64 odd), .v (.int .u64 key), .v (.int .u64 val), .v (.int .i64 k)] (.v (.bool true)) := by
  refine pure_wf fun hw => ?_
  obtain ⟨-, -, ⟨w1, w2⟩, ⟨w3, w4⟩, -⟩ := hw
  simp only [List.length_cons, List.length_nil, Nat.zero_add, Nat.mul_one] at w1 w3
  obtain ⟨⟨n1, n2⟩, n3⟩ := slN_f slots
  obtain ⟨v1, v2⟩ := wdN_f width
  have hT := tabS_tb v1 (n := slN slots) (by omega) (by omega) (raw.take 14)
  obtain ⟨k1, k2⟩ := keyS_facts k
  refine pure_of (C := ctxPl Tryd.prog) ctxPl_good Tryd.func3 (c := bodyOf Tryd.f3) (by rfl) (Nat.le_of_ble_eq_true (by rfl)) 4 0 [0, 1, 2, 3, 4, 5, 6, 7, 16, 17, 18, 19, 20, 21, 23, 25, 27, 28, 29, 30, 31, 32, 33, 34, 35, 36, 37, 38, 39, 57, 70, 71, 72, 73, 80, 81, 82, 83, 102, 113, 114, 115, 116, 200] ?_
  conv => whnf
  refine And.intro ⟨h1, h2, h3⟩ ?_
  conv => whnf
  generalize slN slots = n at *
  generalize wdN width = v at *
  generalize tabS n v (raw.take 14) = t at *
  have hnv : n * v ≤ 24 ∧ 1 ≤ n * v := by rcases v1 with rfl | rfl <;> omega
  have htl := hT.len
  have htu := hT.u
  have hZ : AllU [key, val, keyS k, 0, keyS k, val] := by
    intro x hx
    simp only [List.mem_cons, List.not_mem_nil, or_false] at hx
    rcases hx with rfl | rfl | rfl | rfl | rfl | rfl
    · exact h6
    · exact h7
    · exact k1
    · exact ⟨by decide, by decide⟩
    · exact k1
    · exact h7
  obtain ⟨c, hc, hcn, hc60⟩ : ∃ c : Nat, (if (60 : Int) < (an : Int) then (60 : Int) else (an : Int)) = (c : Int) ∧ c ≤ an ∧ c ≤ 60 := ⟨min an 60, by split <;> omega, by omega, by omega⟩
  have hx : cutN (0 + 1) none (some (c : Int)) any = any.take c := rfl
  have hxl : cutL an none (some (c : Int)) = c := rfl
  have hxu := allU_take h4 c
  have hxn : (any.take c).length = c := by rw [List.length_take]; omega
  rw [hc, hx, hxl]
  generalize any.take c = xs at *
  refine And.intro (by omega) ?_
  conv => whnf
  refine And.intro (show n * v * 8 ≤ 140737488355328 by omega) ?_
  conv => whnf
  refine ifB_dec (fun hc0 => ?_) (fun hc0 => ?_)
  · conv => whnf
    refine And.intro ⟨h5, by omega, by omega⟩ ?_
    conv => whnf
    have hib := ipick_bounds odd (n := ((n * v : Nat) : Int)) (by omega)
    repeat (refine And.intro (by first | omega | (constructor <;> omega)) ?_; conv => whnf)
    have htu2 : AllU (t.set (0 + addN 0 (ipick odd ((n * v : Nat) : Int)).toNat * (0 + 1) + 0) (xs.getD (0 + Int.toNat 0 * (0 + 1)) 0)) := allU_set htu _ (allU_getD hxu _)
    generalize t.set (0 + addN 0 (ipick odd ((n * v : Nat) : Int)).toNat * (0 + 1) + 0) (xs.getD (0 + Int.toNat 0 * (0 + 1)) 0) = tu at *
    refine TW.roundsV ctxPl_good 0 (base := 0) (lv := [0, 1, 2, 3, 4, 5, 6, 7, 16, 17, 18, 19, 20, 21, 23, 25, 27, 28, 29, 30, 31, 32, 33, 34, 35, 36, 37, 38, 39, 57, 70, 71, 72, 73, 80, 81, 82, 83, 102, 113, 114, 115, 116, 200]) 4 ?_
    conv => whnf
    repeat (refine And.intro (by first | omega | (constructor <;> omega)) ?_; conv => whnf)
    refine TW.loopD ctxPl_good 0 (base := 0) (lv := [0, 1, 2, 3, 4, 5, 6, 7, 16, 17, 18, 19, 20, 21, 23, 25, 27, 28, 29, 30, 31, 32, 33, 34, 35, 36, 37, 38, 39, 57, 70, 71, 72, 73, 80, 81, 82, 83, 102, 113, 114, 115, 116, 200]) [82] [] [] (fun j : Nat => [.v (.int .i64 j)]) (fun j => []) (fun j => j ≤ 3) (fun j => 3 - j) ?_
    conv => whnf
    refine ⟨⟨0, ⟨rfl, rfl, rfl⟩, by omega⟩, fun j hj => ?_⟩
    conv => whnf
    refine ifB_dec (fun hj3 => ?_) (fun hj3 => ?_)
    · conv => whnf
      repeat (refine And.intro (by first | omega | (constructor <;> omega)) ?_; conv => whnf)
      generalize ([(v : Int), odd, IntKind.i64.wrap (3 - (v : Int))]).getD (0 + addN 0 (j : Int).toNat * (0 + 1)) 0 = W
      repeat (first | (refine ifB_f (by simp) ?_; conv => whnf) | (refine And.intro (by first | omega | exact ⟨by omega, by assumption⟩ | assumption) ?_; conv => whnf))
      refine TW.loopD ctxPl_good 0 (base := 0) (lv := [0, 1, 2, 3, 4, 5, 6, 7, 16, 17, 18, 19, 20, 21, 23, 25, 27, 28, 29, 30, 31, 32, 33, 34, 35, 36, 37, 38, 39, 57, 70, 71, 72, 73, 80, 81, 82, 83, 102, 113, 114, 115, 116, 200]) [115] [] [] (fun i : Nat => [.v (.int .i64 i)]) (fun i => []) (fun i => i ≤ 3) (fun i => 3 - i) ?_
      conv => whnf
      refine ⟨⟨0, ⟨rfl, rfl, rfl⟩, by omega⟩, fun i hi => ?_⟩
      conv => whnf
      refine ifB_dec (fun hi3 => ?_) (fun hi3 => ?_)
      · conv => whnf
        repeat (refine And.intro (by omega) ?_; conv => whnf)
        have z0 := allU_getD hZ (0 + addN 0 (i : Int).toNat * (1 + 1) + 0)
        have z1 := allU_getD hZ (0 + addN 0 (i : Int).toNat * (1 + 1) + (0 + 1))
        generalize ([key, val, keyS k, 0, keyS k, val]).getD (0 + addN 0 (i : Int).toNat * (1 + 1) + 0) 0 = Z0 at *
        generalize ([key, val, keyS k, 0, keyS k, val]).getD (0 + addN 0 (i : Int).toNat * (1 + 1) + (0 + 1)) 0 = Z1 at *
        repeat (first | (refine And.intro (by first | omega | exact ⟨by omega, by assumption⟩ | exact ⟨by omega, by assumption, z0⟩) ?_; conv => whnf) | (refine ifB_f (by simp) ?_; conv => whnf))
        rw [wsucc (j := i) (n := 3) (by omega) (by omega)]
        exact ⟨i + 1, [], ⟨rfl, rfl, rfl⟩, (by omega : i + 1 ≤ 3), by dsimp only; omega⟩
      · conv => whnf
        rw [wsucc (j := j) (n := 3) (by omega) (by omega)]
        exact ⟨j + 1, [], ⟨rfl, rfl, rfl⟩, (by omega : j + 1 ≤ 3), by dsimp only; omega⟩
    conv => whnf
    refine ⟨⟨[0, 1, 2, 3, 4, 5, 6, 7, 16, 17, 18, 19, 20, 21, 70, 71, 72], [(280, 280), (216, 216), (180, 180)], []⟩, rfl, ?_⟩
    first | rw [wr01] | rw [wr12] | rw [wr23]
    conv => whnf
    repeat (refine And.intro (by first | omega | (constructor <;> omega)) ?_; conv => whnf)
    refine TW.loopD ctxPl_good 0 (base := 0) (lv := [0, 1, 2, 3, 4, 5, 6, 7, 16, 17, 18, 19, 20, 21, 23, 25, 27, 28, 29, 30, 31, 32, 33, 34, 35, 36, 37, 38, 39, 57, 70, 71, 72, 73, 80, 81, 82, 83, 102, 113, 114, 115, 116, 200]) [82] [] [] (fun j : Nat => [.v (.int .i64 j)]) (fun j => []) (fun j => j ≤ 3) (fun j => 3 - j) ?_
    conv => whnf
    refine ⟨⟨0, ⟨rfl, rfl, rfl⟩, by omega⟩, fun j hj => ?_⟩
    conv => whnf
    refine ifB_dec (fun hj3 => ?_) (fun hj3 => ?_)
    · conv => whnf
      repeat (refine And.intro (by first | omega | (constructor <;> omega)) ?_; conv => whnf)
      generalize ([(v : Int), odd, IntKind.i64.wrap (3 - (v : Int))]).getD (0 + addN 0 (j : Int).toNat * (0 + 1)) 0 = W
      repeat (first | (refine ifB_f (by simp) ?_; conv => whnf) | (refine And.intro (by first | omega | exact ⟨by omega, by assumption⟩ | assumption) ?_; conv => whnf))
      refine TW.loopD ctxPl_good 0 (base := 0) (lv := [0, 1, 2, 3, 4, 5, 6, 7, 16, 17, 18, 19, 20, 21, 23, 25, 27, 28, 29, 30, 31, 32, 33, 34, 35, 36, 37, 38, 39, 57, 70, 71, 72, 73, 80, 81, 82, 83, 102, 113, 114, 115, 116, 200]) [115] [] [] (fun i : Nat => [.v (.int .i64 i)]) (fun i => []) (fun i => i ≤ 3) (fun i => 3 - i) ?_
      conv => whnf
      refine ⟨⟨0, ⟨rfl, rfl, rfl⟩, by omega⟩, fun i hi => ?_⟩
      conv => whnf
      refine ifB_dec (fun hi3 => ?_) (fun hi3 => ?_)
      · conv => whnf
        repeat (refine And.intro (by omega) ?_; conv => whnf)
        have z0 := allU_getD hZ (0 + addN 0 (i : Int).toNat * (1 + 1) + 0)
        have z1 := allU_getD hZ (0 + addN 0 (i : Int).toNat * (1 + 1) + (0 + 1))
        generalize ([key, val, keyS k, 0, keyS k, val]).getD (0 + addN 0 (i : Int).toNat * (1 + 1) + 0) 0 = Z0 at *
        generalize ([key, val, keyS k, 0, keyS k, val]).getD (0 + addN 0 (i : Int).toNat * (1 + 1) + (0 + 1)) 0 = Z1 at *
        repeat (first | (refine And.intro (by first | omega | exact ⟨by omega, by assumption⟩ | exact ⟨by omega, by assumption, z0⟩) ?_; conv => whnf) | (refine ifB_f (by simp) ?_; conv => whnf))
        rw [wsucc (j := i) (n := 3) (by omega) (by omega)]
        exact ⟨i + 1, [], ⟨rfl, rfl, rfl⟩, (by omega : i + 1 ≤ 3), by dsimp only; omega⟩
      · conv => whnf
        rw [wsucc (j := j) (n := 3) (by omega) (by omega)]
        exact ⟨j + 1, [], ⟨rfl, rfl, rfl⟩, (by omega : j + 1 ≤ 3), by dsimp only; omega⟩
    conv => whnf
    refine ⟨⟨[0, 1, 2, 3, 4, 5, 6, 7, 16, 17, 18, 19, 20, 21, 70, 71, 72], [(280, 280), (216, 216), (180, 180)], []⟩, rfl, ?_⟩
    first | rw [wr01] | rw [wr12] | rw [wr23]
    conv => whnf
    repeat (refine And.intro (by first | omega | (constructor <;> omega)) ?_; conv => whnf)
    refine TW.loopD ctxPl_good 0 (base := 0) (lv := [0, 1, 2, 3, 4, 5, 6, 7, 16, 17, 18, 19, 20, 21, 23, 25, 27, 28, 29, 30, 31, 32, 33, 34, 35, 36, 37, 38, 39, 57, 70, 71, 72, 73, 80, 81, 82, 83, 102, 113, 114, 115, 116, 200]) [82] [] [] (fun j : Nat => [.v (.int .i64 j)]) (fun j => []) (fun j => j ≤ 3) (fun j => 3 - j) ?_
    conv => whnf
    refine ⟨⟨0, ⟨rfl, rfl, rfl⟩, by omega⟩, fun j hj => ?_⟩
    conv => whnf
    refine ifB_dec (fun hj3 => ?_) (fun hj3 => ?_)
    · conv => whnf
      repeat (refine And.intro (by first | omega | (constructor <;> omega)) ?_; conv => whnf)
      generalize ([(v : Int), odd, IntKind.i64.wrap (3 - (v : Int))]).getD (0 + addN 0 (j : Int).toNat * (0 + 1)) 0 = W
      repeat (first | (refine ifB_f (by simp) ?_; conv => whnf) | (refine And.intro (by first | omega | exact ⟨by omega, by assumption⟩ | assumption) ?_; conv => whnf))
      refine TW.loopD ctxPl_good 0 (base := 0) (lv := [0, 1, 2, 3, 4, 5, 6, 7, 16, 17, 18, 19, 20, 21, 23, 25, 27, 28, 29, 30, 31, 32, 33, 34, 35, 36, 37, 38, 39, 57, 70, 71, 72, 73, 80, 81, 82, 83, 102, 113, 114, 115, 116, 200]) [115] [] [] (fun i : Nat => [.v (.int .i64 i)]) (fun i => []) (fun i => i ≤ 3) (fun i => 3 - i) ?_
      conv => whnf
      refine ⟨⟨0, ⟨rfl, rfl, rfl⟩, by omega⟩, fun i hi => ?_⟩
      conv => whnf
      refine ifB_dec (fun hi3 => ?_) (fun hi3 => ?_)
      · conv => whnf
        repeat (refine And.intro (by omega) ?_; conv => whnf)
        have z0 := allU_getD hZ (0 + addN 0 (i : Int).toNat * (1 + 1) + 0)
        have z1 := allU_getD hZ (0 + addN 0 (i : Int).toNat * (1 + 1) + (0 + 1))
        generalize ([key, val, keyS k, 0, keyS k, val]).getD (0 + addN 0 (i : Int).toNat * (1 + 1) + 0) 0 = Z0 at *
        generalize ([key, val, keyS k, 0, keyS k, val]).getD (0 + addN 0 (i : Int).toNat * (1 + 1) + (0 + 1)) 0 = Z1 at *
        repeat (first | (refine And.intro (by first | omega | exact ⟨by omega, by assumption⟩ | exact ⟨by omega, by assumption, z0⟩) ?_; conv => whnf) | (refine ifB_f (by simp) ?_; conv => whnf))
        rw [wsucc (j := i) (n := 3) (by omega) (by omega)]
        exact ⟨i + 1, [], ⟨rfl, rfl, rfl⟩, (by omega : i + 1 ≤ 3), by dsimp only; omega⟩
      · conv => whnf
        rw [wsucc (j := j) (n := 3) (by omega) (by omega)]
        exact ⟨j + 1, [], ⟨rfl, rfl, rfl⟩, (by omega : j + 1 ≤ 3), by dsimp only; omega⟩
    conv => whnf
    refine ⟨⟨[0, 1, 2, 3, 4, 5, 6, 7, 16, 17, 18, 19, 20, 21, 70, 71, 72], [(280, 280), (216, 216), (180, 180)], []⟩, rfl, ?_⟩
    first | rw [wr01] | rw [wr12] | rw [wr23]
    conv => whnf
    repeat' (first | exact trivial | exact rfl | (refine And.intro ?_ ?_) | ((conv => whnf); done) | ((conv => whnf); (first | rfl | (refine congrArg (fun b => T.v (Value.bool b)) ?_; first | rfl | exact (decide_eq_true (by omega)).symm | exact (decide_eq_false (by omega)).symm | exact decide_eq_decide.2 (by omega)) | (refine congrArg (fun b => T.v (Value.int _ b)) ?_; first | rfl | omega) | omega)) | (first | rfl | (refine congrArg (fun b => T.v (Value.bool b)) ?_; first | rfl | exact (decide_eq_true (by omega)).symm | exact (decide_eq_false (by omega)).symm | exact decide_eq_decide.2 (by omega)) | (refine congrArg (fun b => T.v (Value.int _ b)) ?_; first | rfl | omega) | omega))
  · conv => whnf
    refine TW.roundsV ctxPl_good 0 (base := 0) (lv := [0, 1, 2, 3, 4, 5, 6, 7, 16, 17, 18, 19, 20, 21, 23, 25, 27, 28, 29, 30, 31, 32, 33, 34, 35, 36, 37, 38, 39, 57, 70, 71, 72, 73, 80, 81, 82, 83, 102, 113, 114, 115, 116, 200]) 4 ?_
    conv => whnf
    repeat (refine And.intro (by first | omega | (constructor <;> omega)) ?_; conv => whnf)
    refine TW.loopD ctxPl_good 0 (base := 0) (lv := [0, 1, 2, 3, 4, 5, 6, 7, 16, 17, 18, 19, 20, 21, 23, 25, 27, 28, 29, 30, 31, 32, 33, 34, 35, 36, 37, 38, 39, 57, 70, 71, 72, 73, 80, 81, 82, 83, 102, 113, 114, 115, 116, 200]) [82] [] [] (fun j : Nat => [.v (.int .i64 j)]) (fun j => []) (fun j => j ≤ 3) (fun j => 3 - j) ?_
    conv => whnf
    refine ⟨⟨0, ⟨rfl, rfl, rfl⟩, by omega⟩, fun j hj => ?_⟩
    conv => whnf
    refine ifB_dec (fun hj3 => ?_) (fun hj3 => ?_)
    · conv => whnf
      repeat (refine And.intro (by first | omega | (constructor <;> omega)) ?_; conv => whnf)
      generalize ([(v : Int), odd, IntKind.i64.wrap (3 - (v : Int))]).getD (0 + addN 0 (j : Int).toNat * (0 + 1)) 0 = W
      repeat (first | (refine ifB_f (by simp) ?_; conv => whnf) | (refine And.intro (by first | omega | exact ⟨by omega, by assumption⟩ | assumption) ?_; conv => whnf))
      refine TW.loopD ctxPl_good 0 (base := 0) (lv := [0, 1, 2, 3, 4, 5, 6, 7, 16, 17, 18, 19, 20, 21, 23, 25, 27, 28, 29, 30, 31, 32, 33, 34, 35, 36, 37, 38, 39, 57, 70, 71, 72, 73, 80, 81, 82, 83, 102, 113, 114, 115, 116, 200]) [115] [] [] (fun i : Nat => [.v (.int .i64 i)]) (fun i => []) (fun i => i ≤ 3) (fun i => 3 - i) ?_
      conv => whnf
      refine ⟨⟨0, ⟨rfl, rfl, rfl⟩, by omega⟩, fun i hi => ?_⟩
      conv => whnf
      refine ifB_dec (fun hi3 => ?_) (fun hi3 => ?_)
      · conv => whnf
        repeat (refine And.intro (by omega) ?_; conv => whnf)
        have z0 := allU_getD hZ (0 + addN 0 (i : Int).toNat * (1 + 1) + 0)
        have z1 := allU_getD hZ (0 + addN 0 (i : Int).toNat * (1 + 1) + (0 + 1))
        generalize ([key, val, keyS k, 0, keyS k, val]).getD (0 + addN 0 (i : Int).toNat * (1 + 1) + 0) 0 = Z0 at *
        generalize ([key, val, keyS k, 0, keyS k, val]).getD (0 + addN 0 (i : Int).toNat * (1 + 1) + (0 + 1)) 0 = Z1 at *
        repeat (first | (refine And.intro (by first | omega | exact ⟨by omega, by assumption⟩ | exact ⟨by omega, by assumption, z0⟩) ?_; conv => whnf) | (refine ifB_f (by simp) ?_; conv => whnf))
        rw [wsucc (j := i) (n := 3) (by omega) (by omega)]
        exact ⟨i + 1, [], ⟨rfl, rfl, rfl⟩, (by omega : i + 1 ≤ 3), by dsimp only; omega⟩
      · conv => whnf
        rw [wsucc (j := j) (n := 3) (by omega) (by omega)]
        exact ⟨j + 1, [], ⟨rfl, rfl, rfl⟩, (by omega : j + 1 ≤ 3), by dsimp only; omega⟩
    conv => whnf
    refine ⟨⟨[0, 1, 2, 3, 4, 5, 6, 7, 16, 17, 18, 19, 20, 21, 70, 71, 72], [(280, 280), (216, 216), (180, 180)], []⟩, rfl, ?_⟩
    first | rw [wr01] | rw [wr12] | rw [wr23]
    conv => whnf
    repeat (refine And.intro (by first | omega | (constructor <;> omega)) ?_; conv => whnf)
    refine TW.loopD ctxPl_good 0 (base := 0) (lv := [0, 1, 2, 3, 4, 5, 6, 7, 16, 17, 18, 19, 20, 21, 23, 25, 27, 28, 29, 30, 31, 32, 33, 34, 35, 36, 37, 38, 39, 57, 70, 71, 72, 73, 80, 81, 82, 83, 102, 113, 114, 115, 116, 200]) [82] [] [] (fun j : Nat => [.v (.int .i64 j)]) (fun j => []) (fun j => j ≤ 3) (fun j => 3 - j) ?_
    conv => whnf
    refine ⟨⟨0, ⟨rfl, rfl, rfl⟩, by omega⟩, fun j hj => ?_⟩
    conv => whnf
    refine ifB_dec (fun hj3 => ?_) (fun hj3 => ?_)
    · conv => whnf
      repeat (refine And.intro (by first | omega | (constructor <;> omega)) ?_; conv => whnf)
      generalize ([(v : Int), odd, IntKind.i64.wrap (3 - (v : Int))]).getD (0 + addN 0 (j : Int).toNat * (0 + 1)) 0 = W
      repeat (first | (refine ifB_f (by simp) ?_; conv => whnf) | (refine And.intro (by first | omega | exact ⟨by omega, by assumption⟩ | assumption) ?_; conv => whnf))
      refine TW.loopD ctxPl_good 0 (base := 0) (lv := [0, 1, 2, 3, 4, 5, 6, 7, 16, 17, 18, 19, 20, 21, 23, 25, 27, 28, 29, 30, 31, 32, 33, 34, 35, 36, 37, 38, 39, 57, 70, 71, 72, 73, 80, 81, 82, 83, 102, 113, 114, 115, 116, 200]) [115] [] [] (fun i : Nat => [.v (.int .i64 i)]) (fun i => []) (fun i => i ≤ 3) (fun i => 3 - i) ?_
      conv => whnf
      refine ⟨⟨0, ⟨rfl, rfl, rfl⟩, by omega⟩, fun i hi => ?_⟩
      conv => whnf
      refine ifB_dec (fun hi3 => ?_) (fun hi3 => ?_)
      · conv => whnf
        repeat (refine And.intro (by omega) ?_; conv => whnf)
        have z0 := allU_getD hZ (0 + addN 0 (i : Int).toNat * (1 + 1) + 0)
        have z1 := allU_getD hZ (0 + addN 0 (i : Int).toNat * (1 + 1) + (0 + 1))
        generalize ([key, val, keyS k, 0, keyS k, val]).getD (0 + addN 0 (i : Int).toNat * (1 + 1) + 0) 0 = Z0 at *
        generalize ([key, val, keyS k, 0, keyS k, val]).getD (0 + addN 0 (i : Int).toNat * (1 + 1) + (0 + 1)) 0 = Z1 at *
        repeat (first | (refine And.intro (by first | omega | exact ⟨by omega, by assumption⟩ | exact ⟨by omega, by assumption, z0⟩) ?_; conv => whnf) | (refine ifB_f (by simp) ?_; conv => whnf))
        rw [wsucc (j := i) (n := 3) (by omega) (by omega)]
        exact ⟨i + 1, [], ⟨rfl, rfl, rfl⟩, (by omega : i + 1 ≤ 3), by dsimp only; omega⟩
      · conv => whnf
        rw [wsucc (j := j) (n := 3) (by omega) (by omega)]
        exact ⟨j + 1, [], ⟨rfl, rfl, rfl⟩, (by omega : j + 1 ≤ 3), by dsimp only; omega⟩
    conv => whnf
    refine ⟨⟨[0, 1, 2, 3, 4, 5, 6, 7, 16, 17, 18, 19, 20, 21, 70, 71, 72], [(280, 280), (216, 216), (180, 180)], []⟩, rfl, ?_⟩
    first | rw [wr01] | rw [wr12] | rw [wr23]
    conv => whnf
    repeat (refine And.intro (by first | omega | (constructor <;> omega)) ?_; conv => whnf)
    refine TW.loopD ctxPl_good 0 (base := 0) (lv := [0, 1, 2, 3, 4, 5, 6, 7, 16, 17, 18, 19, 20, 21, 23, 25, 27, 28, 29, 30, 31, 32, 33, 34, 35, 36, 37, 38, 39, 57, 70, 71, 72, 73, 80, 81, 82, 83, 102, 113, 114, 115, 116, 200]) [82] [] [] (fun j : Nat => [.v (.int .i64 j)]) (fun j => []) (fun j => j ≤ 3) (fun j => 3 - j) ?_
    conv => whnf
    refine ⟨⟨0, ⟨rfl, rfl, rfl⟩, by omega⟩, fun j hj => ?_⟩
    conv => whnf
    refine ifB_dec (fun hj3 => ?_) (fun hj3 => ?_)
    · conv => whnf
      repeat (refine And.intro (by first | omega | (constructor <;> omega)) ?_; conv => whnf)
      generalize ([(v : Int), odd, IntKind.i64.wrap (3 - (v : Int))]).getD (0 + addN 0 (j : Int).toNat * (0 + 1)) 0 = W
      repeat (first | (refine ifB_f (by simp) ?_; conv => whnf) | (refine And.intro (by first | omega | exact ⟨by omega, by assumption⟩ | assumption) ?_; conv => whnf))
      refine TW.loopD ctxPl_good 0 (base := 0) (lv := [0, 1, 2, 3, 4, 5, 6, 7, 16, 17, 18, 19, 20, 21, 23, 25, 27, 28, 29, 30, 31, 32, 33, 34, 35, 36, 37, 38, 39, 57, 70, 71, 72, 73, 80, 81, 82, 83, 102, 113, 114, 115, 116, 200]) [115] [] [] (fun i : Nat => [.v (.int .i64 i)]) (fun i => []) (fun i => i ≤ 3) (fun i => 3 - i) ?_
      conv => whnf
      refine ⟨⟨0, ⟨rfl, rfl, rfl⟩, by omega⟩, fun i hi => ?_⟩
      conv => whnf
      refine ifB_dec (fun hi3 => ?_) (fun hi3 => ?_)
      · conv => whnf
        repeat (refine And.intro (by omega) ?_; conv => whnf)
        have z0 := allU_getD hZ (0 + addN 0 (i : Int).toNat * (1 + 1) + 0)
        have z1 := allU_getD hZ (0 + addN 0 (i : Int).toNat * (1 + 1) + (0 + 1))
        generalize ([key, val, keyS k, 0, keyS k, val]).getD (0 + addN 0 (i : Int).toNat * (1 + 1) + 0) 0 = Z0 at *
        generalize ([key, val, keyS k, 0, keyS k, val]).getD (0 + addN 0 (i : Int).toNat * (1 + 1) + (0 + 1)) 0 = Z1 at *
        repeat (first | (refine And.intro (by first | omega | exact ⟨by omega, by assumption⟩ | exact ⟨by omega, by assumption, z0⟩) ?_; conv => whnf) | (refine ifB_f (by simp) ?_; conv => whnf))
        rw [wsucc (j := i) (n := 3) (by omega) (by omega)]
        exact ⟨i + 1, [], ⟨rfl, rfl, rfl⟩, (by omega : i + 1 ≤ 3), by dsimp only; omega⟩
      · conv => whnf
        rw [wsucc (j := j) (n := 3) (by omega) (by omega)]
        exact ⟨j + 1, [], ⟨rfl, rfl, rfl⟩, (by omega : j + 1 ≤ 3), by dsimp only; omega⟩
    conv => whnf
    refine ⟨⟨[0, 1, 2, 3, 4, 5, 6, 7, 16, 17, 18, 19, 20, 21, 70, 71, 72], [(280, 280), (216, 216), (180, 180)], []⟩, rfl, ?_⟩
    first | rw [wr01] | rw [wr12] | rw [wr23]
    conv => whnf
    repeat' (first | exact trivial | exact rfl | (refine And.intro ?_ ?_) | ((conv => whnf); done) | ((conv => whnf); (first | rfl | (refine congrArg (fun b => T.v (Value.bool b)) ?_; first | rfl | exact (decide_eq_true (by omega)).symm | exact (decide_eq_false (by omega)).symm | exact decide_eq_decide.2 (by omega)) | (refine congrArg (fun b => T.v (Value.int _ b)) ?_; first | rfl | omega) | omega)) | (first | rfl | (refine congrArg (fun b => T.v (Value.bool b)) ?_; first | rfl | exact (decide_eq_true (by omega)).symm | exact (decide_eq_false (by omega)).symm | exact decide_eq_decide.2 (by omega)) | (refine congrArg (fun b => T.v (Value.int _ b)) ?_; first | rfl | omega) | omega))
end Go.Proofs.YtdbmbbfgcaimgaaDoor.PrT
namespace Go.Proofs.YtdbmbbfgcaimgaaDoor.PrT
open Go.RowKit Go.Proofs.YtdbmbbfgcaimgaaDoor.Am Go.Proofs.YtdbmbbfgcaimgaaDoor
set_option linter.unusedVariables false
set_option linter.unusedSimpArgs false

/-- A right table's list. -/
theorem Tb.list {n v : Nat} {t : List Int} (h : Tb n v t) (hv : v = 1 ∨ v = 2) (hn0 : 0 < n) (hn : n ≤ 1024) :
    lstP v t = sortI byK (nzs (recs n v t)) ∧ bldE n v (lstP v t) = 0 ∧ bldW n v (lstP v t) = t ∧ ((lstP v t).Pairwise fun a b => a.1 < b.1) ∧ ∀ r ∈ lstP v t, ∃ p, p < n ∧ gR (recs n v t) p = r ∧ r.1 ≠ 0 ∧ fndP v t r.1 = p := by
  obtain ⟨hr, f2, f3⟩ := h.facts hv hn0 hn
  have e : lstP v t = sortI byK (nzs (recs n v t)) := by unfold lstP; rw [if_pos hr, f2, Int.toNat_natCast]
  obtain ⟨q1, q2⟩ := (rright_is hv hn0 hn h.len h.u).2 h.ok
  rw [e]
  refine ⟨rfl, q1, q2, sortI_sorted (fun a b => rfl) h.ok.recs.nd, fun r hm => ?_⟩
  obtain ⟨h1, p, h2, h3⟩ := (In_nzs (recs_len n v t) r).2 ((sortI_mem _ _ _).1 hm)
  refine ⟨p, h2, h3, h1, ?_⟩
  unfold fndP
  rw [if_pos ⟨hr, h1⟩, f2, Int.toNat_natCast]
  exact findF_in h.ok h2 (by unfold kR; rw [h3]) h1 n _ (sP.hlt n r.1 hn0) (by rw [dist_self]; exact Nat.zero_le _) (dist_lt (sP.hlt n r.1 hn0) h2)
theorem nzs_take {T : List R} {j : Nat} (h : j < T.length) : (nzs (T.take (j + 1))).length = (nzs (T.take j)).length + if kR T j = 0 then 0 else 1 := by
  rw [take_snocR h, nzs_snoc]
  split
  · rename_i q; rw [if_pos (show kR T j = 0 from q)]; rfl
  · rename_i q; rw [if_neg (show ¬ kR T j = 0 from q)]; simp
theorem pw_lt {L : List R} (h : L.Pairwise fun a b => a.1 < b.1) {i j : Nat} (hij : i < j) (hj : j < L.length) : (gR L i).1 < (gR L j).1 := by
  have := (List.pairwise_iff_getElem.1 h) i j (by omega) hj hij
  unfold gR
  rw [List.getD_eq_getElem?_getD, List.getD_eq_getElem?_getD, List.getElem?_eq_getElem (by omega), List.getElem?_eq_getElem hj]
  exact this
attribute [local irreducible] bldE bldW putL putE delL delE lstP fndP rightB tabS keyS slN wdN ipick nzs recs
set_option maxHeartbeats 4000000 in
set_option maxRecDepth 100000 in
theorem lists07_pure (slots width : Int) (rn : Nat) (raw : List Int) (h1 : I64 slots) (h2 : I64 width) (h3 : ∀ r ∈ raw, I64 r) :
    Pure Tryd.prog glM 7 [.v (.int .i64 slots), .v (.int .i64 width), .fl [.i64] rn raw] (.v (.bool true)) := by
  refine pure_wf fun hw => ?_
  obtain ⟨-, -, ⟨w1, w2⟩, -⟩ := hw
  simp only [List.length_cons, List.length_nil, Nat.zero_add, Nat.mul_one] at w1
  obtain ⟨⟨n1, n2⟩, n3⟩ := slN_f slots
  obtain ⟨v1, v2⟩ := wdN_f width
  have hT := tabS_tb v1 (n := slN slots) (by omega) (by omega) (raw.take 14)
  refine pure_of (C := ctxPl Tryd.prog) ctxPl_good Tryd.func7 (c := bodyOf Tryd.f7) (by rfl) (Nat.le_of_ble_eq_true (by rfl)) 4 0 [0, 1, 2, 6, 7, 8, 9, 10, 11, 12, 13, 14, 15, 16, 17, 34, 43, 49, 127] ?_
  conv => whnf
  refine And.intro ⟨h1, h2, h3⟩ ?_
  conv => whnf
  generalize slN slots = n at *
  generalize wdN width = v at *
  generalize tabS n v (raw.take 14) = t at *
  have hnv : n * v ≤ 24 ∧ 1 ≤ n * v := by rcases v1 with rfl | rfl <;> omega
  have htl := hT.len
  have htu := hT.u
  obtain ⟨l1, l2, l3, l4, l5⟩ := hT.list v1 (by omega) (by omega)
  have hdv : IntKind.i64.wrap (((n * v : Nat) : Int).tdiv v) = n := by
    rw [Int.tdiv_eq_ediv_of_nonneg (by omega), ← Int.natCast_ediv, Nat.mul_div_cancel _ (by omega), wrap64 (by omega) (by omega)]
  have hTl := recs_len n v t
  have hll : (lstP v t).length = (nzs (recs n v t)).length := by rw [l1, sortI_len]
  have hkR : ∀ i, i < n → kR (recs n v t) i = t.getD (i * v) 0 := fun i hi => by unfold kR; rw [recs_get t hi]
  have hgR : ∀ i, i < n → (gR (recs n v t) i).1 = t.getD (i * v) 0 := hkR
  have hgR2 : ∀ i, i < n → v = 2 → (gR (recs n v t) i).2 = t.getD (i * v + 1) 0 := fun i hi q => by rw [recs_get t hi, if_neg (by omega)]
  generalize hLL : lstP v t = L at *
  refine And.intro ⟨by omega, htu⟩ ?_
  conv => whnf
  have hlt : ∀ i, i < n → i * v + v ≤ n * v := fun i hi => by
    have := Nat.mul_le_mul_right v (Nat.succ_le_of_lt hi); rw [Nat.succ_mul] at this; exact this
  have hwm : ∀ i, i < n → IntKind.i64.wrap ((i : Int) * v) = ((i * v : Nat) : Int) := fun i hi => by
    have := hlt i hi
    rw [← Int.natCast_mul, wrap64 (by omega) (by omega)]
  refine TW.loopD ctxPl_good 0 (base := 0) (lv := [0, 1, 2, 6, 7, 8, 9, 10, 11, 12, 13, 14, 15, 16, 17, 34, 43, 49, 127]) [11, 12] [] [] (fun x : Nat × Nat => [.v (.int .i64 x.2), .v (.int .i64 x.1)]) (fun x => []) (fun x => x.1 ≤ n ∧ x.2 = (nzs ((recs n v t).take x.1)).length ∧ x.2 ≤ x.1) (fun x => n - x.1) ?_
  conv => whnf
  refine ⟨⟨(0, 0), ⟨rfl, rfl, rfl⟩, Nat.zero_le _, by unfold nzs; rfl, Nat.le_refl _⟩, fun ⟨j, c⟩ ⟨hj, hc, hcj⟩ => ?_⟩
  replace hj : j ≤ n := hj
  replace hc : c = (nzs ((recs n v t).take j)).length := hc
  replace hcj : c ≤ j := hcj
  conv => whnf
  repeat (refine And.intro (by omega) ?_; conv => whnf)
  rw [hdv]
  refine ifB_dec (fun h => ?_) (fun h => ?_)
  · replace h : (j : Int) < n := h
    have hjl := hlt j (by omega)
    have ej : IntKind.i64.wrap ((((j, c) : Nat × Nat).1 : Int) * v) = ((j * v : Nat) : Int) := hwm j (by omega)
    have hns := nzs_take (T := recs n v t) (j := j) (by omega)
    rw [hkR j (by omega)] at hns
    conv => whnf
    rw [ej]
    repeat (refine And.intro (by omega) ?_; conv => whnf)
    rw [show 0 + addN 0 ((j * v : Nat) : Int).toNat * (0 + 1) = j * v by rw [addN_eq, Int.toNat_natCast]; omega]
    refine ifB_ne (x := t.getD (j * v) 0) (y := 0) (fun hz => ?_) (fun hz => ?_)
    · rw [if_neg hz] at hns
      conv => whnf
      rw [wsucc (j := j) (n := n) (by omega) (by omega), wsucc (j := c) (n := n) (by omega) (by omega)]
      exact ⟨(j + 1, c + 1), [], ⟨rfl, rfl, rfl⟩, ⟨(by omega : j + 1 ≤ n), by dsimp only; omega, (by omega : c + 1 ≤ j + 1)⟩, by dsimp only; omega⟩
    · rw [if_pos hz] at hns
      conv => whnf
      rw [wsucc (j := j) (n := n) (by omega) (by omega)]
      exact ⟨(j + 1, c), [], ⟨rfl, rfl, rfl⟩, ⟨(by omega : j + 1 ≤ n), by dsimp only; omega, (by omega : c ≤ j + 1)⟩, by dsimp only; omega⟩
  · replace h : ¬ (j : Int) < n := h
    have hjn : j = n := by omega
    subst hjn
    rw [List.take_of_length_le (by omega), ← hll] at hc
    subst hc
    conv => whnf
    refine TW.loopD ctxPl_good 0 (base := 0) (lv := [0, 1, 2, 6, 7, 8, 9, 10, 11, 12, 13, 14, 15, 16, 17, 34, 43, 49, 127]) [13] [] [] (fun i : Nat => [.v (.int .i64 i)]) (fun i => []) (fun i => i ≤ L.length) (fun i => L.length - i) ?_
    conv => whnf
    refine ⟨⟨0, ⟨rfl, rfl, rfl⟩, Nat.zero_le _⟩, fun i hi => ?_⟩
    conv => whnf
    refine ifB_dec (fun h => ?_) (fun h => ?_)
    · replace h : (i : Int) < L.length := h
      obtain ⟨p, p1, p2, p3, p4⟩ := l5 (gR L i) (gR_mem (by omega))
      have hpl := hlt p p1
      have hpm := hwm p p1
      conv => whnf
      repeat (refine And.intro (by omega) ?_; conv => whnf)
      refine And.intro ⟨by omega, htu⟩ ?_
      conv => whnf
      have E0 : (flat 2 L).getD (0 + addN 0 (i : Int).toNat * (1 + 1)) 0 = (gR L i).1 := by
        rw [addN_eq, show 0 + (0 + (i : Int).toNat) * (1 + 1) = i * 2 by omega]; exact flat_key (.inr rfl) L (by omega)
      rw [E0, p4, if_neg (by omega), decide_eq_true (by omega : (0 : Int) ≤ (p : Int))]
      have G1 : (gR L i).1 = t.getD (p * v) 0 := by rw [← p2]; exact hgR p p1
      have G2 : v = 2 → (gR L i).2 = t.getD (p * v + 1) 0 := fun q => by rw [← p2]; exact hgR2 p p1 q
      have E1 : (flat 2 L).getD (0 + 1 + addN 0 (i : Int).toNat * (1 + 1)) 0 = (gR L i).2 := by
        rw [addN_eq, show 0 + 1 + (0 + (i : Int).toNat) * (1 + 1) = i * 2 + 1 by omega]; exact flat_val L (by omega)
      have I1 : 0 + addN 0 ((p * v : Nat) : Int).toNat * (0 + 1) = p * v := by rw [addN_eq, Int.toNat_natCast]; omega
      have I2 : 0 + addN 0 ((p * v + 1 : Nat) : Int).toNat * (0 + 1) = p * v + 1 := by rw [addN_eq, Int.toNat_natCast]; omega
      have hp1 : IntKind.i64.wrap (((p * v : Nat) : Int) + 1) = ((p * v + 1 : Nat) : Int) := by rw [wrap64 (by omega) (by omega)]; omega
      conv => whnf
      rw [hpm]
      refine ifB_f (decide_eq_false (by omega)) ?_
      conv => whnf
      rw [hpm]
      repeat (refine And.intro (by omega) ?_; conv => whnf)
      rw [I1, E0, G1]
      refine ifB_f (by simp) ?_
      conv => whnf
      refine ifB_eq (fun hv => ?_) (fun hv => ?_)
      · conv => whnf
        repeat (first | (refine And.intro (by omega) ?_; conv => whnf) | rw [hpm] | rw [hp1])
        rw [I2, E1, G2 (by omega)]
        refine ifB_f (by simp) ?_
        conv => whnf
        refine ifB_dec (fun h0 => ?_) (fun h0 => ?_)
        · replace h0 : (i : Int) > 0 := h0
          have ei : IntKind.i64.wrap ((i : Int) - 1) = ((i - 1 : Nat) : Int) := by rw [wrap64 (by omega) (by omega)]; omega
          have E2 : (flat 2 L).getD (0 + addN 0 ((i - 1 : Nat) : Int).toNat * (1 + 1)) 0 = (gR L (i - 1)).1 := by
            rw [addN_eq, show 0 + (0 + ((i - 1 : Nat) : Int).toNat) * (1 + 1) = (i - 1) * 2 by omega]; exact flat_key (.inr rfl) L (by omega)
          have hlt2 := pw_lt l4 (i := i - 1) (j := i) (by omega) (by omega)
          conv => whnf
          repeat (first | (refine And.intro (by omega) ?_; conv => whnf) | rw [ei])
          rw [E2, E0]
          refine ifB_f (decide_eq_false (by omega)) ?_
          conv => whnf
          rw [wsucc (j := i) (n := L.length) (by omega) (by omega)]
          exact ⟨i + 1, [], ⟨rfl, rfl, rfl⟩, (by omega : i + 1 ≤ L.length), by dsimp only; omega⟩
        · conv => whnf
          rw [wsucc (j := i) (n := L.length) (by omega) (by omega)]
          exact ⟨i + 1, [], ⟨rfl, rfl, rfl⟩, (by omega : i + 1 ≤ L.length), by dsimp only; omega⟩
      · conv => whnf
        refine ifB_dec (fun h0 => ?_) (fun h0 => ?_)
        · replace h0 : (i : Int) > 0 := h0
          have ei : IntKind.i64.wrap ((i : Int) - 1) = ((i - 1 : Nat) : Int) := by rw [wrap64 (by omega) (by omega)]; omega
          have E2 : (flat 2 L).getD (0 + addN 0 ((i - 1 : Nat) : Int).toNat * (1 + 1)) 0 = (gR L (i - 1)).1 := by
            rw [addN_eq, show 0 + (0 + ((i - 1 : Nat) : Int).toNat) * (1 + 1) = (i - 1) * 2 by omega]; exact flat_key (.inr rfl) L (by omega)
          have hlt2 := pw_lt l4 (i := i - 1) (j := i) (by omega) (by omega)
          conv => whnf
          repeat (first | (refine And.intro (by omega) ?_; conv => whnf) | rw [ei])
          rw [E2, E0]
          refine ifB_f (decide_eq_false (by omega)) ?_
          conv => whnf
          rw [wsucc (j := i) (n := L.length) (by omega) (by omega)]
          exact ⟨i + 1, [], ⟨rfl, rfl, rfl⟩, (by omega : i + 1 ≤ L.length), by dsimp only; omega⟩
        · conv => whnf
          rw [wsucc (j := i) (n := L.length) (by omega) (by omega)]
          exact ⟨i + 1, [], ⟨rfl, rfl, rfl⟩, (by omega : i + 1 ≤ L.length), by dsimp only; omega⟩
    · replace h : ¬ (i : Int) < L.length := h
      conv => whnf
      repeat (refine And.intro (by omega) ?_; conv => whnf)
      rw [hdv]
      refine And.intro ⟨by omega, fun r hr => ?_⟩ ?_
      · rw [show recs L.length 2 (flat 2 L) = L from recs_flat (.inr rfl) rfl (fun q => by cases q)] at hr
        obtain ⟨p, p1, p2, -⟩ := l5 r hr
        rw [sP_U, ← p2, hgR p p1]
        exact allU_getD htu _
      conv => whnf
      rw [show recs L.length 2 (flat 2 L) = L from recs_flat (.inr rfl) rfl (fun q => by cases q), l2, l3]
      refine ifB_t (by simp) ?_
      conv => whnf
      repeat (refine And.intro (by omega) ?_; conv => whnf)
      exact congrArg (fun b => Am.T.v (Value.bool b)) (by simp)
end Go.Proofs.YtdbmbbfgcaimgaaDoor.PrT
namespace Go.Proofs.YtdbmbbfgcaimgaaDoor.PrT
open Go.RowKit Go.Proofs.YtdbmbbfgcaimgaaDoor.Am Go.Proofs.YtdbmbbfgcaimgaaDoor
set_option linter.unusedVariables false
set_option linter.unusedSimpArgs false

theorem recs_key {m : Nat} {xs : List Int} (h : AllU xs) : ∀ r ∈ recs m 2 xs, sP.U r.1 := fun r hr => by rw [sP_U]; exact (recs_u h r hr).1
attribute [local irreducible] bldE bldW putL putE delL delE lstP fndP rightB tabS keyS slN wdN ipick nzs recs
set_option maxHeartbeats 4000000 in
set_option maxRecDepth 100000 in
theorem builds07_pure (slots width : Int) (ln : Nat) (l : List Int) (rn : Nat) (raw : List Int) (h1 : I64 slots) (h2 : I64 width) (h3 : ∀ r ∈ raw, I64 r) (h4 : AllU l) :
    Pure Tryd.prog glM 4 [.v (.int .i64 slots), .v (.int .i64 width), .fl [.u64, .u64] ln l, .fl [.i64] rn raw] (.v (.bool true)) := by
  refine pure_wf fun hw => ?_
  obtain ⟨-, -, ⟨w3, w4⟩, ⟨w1, w2⟩, -⟩ := hw
  simp only [List.length_cons, List.length_nil, Nat.zero_add, Nat.mul_one] at w1 w3
  refine pure_of (C := ctxPl Tryd.prog) ctxPl_good Tryd.func4 (c := bodyOf Tryd.f4) (by rfl) (Nat.le_of_ble_eq_true (by rfl)) 4 0 [0, 1, 2, 3, 8, 9, 10, 11, 12, 14, 16, 17, 18, 19, 20, 34, 67, 68, 69, 70, 80, 83, 84, 85, 86, 115] ?_
  conv => whnf
  obtain ⟨c, hc, hcn, hc60⟩ : ∃ c : Nat, (if (20 : Int) < (ln : Int) then (20 : Int) else (ln : Int)) = (c : Int) ∧ c ≤ ln ∧ c ≤ 20 := ⟨min ln 20, by split <;> omega, by omega, by omega⟩
  have hx : cutN (1 + 1) none (some (c : Int)) l = l.take (c * 2) := rfl
  have hxl : cutL ln none (some (c : Int)) = c := rfl
  have hxu := allU_take h4 (c * 2)
  have hxn : (l.take (c * 2)).length = c * 2 := by rw [List.length_take]; omega
  rw [hc, hx, hxl]
  generalize l.take (c * 2) = xs at *
  refine And.intro (by omega) ?_
  conv => whnf
  refine TW.nilOwn 11 5000 2 (.fl [.u64, .u64] []) rfl rfl (.inr ⟨_, _, rfl⟩) (by decide) ?_
  refine TW.loopD ctxPl_good 0 (base := 0) (lv := [0, 1, 2, 3, 8, 9, 10, 11, 12, 14, 16, 17, 18, 19, 20, 34, 67, 68, 69, 70, 80, 83, 84, 85, 86, 115]) [11, 12] [5000] [(5000, 5000)] (fun x : Nat × List R => [.ow 5000 2 x.2.length, .v (.int .i64 x.1)]) (fun x => [.fl [.u64, .u64] (flat 2 x.2)]) (fun x => (x.1 ≤ rn ∧ x.1 ≤ 12) ∧ x.2.length = x.1 ∧ ∀ r ∈ x.2, U64 r.1) (fun x => rn - x.1) ?_
  conv => whnf
  refine ⟨⟨(0, []), ⟨rfl, rfl, rfl⟩, ⟨Nat.zero_le _, Nat.zero_le _⟩, rfl, fun r hr => (by cases hr)⟩, fun ⟨j, Y⟩ ⟨⟨hj, hj2⟩, hY, hYu⟩ => ?_⟩
  replace hj : j ≤ rn := hj
  replace hj2 : j ≤ 12 := hj2
  replace hY : Y.length = j := hY
  replace hYu : ∀ r ∈ Y, U64 r.1 := hYu
  conv => whnf
  refine ifB_dec (fun h => ?_) (fun h => ?_)
  · replace h : (j : Int) < rn := h
    conv => whnf
    refine ifB_dec (fun h5 => ?_) (fun h5 => ?_)
    · replace h5 : (j : Int) < 12 := h5
      have hrj : I64 (raw.getD j 0) := h3 _ (by rw [List.getD_eq_getElem?_getD, List.getElem?_eq_getElem (by omega)]; exact List.getElem_mem (by omega))
      obtain ⟨k1, k2⟩ := keyS_facts (raw.getD j 0)
      have E0 : 0 + (((j, Y) : Nat × List R).1 : Int).toNat * (0 + 1) = j := by dsimp only; omega
      conv => whnf
      repeat (refine And.intro (by first | omega | (dsimp only; omega)) ?_; conv => whnf)
      rw [E0]
      refine And.intro hrj ?_
      conv => whnf
      refine And.intro ⟨h2, by omega, by omega⟩ ?_
      conv => whnf
      repeat (refine And.intro (by first | omega | (show Y.length + 1 ≤ 1099511627776; omega)) ?_; conv => whnf)
      rw [wsucc (j := j) (n := rn) (by omega) w2]
      generalize IntKind.u64.wrap (IntKind.u64.wrap (ipick width 2) * IntKind.u64.wrap ((((j, Y) : Nat × List R).1 : Int))) = B
      refine ⟨(j + 1, Y ++ [(keyS (raw.getD j 0), B)]), [(204, 5000)], ⟨rfl, ?_, ?_⟩, ⟨⟨(by omega : j + 1 ≤ rn), (by omega : j + 1 ≤ 12)⟩, by dsimp only; rw [List.length_append]; simp; omega, fun r hr => ?_⟩, by dsimp only; omega⟩
      · show _ = (11, Am.T.ow 5000 2 (Y ++ [(keyS (raw.getD j 0), B)]).length) :: _
        rw [List.length_append]; rfl
      · show _ = (5000, Blk.fl [.u64, .u64] (flat 2 (Y ++ [(keyS (raw.getD j 0), B)]))) :: _
        rw [flat_append]; rfl
      · rcases List.mem_append.1 hr with q | q
        · exact hYu r q
        · rw [List.mem_singleton.1 q]; exact k1
    · conv => whnf
      have hrY : recs Y.length 2 (flat 2 Y) = Y := recs_flat (.inr rfl) rfl (fun q => by cases q)
      have hYk : ∀ r ∈ Y, sP.U r.1 := fun r hr => by rw [sP_U]; exact hYu r hr
      have hxk : ∀ r ∈ recs c 2 xs, sP.U r.1 := recs_key hxu
      repeat (refine And.intro (by first | omega | exact ⟨h1, by omega, by omega⟩ | exact ⟨h2, by omega, by omega⟩) ?_; conv => whnf)
      refine TW.loopD ctxPl_good 0 (base := 0) (lv := [0, 1, 2, 3, 8, 9, 10, 11, 12, 14, 16, 17, 18, 19, 20, 34, 67, 68, 69, 70, 80, 83, 84, 85, 86, 115]) [69] [] [] (fun q : Nat => [.v (.int .i64 q)]) (fun q => []) (fun q => q ≤ 3) (fun q => 3 - q) ?_
      conv => whnf
      refine ⟨⟨0, ⟨rfl, rfl, rfl⟩, by omega⟩, fun q hq => ?_⟩
      replace hq : q ≤ 3 := hq
      conv => whnf
      refine ifB_dec (fun hq3 => ?_) (fun hq3 => ?_)
      · have hend : IntKind.i64.wrap ((q : Int) + 1) = ((q + 1 : Nat) : Int) := wsucc (j := q) (n := 3) (by omega) (by omega)
        conv => whnf
        repeat (refine And.intro (by omega) ?_; conv => whnf)
        generalize ([slots, width, IntKind.i64.wrap (1 + ipick slots 20), IntKind.i64.wrap (1 + ipick width 2), IntKind.i64.wrap (1 + ipick slots 20), width] : List Int).getD (0 + addN 0 (q : Int).toNat * (1 + 1) + 0) 0 = N0
        generalize ([slots, width, IntKind.i64.wrap (1 + ipick slots 20), IntKind.i64.wrap (1 + ipick width 2), IntKind.i64.wrap (1 + ipick slots 20), width] : List Int).getD (0 + addN 0 (q : Int).toNat * (1 + 1) + (0 + 1)) 0 = N1
        refine ifB_dec (fun hN => ?_) (fun hN => ?_)
        · conv => whnf
          repeat (refine And.intro (by omega) ?_; conv => whnf)
          refine ifB_dec (fun hM => ?_) (fun hM => ?_)
          · conv => whnf
            rw [hend]
            exact ⟨q + 1, [], ⟨rfl, rfl, rfl⟩, (by omega : q + 1 ≤ 3), by dsimp only; omega⟩
          · conv => whnf
            refine TW.roundsV ctxPl_good 0 (base := 0) (lv := [0, 1, 2, 3, 8, 9, 10, 11, 12, 14, 16, 17, 18, 19, 20, 34, 67, 68, 69, 70, 80, 83, 84, 85, 86, 115]) 3 ?_
            conv => whnf
            repeat (first | (refine And.intro (by first | omega | exact ⟨by omega, hxk⟩) ?_; conv => whnf) | (refine ifB_f (by simp) ?_; conv => whnf))
            refine ⟨⟨[0, 1, 2, 3, 8, 9, 10, 11, 12, 14, 34, 67, 68, 69, 83, 84, 85], [(268, 268), (56, 56), (332, 332), (5000, 5000)], []⟩, rfl, ?_⟩
            rw [wr01]
            conv => whnf
            repeat (first | (refine And.intro (by first | omega | (rw [hrY]; exact ⟨by omega, hYk⟩)) ?_; conv => whnf) | (refine ifB_f (by simp) ?_; conv => whnf))
            refine ⟨⟨[0, 1, 2, 3, 8, 9, 10, 11, 12, 14, 34, 67, 68, 69, 83, 84, 85], [(268, 268), (56, 56), (332, 332), (5000, 5000)], []⟩, rfl, ?_⟩
            rw [wr12]
            conv => whnf
            rw [hend]
            exact ⟨q + 1, [], ⟨rfl, rfl, rfl⟩, (by omega : q + 1 ≤ 3), by dsimp only; omega⟩
        · conv => whnf
          refine TW.roundsV ctxPl_good 0 (base := 0) (lv := [0, 1, 2, 3, 8, 9, 10, 11, 12, 14, 16, 17, 18, 19, 20, 34, 67, 68, 69, 70, 80, 83, 84, 85, 86, 115]) 3 ?_
          conv => whnf
          repeat (first | (refine And.intro (by first | omega | exact ⟨by omega, hxk⟩) ?_; conv => whnf) | (refine ifB_f (by simp) ?_; conv => whnf))
          refine ⟨⟨[0, 1, 2, 3, 8, 9, 10, 11, 12, 14, 34, 67, 68, 69, 83, 84, 85], [(268, 268), (56, 56), (332, 332), (5000, 5000)], []⟩, rfl, ?_⟩
          rw [wr01]
          conv => whnf
          repeat (first | (refine And.intro (by first | omega | (rw [hrY]; exact ⟨by omega, hYk⟩)) ?_; conv => whnf) | (refine ifB_f (by simp) ?_; conv => whnf))
          refine ⟨⟨[0, 1, 2, 3, 8, 9, 10, 11, 12, 14, 34, 67, 68, 69, 83, 84, 85], [(268, 268), (56, 56), (332, 332), (5000, 5000)], []⟩, rfl, ?_⟩
          rw [wr12]
          conv => whnf
          rw [hend]
          exact ⟨q + 1, [], ⟨rfl, rfl, rfl⟩, (by omega : q + 1 ≤ 3), by dsimp only; omega⟩
      conv => whnf
  · conv => whnf
    have hrY : recs Y.length 2 (flat 2 Y) = Y := recs_flat (.inr rfl) rfl (fun q => by cases q)
    have hYk : ∀ r ∈ Y, sP.U r.1 := fun r hr => by rw [sP_U]; exact hYu r hr
    have hxk : ∀ r ∈ recs c 2 xs, sP.U r.1 := recs_key hxu
    repeat (refine And.intro (by first | omega | exact ⟨h1, by omega, by omega⟩ | exact ⟨h2, by omega, by omega⟩) ?_; conv => whnf)
    refine TW.loopD ctxPl_good 0 (base := 0) (lv := [0, 1, 2, 3, 8, 9, 10, 11, 12, 14, 16, 17, 18, 19, 20, 34, 67, 68, 69, 70, 80, 83, 84, 85, 86, 115]) [69] [] [] (fun q : Nat => [.v (.int .i64 q)]) (fun q => []) (fun q => q ≤ 3) (fun q => 3 - q) ?_
    conv => whnf
    refine ⟨⟨0, ⟨rfl, rfl, rfl⟩, by omega⟩, fun q hq => ?_⟩
    replace hq : q ≤ 3 := hq
    conv => whnf
    refine ifB_dec (fun hq3 => ?_) (fun hq3 => ?_)
    · have hend : IntKind.i64.wrap ((q : Int) + 1) = ((q + 1 : Nat) : Int) := wsucc (j := q) (n := 3) (by omega) (by omega)
      conv => whnf
      repeat (refine And.intro (by omega) ?_; conv => whnf)
      generalize ([slots, width, IntKind.i64.wrap (1 + ipick slots 20), IntKind.i64.wrap (1 + ipick width 2), IntKind.i64.wrap (1 + ipick slots 20), width] : List Int).getD (0 + addN 0 (q : Int).toNat * (1 + 1) + 0) 0 = N0
      generalize ([slots, width, IntKind.i64.wrap (1 + ipick slots 20), IntKind.i64.wrap (1 + ipick width 2), IntKind.i64.wrap (1 + ipick slots 20), width] : List Int).getD (0 + addN 0 (q : Int).toNat * (1 + 1) + (0 + 1)) 0 = N1
      refine ifB_dec (fun hN => ?_) (fun hN => ?_)
      · conv => whnf
        repeat (refine And.intro (by omega) ?_; conv => whnf)
        refine ifB_dec (fun hM => ?_) (fun hM => ?_)
        · conv => whnf
          rw [hend]
          exact ⟨q + 1, [], ⟨rfl, rfl, rfl⟩, (by omega : q + 1 ≤ 3), by dsimp only; omega⟩
        · conv => whnf
          refine TW.roundsV ctxPl_good 0 (base := 0) (lv := [0, 1, 2, 3, 8, 9, 10, 11, 12, 14, 16, 17, 18, 19, 20, 34, 67, 68, 69, 70, 80, 83, 84, 85, 86, 115]) 3 ?_
          conv => whnf
          repeat (first | (refine And.intro (by first | omega | exact ⟨by omega, hxk⟩) ?_; conv => whnf) | (refine ifB_f (by simp) ?_; conv => whnf))
          refine ⟨⟨[0, 1, 2, 3, 8, 9, 10, 11, 12, 14, 34, 67, 68, 69, 83, 84, 85], [(268, 268), (56, 56), (332, 332), (5000, 5000)], []⟩, rfl, ?_⟩
          rw [wr01]
          conv => whnf
          repeat (first | (refine And.intro (by first | omega | (rw [hrY]; exact ⟨by omega, hYk⟩)) ?_; conv => whnf) | (refine ifB_f (by simp) ?_; conv => whnf))
          refine ⟨⟨[0, 1, 2, 3, 8, 9, 10, 11, 12, 14, 34, 67, 68, 69, 83, 84, 85], [(268, 268), (56, 56), (332, 332), (5000, 5000)], []⟩, rfl, ?_⟩
          rw [wr12]
          conv => whnf
          rw [hend]
          exact ⟨q + 1, [], ⟨rfl, rfl, rfl⟩, (by omega : q + 1 ≤ 3), by dsimp only; omega⟩
      · conv => whnf
        refine TW.roundsV ctxPl_good 0 (base := 0) (lv := [0, 1, 2, 3, 8, 9, 10, 11, 12, 14, 16, 17, 18, 19, 20, 34, 67, 68, 69, 70, 80, 83, 84, 85, 86, 115]) 3 ?_
        conv => whnf
        repeat (first | (refine And.intro (by first | omega | exact ⟨by omega, hxk⟩) ?_; conv => whnf) | (refine ifB_f (by simp) ?_; conv => whnf))
        refine ⟨⟨[0, 1, 2, 3, 8, 9, 10, 11, 12, 14, 34, 67, 68, 69, 83, 84, 85], [(268, 268), (56, 56), (332, 332), (5000, 5000)], []⟩, rfl, ?_⟩
        rw [wr01]
        conv => whnf
        repeat (first | (refine And.intro (by first | omega | (rw [hrY]; exact ⟨by omega, hYk⟩)) ?_; conv => whnf) | (refine ifB_f (by simp) ?_; conv => whnf))
        refine ⟨⟨[0, 1, 2, 3, 8, 9, 10, 11, 12, 14, 34, 67, 68, 69, 83, 84, 85], [(268, 268), (56, 56), (332, 332), (5000, 5000)], []⟩, rfl, ?_⟩
        rw [wr12]
        conv => whnf
        rw [hend]
        exact ⟨q + 1, [], ⟨rfl, rfl, rfl⟩, (by omega : q + 1 ≤ 3), by dsimp only; omega⟩
    conv => whnf
end Go.Proofs.YtdbmbbfgcaimgaaDoor.PrT
