/- The document's Then. -/
import Derived.Test.YteinekidpokbpaaDfF
namespace Go.Proofs.Yteinekidpokbpaa.DfT
open Go.RowKit Go.Proofs.Yteinekidpokbpaa.Am Go.Proofs.Yteinekidpokbpaa Go.Proofs.Yteinekidpokbpaa.PrT
set_option linter.unusedVariables false
set_option linter.unusedSimpArgs false

theorem insA_step (p : R → R → Bool) (out : List R) (x : R) (a : Nat) : insA p out x (a + 1) = if p x (gR out a) = true then insA p out x a else a + 1 := rfl
theorem flat_cut {w : Nat} (hw : w = 1 ∨ w = 2) (U : List R) {a : Nat} (ha : a ≤ U.length) : (flat w U).take (a * w) = flat w (U.take a) ∧ (flat w U).drop (a * w) = flat w (U.drop a) := by
  have e : flat w U = flat w (U.take a) ++ flat w (U.drop a) := by rw [← flat_append, List.take_append_drop]
  have l : (flat w (U.take a)).length = a * w := by rw [flat_len hw, List.length_take, Nat.min_eq_left ha]
  rw [e, ← l]
  exact ⟨List.take_left, List.drop_left⟩
theorem ins_row (U : List R) (x : R) (a : Nat) (ha : a ≤ U.length) : List.take (mulN (cutL U.length none (some (a : Int))) (1 + 1)) (List.drop (mulN (addN 0 (loN none)) (1 + 1)) (flat 2 U)) ++ [x.1, x.2] ++ List.take (mulN (cutL U.length (some (a : Int)) none) (1 + 1)) (List.drop (mulN (addN 0 (loN (some (a : Int)))) (1 + 1)) (flat 2 U)) = flat 2 (U.take a ++ x :: U.drop a) := by
  obtain ⟨c1, c2⟩ := flat_cut (.inr rfl) U ha
  rw [mulN_eq, mulN_eq, mulN_eq, mulN_eq, addN_eq, addN_eq, flat_append, flat_cons]
  show List.take (a * 2) (List.drop ((0 + 0) * 2) (flat 2 U)) ++ [x.1, x.2] ++ List.take ((U.length - a) * 2) (List.drop ((0 + a) * 2) (flat 2 U)) = _
  rw [show (0 + 0) * 2 = 0 from rfl, List.drop_zero, c1, Nat.zero_add, c2, List.append_assoc]
  congr 1
  have l2 : (flat 2 (U.drop a)).length = (U.length - a) * 2 := by rw [flat_len (.inr rfl), List.length_drop]
  rw [List.take_of_length_le (by omega)]; rfl
def lastTo (all : List R) (i k : Nat) : Bool := (List.range k).all fun q => !(decide (i < q) && kR all q == kR all i)
theorem lastTo_all (all : List R) (i : Nat) : lastI all i = lastTo all i all.length := rfl
theorem lastTo_start (all : List R) (i : Nat) : lastTo all i (i + 1) = true := by
  unfold lastTo; rw [List.all_eq_true]
  intro q hq
  have := List.mem_range.1 hq
  simp; omega
theorem lastTo_succ {all : List R} {i k : Nat} (h : i < k) : lastTo all i (k + 1) = (lastTo all i k && !(kR all k == kR all i)) := by
  unfold lastTo; rw [List.range_succ, List.all_append]; simp [h]
theorem recs_app {n m : Nat} {xs ys : List Int} (hx : xs.length = n * 2) (hy : ys.length = m * 2) : recs (n + m) 2 (xs ++ ys) = recs n 2 xs ++ recs m 2 ys := by
  refine flat_inj (.inr rfl) (fun q => by cases q) (fun q => by cases q) ?_
  rw [flat_recs (.inr rfl) (by rw [List.length_append]; omega), flat_append, flat_recs (.inr rfl) hx, flat_recs (.inr rfl) hy]
attribute [local irreducible] recs lasts sortI insL insA lastTo
set_option maxHeartbeats 2000000 in
set_option maxRecDepth 100000 in
theorem rthen_pure (n m : Nat) (xs ys : List Int) (hn : n ≤ 4096) (hm : m ≤ 4096) : Pure Try.prog glR 21 [.fl [.i64, .u64] n xs, .fl [.i64, .u64] m ys] (.ow 0 2 (thn (recs n 2 xs) (recs m 2 ys)).length) [(0, .fl [.i64, .u64] (flat 2 (thn (recs n 2 xs) (recs m 2 ys))))] := by
  refine pure_wf fun hw => ?_
  obtain ⟨⟨w1, w2⟩, ⟨w3, w4⟩, -⟩ := hw
  simp only [List.length_cons, List.length_nil, Nat.zero_add, Nat.mul_one] at w1 w3
  unfold thn
  rw [← recs_app w1 w3]
  have hLl := recs_len (n + m) 2 (xs ++ ys)
  have hLg : ∀ j, j < n + m → gR (recs (n + m) 2 (xs ++ ys)) j = ((xs ++ ys).getD (j * 2) 0, (xs ++ ys).getD (j * 2 + 1) 0) := fun j hj => recs2_get hj
  have hZl : (xs ++ ys).length = (n + m) * 2 := by rw [List.length_append]; omega
  generalize recs (n + m) 2 (xs ++ ys) = L at *
  rw [hLl]
  refine pure_of (C := ctx0 Try.prog) ctx0_good Try.func21 (c := bodyOf Try.f21) (by rfl) (Nat.le_of_ble_eq_true (by rfl)) 4 0 [0, 1, 4, 5, 6, 7, 8, 9, 10, 18, 26, 44, 62] ?_
  conv => whnf
  refine And.intro (show n * 16 ≤ 140737488355328 by omega) ?_
  conv => whnf
  refine And.intro (show n + m ≤ 1099511627776 by omega) ?_
  conv => whnf
  have ht2 : n + m ≤ 8192 := by omega
  generalize xs ++ ys = zs at *
  generalize n + m = t at *
  refine TW.nilOwn 6 5000 2 (.fl [.i64, .u64] []) rfl rfl (.inr ⟨_, _, rfl⟩) (by decide) ?_
  refine TW.loopD ctx0_good 0 (base := 0) (lv := [0, 1, 4, 5, 6, 7, 8, 9, 10, 18, 26, 44, 62]) [6, 7] [5000] [(5000, 5000)] (fun x : Nat × List R => [.ow 5000 2 x.2.length, .v (.int .i64 x.1)]) (fun x => [.fl [.i64, .u64] (flat 2 x.2)]) (fun x => x.1 ≤ t ∧ x.2 = sortI byK (lasts L x.1) ∧ x.2.length ≤ x.1) (fun x => t - x.1) ?_
  conv => whnf
  refine ⟨⟨(0, []), ⟨rfl, rfl, rfl⟩, Nat.zero_le _, by unfold sortI lasts; rfl, Nat.le_refl _⟩, fun ⟨j, U⟩ ⟨hj, hU, hUl⟩ => ?_⟩
  replace hj : j ≤ t := hj
  replace hU : U = sortI byK (lasts L j) := hU
  replace hUl : U.length ≤ j := hUl
  conv => whnf
  refine ifB_dec (fun h => ?_) (fun h => ?_)
  · replace h : (j : Int) < t := h
    have hLj := hLg j (by omega)
    have hla := lasts_succ L j
    rw [lastTo_all, hLl] at hla
    conv => whnf
    rw [wsucc (j := j) (n := t) (by omega) (by omega)]
    refine TW.loopD ctx0_good 0 (base := 0) (lv := [0, 1, 4, 5, 6, 7, 8, 9, 10, 18, 26, 44, 62]) [8, 9] [] [] (fun x : Nat × Bool => [.v (.bool x.2), .v (.int .i64 x.1)]) (fun x => []) (fun x => x.1 ≤ t ∧ j < x.1 ∧ x.2 = lastTo L j x.1) (fun x => t - x.1) ?_
    conv => whnf
    refine ⟨⟨(j + 1, true), ⟨rfl, rfl, rfl⟩, (by omega : j + 1 ≤ t), Nat.lt_succ_self _, (lastTo_start L j).symm⟩, fun ⟨k, b⟩ ⟨hk, hjk, hb⟩ => ?_⟩
    replace hk : k ≤ t := hk
    replace hjk : j < k := hjk
    replace hb : b = lastTo L j k := hb
    conv => whnf
    refine ifB_dec (fun h0 => ?_) (fun h0 => ?_)
    · replace h0 : (k : Int) < t := h0
      have hLk := hLg k (by omega)
      have hls := lastTo_succ (all := L) hjk
      rw [← hb] at hls
      cases b
      · conv => whnf
        rw [wsucc (j := k) (n := t) (by omega) (by omega)]
        refine ⟨(k + 1, false), [], ⟨rfl, rfl, rfl⟩, ⟨(by omega : k + 1 ≤ t), (by omega : j < k + 1), hls.symm⟩, by dsimp only; omega⟩
      · conv => whnf
        repeat (refine And.intro (by first | omega | (dsimp only; omega)) ?_; conv => whnf)
        have E0 : zs.getD (0 + addN 0 (((k, true) : Nat × Bool).1 : Int).toNat * (1 + 1)) 0 = kR L k := by
          unfold kR; rw [hLk, addN_eq, show 0 + (0 + (((k, true) : Nat × Bool).1 : Int).toNat) * (1 + 1) = k * 2 by dsimp only; omega]
        have E1 : zs.getD (0 + addN 0 (((j, U) : Nat × List R).1 : Int).toNat * (1 + 1)) 0 = kR L j := by
          unfold kR; rw [hLj, addN_eq, show 0 + (0 + (((j, U) : Nat × List R).1 : Int).toNat) * (1 + 1) = j * 2 by dsimp only; omega]
        rw [E0, E1, wsucc (j := k) (n := t) (by omega) (by omega)]
        exact ⟨(k + 1, kR L k != kR L j), [], ⟨rfl, rfl, rfl⟩, ⟨(by omega : k + 1 ≤ t), (by omega : j < k + 1), hls.symm⟩, by dsimp only; omega⟩
    · replace h0 : ¬ (k : Int) < t := h0
      obtain rfl : k = t := by omega
      rw [← hb] at hla
      cases b
      · rw [if_neg (by decide)] at hla
        conv => whnf
        rw [wsucc (j := j) (n := k) (by omega) (by omega)]
        refine ⟨(j + 1, U), [(5000, 5000)], ⟨rfl, rfl, rfl⟩, ⟨(by omega : j + 1 ≤ k), ?_, by dsimp only; omega⟩, by dsimp only; omega⟩
        dsimp only; rw [hla, hU]
      · rw [if_pos rfl] at hla
        have hU2 : sortI byK (lasts L (j + 1)) = insL byK U (gR L j) := by rw [hla, sortI_snoc, hU]
        conv => whnf
        refine TW.loopD ctx0_good 0 (base := 0) (lv := [0, 1, 4, 5, 6, 7, 8, 9, 10, 18, 26, 44, 62]) [10] [] [] (fun a : Nat => [.v (.int .i64 a)]) (fun a => []) (fun a => a ≤ U.length ∧ insA byK U (gR L j) a = insA byK U (gR L j) U.length) (fun a => a) ?_
        conv => whnf
        refine ⟨⟨U.length, ⟨rfl, rfl, rfl⟩, Nat.le_refl _, rfl⟩, fun a ⟨ha, hI⟩ => ?_⟩
        conv => whnf
        refine ifB_dec (fun h1 => ?_) (fun h1 => ?_)
        · obtain ⟨b, rfl⟩ : ∃ b, a = b + 1 := ⟨a - 1, by omega⟩
          have eb : IntKind.i64.wrap (((b + 1 : Nat) : Int) - 1) = (b : Int) := by rw [wrap64 (by omega) (by omega)]; omega
          conv => whnf
          repeat (refine And.intro (by first | omega | (dsimp only; omega)) ?_; conv => whnf)
          have e1 : zs.getD (0 + addN 0 (((j, U) : Nat × List R).1 : Int).toNat * (1 + 1)) 0 = (gR L j).1 := by
            rw [hLj, addN_eq, show 0 + (0 + (((j, U) : Nat × List R).1 : Int).toNat) * (1 + 1) = j * 2 by dsimp only; omega]
          have e2 : (flat 2 ((j, U) : Nat × List R).2).getD (0 + addN 0 (IntKind.i64.wrap (((b + 1 : Nat) : Int) - 1)).toNat * (1 + 1)) 0 = (gR U b).1 := by
            rw [eb, addN_eq, show 0 + (0 + (b : Int).toNat) * (1 + 1) = b * 2 by omega]
            exact flat_key (.inr rfl) U (by omega)
          rw [e1, e2]
          have hst := insA_step byK U (gR L j) b
          refine ifB_mk (fun hb => ?_) (fun hb => ?_)
          · replace hb : byK (gR L j) (gR U b) = true := hb
            rw [if_pos hb] at hst
            conv => whnf
            rw [eb]
            exact ⟨b, [], ⟨rfl, rfl, rfl⟩, ⟨(by omega : b ≤ U.length), hst.symm.trans hI⟩, by dsimp only; omega⟩
          · replace hb : byK (gR L j) (gR U b) = false := hb
            rw [hb, if_neg (by decide)] at hst
            rw [hst] at hI
            conv => whnf
            repeat (refine And.intro (by first | omega | (show (b + 1) * 16 ≤ 140737488355328; omega) | (dsimp only [cutL]; omega)) ?_; conv => whnf)
            have hins : insL byK U (gR L j) = U.take (b + 1) ++ gR L j :: U.drop (b + 1) := by unfold insL; rw [← hI]
            have hcut : U.length + 1 = cutL ((j, U) : Nat × List R).2.length none (some ((b + 1 : Nat) : Int)) + 1 + cutL ((j, U) : Nat × List R).2.length (some ((b + 1 : Nat) : Int)) none := by
              show U.length + 1 = (b + 1) + 1 + (U.length - (b + 1)); omega
            have F0 : zs.getD (0 + addN 0 (((j, U) : Nat × List R).1 : Int).toNat * (1 + 1) + 0) 0 = (gR L j).1 := by
              rw [hLj, addN_eq, show 0 + (0 + (((j, U) : Nat × List R).1 : Int).toNat) * (1 + 1) + 0 = j * 2 by dsimp only; omega]
            have F1 : zs.getD (0 + addN 0 (((j, U) : Nat × List R).1 : Int).toNat * (1 + 1) + (0 + 1)) 0 = (gR L j).2 := by
              rw [hLj, addN_eq, show 0 + (0 + (((j, U) : Nat × List R).1 : Int).toNat) * (1 + 1) + (0 + 1) = j * 2 + 1 by dsimp only; omega]
            rw [F0, F1, wsucc (j := j) (n := k) (by omega) (by omega)]
            refine ⟨(j + 1, insL byK U (gR L j)), [(312, 5000)], ⟨rfl, ?_, ?_⟩, ⟨(by omega : j + 1 ≤ k), hU2.symm, by dsimp only; rw [insL_len]; omega⟩, by dsimp only; omega⟩
            · show _ = (6, Am.T.ow 5000 2 (insL byK U (gR L j)).length) :: _
              rw [insL_len, hcut]; rfl
            · show _ = (5000, Blk.fl [.i64, .u64] (flat 2 (insL byK U (gR L j)))) :: _
              rw [hins, ← ins_row U (gR L j) (b + 1) (by omega)]; rfl
        · obtain rfl : a = 0 := by omega
          replace hI : 0 = insA byK U (gR L j) U.length := by rw [← hI]; unfold insA; rfl
          conv => whnf
          repeat (refine And.intro (by first | omega | (show 0 * 16 ≤ 140737488355328; omega) | (dsimp only [cutL]; omega)) ?_; conv => whnf)
          have hins : insL byK U (gR L j) = U.take (0) ++ gR L j :: U.drop (0) := by unfold insL; rw [← hI]
          have hcut : U.length + 1 = cutL ((j, U) : Nat × List R).2.length none (some ((0 : Nat) : Int)) + 1 + cutL ((j, U) : Nat × List R).2.length (some ((0 : Nat) : Int)) none := by
            show U.length + 1 = (0) + 1 + (U.length - (0)); omega
          have F0 : zs.getD (0 + addN 0 (((j, U) : Nat × List R).1 : Int).toNat * (1 + 1) + 0) 0 = (gR L j).1 := by
            rw [hLj, addN_eq, show 0 + (0 + (((j, U) : Nat × List R).1 : Int).toNat) * (1 + 1) + 0 = j * 2 by dsimp only; omega]
          have F1 : zs.getD (0 + addN 0 (((j, U) : Nat × List R).1 : Int).toNat * (1 + 1) + (0 + 1)) 0 = (gR L j).2 := by
            rw [hLj, addN_eq, show 0 + (0 + (((j, U) : Nat × List R).1 : Int).toNat) * (1 + 1) + (0 + 1) = j * 2 + 1 by dsimp only; omega]
          rw [F0, F1, wsucc (j := j) (n := k) (by omega) (by omega)]
          refine ⟨(j + 1, insL byK U (gR L j)), [(312, 5000)], ⟨rfl, ?_, ?_⟩, ⟨(by omega : j + 1 ≤ k), hU2.symm, by dsimp only; rw [insL_len]; omega⟩, by dsimp only; omega⟩
          · show _ = (6, Am.T.ow 5000 2 (insL byK U (gR L j)).length) :: _
            rw [insL_len, hcut]; rfl
          · show _ = (5000, Blk.fl [.i64, .u64] (flat 2 (insL byK U (gR L j)))) :: _
            rw [hins, ← ins_row U (gR L j) (0) (by omega)]; rfl
  · replace h : ¬ (j : Int) < t := h
    obtain rfl : j = t := by omega
    conv => whnf
    rw [← hU]
    repeat' (first | exact trivial | exact rfl | (refine And.intro ?_ ?_) | ((conv => whnf); done) | ((conv => whnf); (first | rfl | (refine congrArg (fun b => T.v (Value.bool b)) ?_; first | rfl | exact (decide_eq_true (by omega)).symm | exact (decide_eq_false (by omega)).symm | exact decide_eq_decide.2 (by omega)) | (refine congrArg (fun b => T.v (Value.int _ b)) ?_; first | rfl | omega) | omega)) | (first | rfl | (refine congrArg (fun b => T.v (Value.bool b)) ?_; first | rfl | exact (decide_eq_true (by omega)).symm | exact (decide_eq_false (by omega)).symm | exact decide_eq_decide.2 (by omega)) | (refine congrArg (fun b => T.v (Value.int _ b)) ?_; first | rfl | omega) | omega))
def eRThen : Entry := ⟨21, 4, fun l => match l with
  | [.fl [.i64, .u64] n xs, .fl [.i64, .u64] m ys] => some (some (n ≤ 4096 ∧ m ≤ 4096), .ow 0 2 (thn (recs n 2 xs) (recs m 2 ys)).length, [(0, .fl [.i64, .u64] (flat 2 (thn (recs n 2 xs) (recs m 2 ys))))])
  | _ => none⟩
theorem eRThen_ok : eRThen.ok Try.prog glR := ⟨Am.enters_of Try.func21 (by kernel_rfl) (by kernel_rfl), by
  intro args c t bs h hc
  simp only [eRThen] at h
  split at h <;> cases h
  replace hc := hc _ rfl
  exact rthen_pure _ _ _ _ hc.1 hc.2⟩
end Go.Proofs.Yteinekidpokbpaa.DfT
