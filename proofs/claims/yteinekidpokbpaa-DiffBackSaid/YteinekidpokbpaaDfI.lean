/- diff.Then. -/
import Derived.Test.YteinekidpokbpaaDfH
namespace Go.Proofs.Yteinekidpokbpaa.DfT
open Go.RowKit Go.Proofs.Yteinekidpokbpaa.Am Go.Proofs.Yteinekidpokbpaa Go.Proofs.Yteinekidpokbpaa.PrT
set_option linter.unusedVariables false
set_option linter.unusedSimpArgs false


theorem wr01 : IntKind.i64.wrap ((0 : Int) + 1) = 1 := by decide
noncomputable def iConcat : Inl := ⟨28, Try.f28, bodyOf Try.f28, [0, 2, 3, 5, 6, 8, 9, 10, 11, 12, 20, 25, 26, 27, 28]⟩
theorem iConcat_ok : iConcat.ok Try.prog := Inl.mk_ok Try.func28 (by rfl) (by kernel_rfl) (by kernel_rfl)
noncomputable def iKeys : Inl := ⟨30, Try.f30, bodyOf Try.f30, [0, 1, 2]⟩
theorem iKeys_ok : iKeys.ok Try.prog := Inl.mk_ok Try.func30 (by rfl) (by kernel_rfl) (by kernel_rfl)
noncomputable def inlTh : List Inl := [iConcat, iKeys]
theorem inlTh_ok : InlOk Try.prog inlTh := ⟨iConcat_ok, iKeys_ok, trivial⟩
noncomputable def ctxTh (P : Program) (h : InlOk P inlTh) : Ctx := ctxR P glR [] [rGrow, rSorted] [] (noEq P) inlTh h.mem
theorem ctxTh_good : (ctxTh Try.prog inlTh_ok).good := ctxR_good (by kernel_rfl) (fun _ h => by cases h) (by intro r hr; rcases List.mem_cons.1 hr with rfl | hr; exact rGrow_ok; rcases List.mem_singleton.1 hr with rfl; exact rSorted_ok) glR_two
/-- A map behind writes. -/
def mp (l : List R) : List R := l.foldl (fun es w => mputL es w.1 w.2) []
theorem mp_snoc (l : List R) (w : R) : mp (l ++ [w]) = mputL (mp l) w.1 w.2 := by unfold mp; rw [List.foldl_append]; rfl
theorem mget_mput (a b : Int) (k : Int) : ∀ es : List R, mgetL (mputL es a b) k = if k = a then some b else mgetL es k
  | [] => by simp only [mputL, mgetL]
  | (x, y) :: es => by
    simp only [mputL]
    by_cases h : a = x
    · subst h
      rw [if_pos rfl]
      simp only [mgetL]
      split <;> rfl
    · rw [if_neg h]
      simp only [mgetL]
      rw [mget_mput a b k es]
      by_cases h2 : k = x
      · subst h2; rw [if_pos rfl, if_pos rfl, if_neg (fun e => h e.symm)]
      · rw [if_neg h2, if_neg h2]
theorem mp_get (l : List R) (k : Int) : mgetL (mp l) k = lst l k := by
  refine snoc_ind (p := fun l => mgetL (mp l) k = lst l k) rfl (fun l w ih => ?_) l
  rw [mp_snoc, mget_mput, lst_snoc, ih]
  by_cases h : w.1 = k
  · rw [if_pos h, if_pos h.symm]
  · rw [if_neg h, if_neg (fun e => h e.symm)]
theorem mput_len (a b : Int) : ∀ es : List R, (mputL es a b).length ≤ es.length + 1
  | [] => Nat.le_refl _
  | (x, y) :: es => by
    simp only [mputL]
    split
    · simp
    · have := mput_len a b es; simp; omega
theorem mput_keys (a b : Int) : ∀ (es : List R) (x : Int), x ∈ (mputL es a b).map (·.1) ↔ x = a ∨ x ∈ es.map (·.1)
  | [], x => by simp [mputL]
  | (u, v) :: es, x => by
    simp only [mputL]
    split
    · rename_i h; subst h; simp
    · have := mput_keys a b es x
      simp only [List.map_cons, List.mem_cons, this]
      constructor
      · rintro (h | h | h)
        · exact .inr (.inl h)
        · exact .inl h
        · exact .inr (.inr h)
      · rintro (h | h | h)
        · exact .inr (.inl h)
        · exact .inl h
        · exact .inr (.inr h)
theorem mput_nd (a b : Int) : ∀ es : List R, (es.map (·.1)).Nodup → ((mputL es a b).map (·.1)).Nodup
  | [], _ => by simp [mputL]
  | (u, v) :: es, h => by
    simp only [List.map_cons, List.nodup_cons] at h
    simp only [mputL]
    split
    · simp only [List.map_cons, List.nodup_cons]; exact h
    · rename_i hne
      simp only [List.map_cons, List.nodup_cons]
      exact ⟨fun q => by rcases (mput_keys a b es u).1 q with e | e; exact hne e.symm; exact h.1 e, mput_nd a b es h.2⟩
theorem mp_nd (l : List R) : ((mp l).map (·.1)).Nodup := by
  refine snoc_ind (p := fun l => ((mp l).map (·.1)).Nodup) List.nodup_nil (fun l w ih => ?_) l
  rw [mp_snoc]; exact mput_nd _ _ _ ih
theorem mp_len (l : List R) : (mp l).length ≤ l.length := by
  refine snoc_ind (p := fun l => (mp l).length ≤ l.length) (Nat.le_refl _) (fun l w ih => ?_) l
  rw [mp_snoc, List.length_append]; have := mput_len w.1 w.2 (mp l); simp; omega
theorem mp_key (l : List R) (k : Int) : k ∈ (mp l).map (·.1) ↔ ∃ v, lst l k = some v := by
  refine snoc_ind (p := fun l => k ∈ (mp l).map (·.1) ↔ ∃ v, lst l k = some v) ?_ (fun l w ih => ?_) l
  · simp [mp, lst]
  · rw [mp_snoc, mput_keys, ih, lst_snoc]
    constructor
    · rintro (h | h)
      · rw [if_pos h.symm]; exact ⟨_, rfl⟩
      · split
        · exact ⟨_, rfl⟩
        · exact h
    · intro h
      split at h
      · rename_i e; exact .inl e.symm
      · exact .inr h
/-- What Then makes of the sorted keys. -/
def outT (l : List R) (ks : List Int) : List R := ks.map fun k => (k, (mgetL (mp l) k).getD 0)
theorem outT_thn (l m : List R) : outT (l ++ m) (srtI (mp (l ++ m))) = thn l m := by
  have hp : (srtI (mp (l ++ m))).Perm ((mp (l ++ m)).map (·.1)) := List.mergeSort_perm _ _
  refine thn_ext ?_ fun x => ?_
  · unfold outT
    rw [List.pairwise_map]
    have h1 : (srtI (mp (l ++ m))).Pairwise fun a b => leI a b = true := List.pairwise_mergeSort (fun a b c h1 h2 => by simp only [leI, decide_eq_true_eq] at *; exact Int.le_trans h1 h2) (fun a b => by simp only [leI, Bool.or_eq_true, decide_eq_true_eq]; exact Int.le_total a b) _
    have h2 : (srtI (mp (l ++ m))).Nodup := hp.nodup_iff.2 (mp_nd _)
    refine (List.Pairwise.and h1 h2).imp fun {a b} ⟨q1, q2⟩ => ?_
    simp only [leI, decide_eq_true_eq] at q1
    have : a ≠ b := q2
    show a < b
    omega
  · unfold outT
    rw [List.mem_map]
    constructor
    · rintro ⟨k, hk, rfl⟩
      obtain ⟨v, hv⟩ := (mp_key _ _).1 (hp.mem_iff.1 hk)
      show lst (l ++ m) k = some ((mgetL (mp (l ++ m)) k).getD 0)
      rw [mp_get, hv]; rfl
    · intro h
      refine ⟨x.1, hp.mem_iff.2 ((mp_key _ _).2 ⟨_, h⟩), ?_⟩
      rw [mp_get, h]; rfl
theorem outT_succ (L : List R) {ks : List Int} {i : Nat} (h : i < ks.length) : outT L (ks.take (i + 1)) = outT L (ks.take i) ++ [(ks.getD i 0, (mgetL (mp L) (ks.getD i 0)).getD 0)] := by
  unfold outT; rw [take_snoc h, List.map_append]; rfl
attribute [local irreducible] recs mp srtI outT thn
set_option maxHeartbeats 2000000 in
set_option maxRecDepth 100000 in
theorem then_pure (n m : Nat) (xs ys : List Int) (hn : n ≤ 4096) (hm : m ≤ 4096) (hx : WfW (recs n 2 xs)) (hy : WfW (recs m 2 ys)) : Pure Try.prog glR 20 [.fl [.i64, .u64] n xs, .fl [.i64, .u64] m ys] (.ow 0 2 (thn (recs n 2 xs) (recs m 2 ys)).length) [(0, .fl [.i64, .u64] (flat 2 (thn (recs n 2 xs) (recs m 2 ys))))] := by
  refine pure_wf fun hw => ?_
  obtain ⟨⟨w1, w2⟩, ⟨w3, w4⟩, -⟩ := hw
  simp only [List.length_cons, List.length_nil, Nat.zero_add, Nat.mul_one] at w1 w3
  rw [← outT_thn, ← recs_app w1 w3]
  have hW : WfW (recs (n + m) 2 (xs ++ ys)) := by
    rw [recs_app w1 w3]; intro w hw; rcases List.mem_append.1 hw with q | q; exact hx w q; exact hy w q
  have hLl := recs_len (n + m) 2 (xs ++ ys)
  have hLg : ∀ j, j < n + m → gR (recs (n + m) 2 (xs ++ ys)) j = ((xs ++ ys).getD (j * 2) 0, (xs ++ ys).getD (j * 2 + 1) 0) := fun j hj => recs2_get hj
  have hZl : (xs ++ ys).length = (n + m) * 2 := by rw [List.length_append]; omega
  generalize recs (n + m) 2 (xs ++ ys) = L at *
  refine pure_of (C := ctxTh Try.prog inlTh_ok) ctxTh_good Try.func20 (c := bodyOf Try.f20) (by rfl) (Nat.le_of_ble_eq_true (by rfl)) 4 4 [0, 1, 4, 5, 7, 9, 14, 15, 16, 17, 28, 29, 30, 31] ?_
  conv => whnf
  have hcn : IntKind.i64.wrap ((0 : Int) + n) = n := by rw [wrap64 (by omega) (by omega)]; omega
  have hcm : IntKind.i64.wrap ((n : Int) + m) = n + m := wrap64 (by omega) (by omega)
  refine TW.roundsV ctxTh_good 4 (base := 7000000) (lv := [0, 2, 3, 5, 6, 8, 9, 10, 11, 12, 20, 25, 26, 27, 28]) 3 ?_
  conv => whnf
  repeat (refine And.intro (by omega) ?_; conv => whnf)
  rw [hcn]
  rw [show decide ((n : Int) < 0) = false from decide_eq_false (by omega)]
  conv => whnf
  rw [wr01]
  refine ⟨⟨[0, 2, 3, 9, 10, 11], [(233472, 233472), (52, 52), (40, 40)], []⟩, rfl, ?_⟩
  conv => whnf
  repeat (refine And.intro (by omega) ?_; conv => whnf)
  rw [hcm]
  rw [show decide ((n : Int) + m < 0) = false from decide_eq_false (by omega)]
  conv => whnf
  refine ⟨⟨[0, 2, 3, 9, 10, 11], [(233472, 233472), (52, 52), (40, 40)], []⟩, rfl, ?_⟩
  conv => whnf
  refine And.intro ⟨by omega, by omega⟩ ?_
  conv => whnf
  refine TW.roundsV ctxTh_good 4 (base := 7000000) (lv := [0, 2, 3, 5, 6, 8, 9, 10, 11, 12, 20, 25, 26, 27, 28]) 3 ?_
  conv => whnf
  repeat (refine And.intro (by omega) ?_; conv => whnf)
  rw [wr01]
  refine ⟨⟨[0, 2, 6, 25, 26, 27], [(233472, 233472), (52, 52), (40, 40), (7000132, 5000)], []⟩, rfl, ?_⟩
  conv => whnf
  repeat (refine And.intro (by omega) ?_; conv => whnf)
  refine ⟨⟨[0, 2, 6, 25, 26, 27], [(233472, 233472), (52, 52), (40, 40), (7000132, 5001)], []⟩, rfl, ?_⟩
  conv => whnf
  rw [List.nil_append, Nat.zero_add]
  have ht2 : n + m ≤ 8192 := by omega
  generalize xs ++ ys = zs at *
  generalize n + m = t at *
  refine TW.loopD ctxTh_good 4 (base := 0) (lv := [0, 1, 4, 5, 7, 9, 14, 15, 16, 17, 28, 29, 30, 31]) [16] [40] [(40, 40)] (fun j : Nat => [.v (.int .i64 j)]) (fun j => [.mp .i64 (.some .u64) (mp (L.take j))]) (fun j => j ≤ t) (fun j => t - j) ?_
  conv => whnf
  refine ⟨⟨0, ⟨rfl, rfl, by unfold mp; rfl⟩, Nat.zero_le _⟩, fun j hj => ?_⟩
  replace hj : j ≤ t := hj
  conv => whnf
  refine ifB_dec (fun h => ?_) (fun h => ?_)
  · replace h : (j : Int) < t := h
    have hLj := hLg j (by omega)
    conv => whnf
    repeat (refine And.intro (by omega) ?_; conv => whnf)
    have E0 : zs.getD (0 + addN 0 (j : Int).toNat * (1 + 1) + 0) 0 = (gR L j).1 := by
      rw [hLj, addN_eq, show 0 + (0 + (j : Int).toNat) * (1 + 1) + 0 = j * 2 by omega]
    have E1 : zs.getD (0 + addN 0 (j : Int).toNat * (1 + 1) + (0 + 1)) 0 = (gR L j).2 := by
      rw [hLj, addN_eq, show 0 + (0 + (j : Int).toNat) * (1 + 1) + (0 + 1) = j * 2 + 1 by omega]
    rw [E0, E1, ← mp_snoc, ← take_snocR (by omega), wsucc (j := j) (n := t) (by omega) (by omega)]
    exact ⟨j + 1, [(40, 40)], ⟨rfl, rfl, rfl⟩, (by omega : j + 1 ≤ t), by dsimp only; omega⟩
  · replace h : ¬ (j : Int) < t := h
    obtain rfl : j = t := by omega
    have eL : L.take j = L := List.take_of_length_le (by omega)
    conv => whnf
    rw [eL]
    have hml := mp_len L
    have hmi : ∀ p ∈ mp L, I64 p.1 := fun p hp => by
      obtain ⟨v, hv⟩ := (mp_key L p.1).1 (List.mem_map.2 ⟨p, hp, rfl⟩)
      exact hW (p.1, v) (lst_mem hv)
    refine And.intro ⟨rfl, by omega, hmi⟩ ?_
    conv => whnf
    have hks := srtI_len (mp L)
    rw [← hks]
    generalize hK : srtI (mp L) = ks at *
    generalize hO : outT L ks = OT
    refine TW.nilOwn 4 6000 2 (.fl [.i64, .u64] []) rfl rfl (.inr ⟨_, _, rfl⟩) (by decide) ?_
    refine TW.loopD ctxTh_good 4 (base := 0) (lv := [0, 1, 4, 5, 7, 9, 14, 15, 16, 17, 28, 29, 30, 31]) [4, 30] [6000] [(6000, 6000)] (fun x : Nat × List R => [.ow 6000 2 x.2.length, .v (.int .i64 x.1)]) (fun x => [.fl [.i64, .u64] (flat 2 x.2)]) (fun x => x.1 ≤ ks.length ∧ x.2 = outT L (ks.take x.1) ∧ x.2.length = x.1) (fun x => ks.length - x.1) ?_
    conv => whnf
    refine ⟨⟨(0, []), ⟨rfl, rfl, rfl⟩, Nat.zero_le _, by unfold outT; rfl, rfl⟩, fun ⟨i, U⟩ ⟨hi, hU, hUl⟩ => ?_⟩
    replace hi : i ≤ ks.length := hi
    replace hU : U = outT L (ks.take i) := hU
    replace hUl : U.length = i := hUl
    conv => whnf
    refine ifB_dec (fun h => ?_) (fun h => ?_)
    · replace h : (i : Int) < ks.length := h
      have hos := outT_succ L (ks := ks) (i := i) (by omega)
      conv => whnf
      repeat (refine And.intro (by first | omega | (dsimp only; omega)) ?_; conv => whnf)
      have E0 : ks.getD (0 + addN 0 (((i, U) : Nat × List R).1 : Int).toNat * (0 + 1)) 0 = ks.getD i 0 := by
        rw [addN_eq, show 0 + (0 + (((i, U) : Nat × List R).1 : Int).toNat) * (0 + 1) = i by dsimp only; omega]
      rw [E0, eL, wsucc (j := i) (n := ks.length) (by omega) (by omega)]
      refine ⟨(i + 1, U ++ [(ks.getD i 0, (mgetL (mp L) (ks.getD i 0)).getD 0)]), [(164, 6000)], ⟨rfl, ?_, ?_⟩, ⟨(by omega : i + 1 ≤ ks.length), ?_, ?_⟩, by dsimp only; omega⟩
      · show _ = (4, Am.T.ow 6000 2 (U ++ [(ks.getD i 0, (mgetL (mp L) (ks.getD i 0)).getD 0)]).length) :: _
        rw [List.length_append]; rfl
      · show _ = (6000, Blk.fl [.i64, .u64] (flat 2 (U ++ [(ks.getD i 0, (mgetL (mp L) (ks.getD i 0)).getD 0)]))) :: _
        rw [flat_append]; rfl
      · dsimp only; rw [hos, hU]
      · dsimp only; rw [List.length_append, hUl]; rfl
    · replace h : ¬ (i : Int) < ks.length := h
      conv => whnf
      rw [List.take_of_length_le (by omega), hO] at hU
      rw [← hU]
      repeat' (first | exact trivial | exact rfl | (refine And.intro ?_ ?_) | ((conv => whnf); done) | ((conv => whnf); (first | rfl | (refine congrArg (fun b => T.v (Value.bool b)) ?_; first | rfl | exact (decide_eq_true (by omega)).symm | exact (decide_eq_false (by omega)).symm | exact decide_eq_decide.2 (by omega)) | (refine congrArg (fun b => T.v (Value.int _ b)) ?_; first | rfl | omega) | omega)) | (first | rfl | (refine congrArg (fun b => T.v (Value.bool b)) ?_; first | rfl | exact (decide_eq_true (by omega)).symm | exact (decide_eq_false (by omega)).symm | exact decide_eq_decide.2 (by omega)) | (refine congrArg (fun b => T.v (Value.int _ b)) ?_; first | rfl | omega) | omega))
theorem pure_nilL {P : Program} {gl : Nat → T} {f : FuncId} {pre : List T} {t : T} {ks : List IntKind} {bs : Hp} (h : Pure P gl f (pre ++ [.fl ks 0 []]) t bs) : Pure P gl f (pre ++ [.v (.slice none 0 0)]) t bs := by
  intro w vs hg ha
  refine h w vs hg ?_
  have key : ∀ {pre : List T} {vs : List Value}, TVs w (fun _ => True) noM noL (pre ++ [.v (.slice none 0 0)]) vs → TVs w (fun _ => True) noM noL (pre ++ [.fl ks 0 []]) vs := by
    intro pre
    induction pre with
    | nil =>
      intro vs ha
      cases ha with
      | cons h1 h2 =>
        cases h1 with
        | v hp => exact .cons .fl0 h2
    | cons p pre ih =>
      intro vs ha
      cases ha with
      | cons h1 h2 => exact .cons h1 (ih h2)
  exact key ha
theorem pure_nil1 {P : Program} {gl : Nat → T} {f : FuncId} {r : List T} {t : T} {ks : List IntKind} {bs : Hp} (h : Pure P gl f (.fl ks 0 [] :: r) t bs) : Pure P gl f (.v (.slice none 0 0) :: r) t bs := fun w vs hg ha => by
  refine h w vs hg ?_
  cases ha with
  | cons h1 h2 =>
    cases h1 with
    | v hp => exact .cons .fl0 h2
def eThen : Entry := ⟨20, 7, fun l => match l with
  | [.fl [.i64, .u64] n xs, .fl [.i64, .u64] m ys] => some (some ((n ≤ 4096 ∧ m ≤ 4096) ∧ WfW (recs n 2 xs) ∧ WfW (recs m 2 ys)), .ow 0 2 (thn (recs n 2 xs) (recs m 2 ys)).length, [(0, .fl [.i64, .u64] (flat 2 (thn (recs n 2 xs) (recs m 2 ys))))])
  | [.v (.slice none 0 0), .fl [.i64, .u64] m ys] => some (some (m ≤ 4096 ∧ WfW (recs m 2 ys)), .ow 0 2 (thn [] (recs m 2 ys)).length, [(0, .fl [.i64, .u64] (flat 2 (thn [] (recs m 2 ys))))])
  | [.fl [.i64, .u64] n xs, .v (.slice none 0 0)] => some (some (n ≤ 4096 ∧ WfW (recs n 2 xs)), .ow 0 2 (thn (recs n 2 xs) []).length, [(0, .fl [.i64, .u64] (flat 2 (thn (recs n 2 xs) [])))])
  | _ => none⟩
theorem recs_zero (xs : List Int) : recs 0 2 xs = [] := by unfold recs; rfl
theorem eThen_ok : eThen.ok Try.prog glR := ⟨Am.enters_of Try.func20 (by kernel_rfl) (by kernel_rfl), by
  intro args c t bs h hc
  simp only [eThen] at h
  split at h <;> cases h
  · replace hc := hc _ rfl
    exact then_pure _ _ _ _ hc.1.1 hc.1.2 hc.2.1 hc.2.2
  · replace hc := hc _ rfl
    refine pure_nil1 (ks := [.i64, .u64]) ?_
    have := then_pure 0 _ [] _ (by omega) hc.1 (fun w hw => by rw [recs_zero] at hw; cases hw) hc.2
    rw [recs_zero] at this
    exact this
  · replace hc := hc _ rfl
    refine pure_nilL (ks := [.i64, .u64]) (pre := [_]) ?_
    have := then_pure _ 0 _ [] hc.1 (by omega) hc.2 (fun w hw => by rw [recs_zero] at hw; cases hw)
    rw [recs_zero] at this
    exact this⟩
end Go.Proofs.Yteinekidpokbpaa.DfT
