/- Texts put together: OtK, OtL. -/
import Derived.Test.YtlcpcgdecodjfaaGreatDoorOrderTellsM11
namespace Go.Proofs.YtlcpcgdecodjfaaGreatDoor
open Go.RowKit Go.Proofs.YtlcpcgdecodjfaaGreatDoor.Am
set_option linter.unusedVariables false
set_option linter.unusedSimpArgs false

attribute [local irreducible] appR atRR wayR ldR keyW ipick wordsO ordDo stK entK rkL fitsB codeG keyG valG
set_option maxRecDepth 100000 in
set_option maxHeartbeats 8000000 in
theorem orderTells_purec {bf : Int → Int → Bool} {wf : Int → Int} {wb : Int → Bool} {rf wt : Int → Int} {ls : Int → Int → Bool} (F : OrdF bf wf wb rf ls) (S : OrdS bf wf wb rf wt) (room : Int) (hr : I64 room) (ok op on : Int) (hok : I64 ok ∧ I64 op ∧ I64 on) (n1 : Nat) (raw : List Int) (hraw : AllI raw) (n2 : Nat) (lp : List Int) (hlp : AllU lp) (q : Nat) (st : List Int) (hst : AllI st) (n3 : Nat) (w : List Int) (hw : AllU w) (at_ : Int) (hat : I64 at_) (x : Int) (hx : U64 x) (k1 k2 k3 : Int) (hk : I64 k1 ∧ I64 k2 ∧ I64 k3) (oc okey ov : Int) (hop : I64 oc ∧ U64 okey ∧ U64 ov) (h20 : on > 20) (h256 : ¬ on ≤ 256) :
    Pure Tryz.prog glM 3 [.v (.int .i64 room), .agg [.v (.int .i64 ok), .v (.int .i64 op), .v (.int .i64 on)], .fl [.i64, .i64] n1 raw, .fl [.u64, .u64] n2 lp, .fl [.i64, .i64, .i64] q st, .fl [.u64] n3 w, .v (.int .i64 at_), .v (.int .u64 x), .agg [.v (.int .i64 k1), .v (.int .i64 k2), .v (.int .i64 k3)], .agg [.v (.int .i64 oc), .v (.int .u64 okey), .v (.int .u64 ov)]] (.v (.bool true)) := by
  have good := ctxOtH_good F S
  refine pure_wf fun hwf => ?_
  obtain ⟨-, -, ⟨w1, w2⟩, ⟨w3, w4⟩, -, ⟨w5, w6⟩, -⟩ := hwf
  simp only [List.length_cons, List.length_nil, Nat.zero_add, Nat.mul_one] at w1 w3 w5
  obtain ⟨b1, b2⟩ := ipick_bounds room (n := 12) (by omega)
  obtain ⟨m, hm⟩ : ∃ m : Nat, (m : Int) = 1 + ipick room 12 := ⟨(1 + ipick room 12).toNat, by omega⟩
  have hf : fitsB 4 1 m = true := by unfold fitsB; exact decide_eq_true (by omega)
  have hV := stK_v 4 m st (min q 30) (by omega)
  obtain ⟨ks, hks⟩ : ∃ ks, (stK 4 m st (min q 30)).1 = ks := ⟨_, rfl⟩
  obtain ⟨vs, hvs⟩ : ∃ vs, (stK 4 m st (min q 30)).2 = vs := ⟨_, rfl⟩
  rw [hks, hvs] at hV
  obtain ⟨n, hn⟩ : ∃ n, ks.length = n := ⟨_, rfl⟩
  obtain ⟨hO, hri⟩ := F.ord hV hn
  obtain ⟨xs, hxs⟩ : ∃ xs, entK rf ks vs n = xs := ⟨_, rfl⟩
  rw [hxs] at hO
  have aw := (open_words (bf := bf) hf hO).2.1
  have hwl := wordsO_len (bf := bf) (xs := xs) hO.room
  obtain ⟨L, hL⟩ : ∃ L, wordsO bf m n xs = L := ⟨_, rfl⟩
  rw [hL] at aw hwl
  refine pure_of (C := ctxOtH Tryz.prog tellEq bf wf wb rf) good Tryz.func3 (c := bodyOf Tryz.f3) (by rfl) (Nat.le_of_ble_eq_true (by rfl)) 4 0 [0, 1, 2, 3, 4, 5, 6, 7, 8, 9, 11, 18, 19, 20, 21, 22, 23, 24, 25, 27, 29, 31, 32, 33, 34, 35, 37, 39, 40, 41, 42, 43, 45, 46, 47, 48, 49, 51, 52, 53, 54, 55, 56, 57, 68, 77, 116, 117, 118, 119, 128, 129, 130, 131, 154, 163, 164, 165, 166, 172, 173, 174, 175, 199, 205, 206, 207, 208, 233, 240, 241, 242, 243, 275] ?_
  conv => whnf
  refine And.intro hr ?_
  conv => whnf
  rw [← hm]
  refine ifB_t (decide_eq_true h20) ?_
  conv => whnf
  refine ifB_f (show (bif true then decide (on ≤ 256) else false) = false from decide_eq_false h256) ?_
  conv => whnf
  (refine TW.nilOwn 23 5000 2 (.fl [.u64, .u64] []) rfl rfl (.inr ⟨_, _, rfl⟩) (by decide) ?_
   refine TW.loopD good 0 (base := 0) (lv := [0, 1, 2, 3, 4, 5, 6, 7, 8, 9, 11, 18, 19, 20, 21, 22, 23, 24, 25, 27, 29, 31, 32, 33, 34, 35, 37, 39, 40, 41, 42, 43, 45, 46, 47, 48, 49, 51, 52, 53, 54, 55, 56, 57, 68, 77, 116, 117, 118, 119, 128, 129, 130, 131, 154, 163, 164, 165, 166, 172, 173, 174, 175, 199, 205, 206, 207, 208, 233, 240, 241, 242, 243, 275]) [23, 24] [5000] [(5000, 5000)] (fun x : Nat × List Int => [.ow 5000 2 x.1, .v (.int .i64 x.1)]) (fun x => [.fl [.u64, .u64] x.2]) (fun x => (x.1 ≤ n1 ∧ x.1 ≤ 12) ∧ AllU x.2) (fun x => n1 - x.1) ?_
   conv => whnf
   refine ⟨⟨(0, []), ⟨rfl, rfl, rfl⟩, ⟨by omega, by omega⟩, fun x hx => by cases hx⟩, fun ⟨j, pl⟩ ⟨⟨hj, hj2⟩, hpl⟩ => ?_⟩
   replace hj : j ≤ n1 := hj
   replace hj2 : j ≤ 12 := hj2
   replace hpl : AllU pl := hpl
   conv => whnf
   by_cases hgo : j < n1 ∧ j < 12
   · refine ifB_t (show decide ((((j, pl) : Nat × List Int).1 : Int) < n1) = true from decide_eq_true (by dsimp only; omega)) ?_
     conv => whnf
     refine ifB_t (show (bif true then decide ((((j, pl) : Nat × List Int).1 : Int) < 12) else false) = true from decide_eq_true (by dsimp only; omega)) ?_
     conv => whnf
     repeat (refine And.intro (by omega) ?_; conv => whnf)
     refine And.intro (allI_getD hraw _) ?_
     conv => whnf
     repeat (refine And.intro (by omega) ?_; conv => whnf)
     refine And.intro ⟨allI_getD hraw _, by omega, by omega⟩ ?_
     conv => whnf
     repeat (refine And.intro (by omega) ?_; conv => whnf)
     rw [show IntKind.i64.wrap ((((j, pl) : Nat × List Int).1 : Int) + 1) = ((j + 1 : Nat) : Int) from wrap64 (by dsimp only; omega) (by dsimp only; omega)]
     refine ⟨(j + 1, pl ++ [keyW (raw.getD (0 + (j : Int).toNat * (1 + 1)) 0), IntKind.u64.wrap (ipick (raw.getD (0 + 1 + (j : Int).toNat * (1 + 1)) 0) 1000)]), [(384, 5000)], ⟨rfl, rfl, rfl⟩, ⟨⟨(by omega : j + 1 ≤ n1), (by omega : j + 1 ≤ 12)⟩, ?_⟩, by dsimp only; omega⟩
     intro y hy
     rcases List.mem_append.1 hy with hy | hy
     · exact hpl y hy
     · simp only [List.mem_cons, List.not_mem_nil, or_false] at hy
       rcases hy with rfl | rfl
       · exact u64_keyW _
       · exact u64_wrap _
   · by_cases hjn : j < n1
     · refine ifB_t (show decide ((((j, pl) : Nat × List Int).1 : Int) < n1) = true from decide_eq_true (by dsimp only; omega)) ?_
       conv => whnf
       refine ifB_f (show (bif true then decide ((((j, pl) : Nat × List Int).1 : Int) < 12) else false) = false from decide_eq_false (by dsimp only; omega)) ?_
       conv => whnf
       (refine And.intro ⟨.inr (.inr rfl), hf, hst⟩ ?_
        conv => whnf
        rw [Int.toNat_natCast, hks, hvs, hn]
        refine And.intro ⟨⟨rfl, rfl, rfl, rfl⟩, hV, hf, hri⟩ ?_
        conv => whnf
        rw [hxs, hL]
        repeat (refine And.intro (by first | omega | (show (2 + 4 * m) * 8 ≤ 140737488355328; omega)) ?_; conv => whnf)
        refine And.intro ⟨hat, by omega, by omega⟩ ?_
        conv => whnf
        obtain ⟨c1, c2⟩ := ipick_bounds at_ (n := ((2 + 4 * m : Nat) : Int)) (by omega)
        repeat (refine And.intro (by omega) ?_; conv => whnf)
        have hT : AllU (L.set (0 + addN 0 (ipick at_ ((2 + 4 * m : Nat) : Int)).toNat * (0 + 1) + 0) x) := allU_set aw _ hx
        refine TW.loopD good 0 (base := 0) (lv := [0, 1, 2, 3, 4, 5, 6, 7, 8, 9, 11, 18, 19, 20, 21, 22, 23, 24, 25, 27, 29, 31, 32, 33, 34, 35, 37, 39, 40, 41, 42, 43, 45, 46, 47, 48, 49, 51, 52, 53, 54, 55, 56, 57, 68, 77, 116, 117, 118, 119, 128, 129, 130, 131, 154, 163, 164, 165, 166, 172, 173, 174, 175, 199, 205, 206, 207, 208, 233, 240, 241, 242, 243, 275]) [118] [] [] (fun d : Nat => [.v (.int .i64 d)]) (fun _ => []) (fun d => d ≤ 2) (fun d => 2 - d) ?_
        conv => whnf
        refine ⟨⟨0, ⟨rfl, rfl, rfl⟩, by omega⟩, fun d hd => ?_⟩
        replace hd : d ≤ 2 := hd
        conv => whnf
        refine ifB_dec (fun hd2 => ?_) (fun hd2 => ?_)
        · replace hd2 : (d : Int) < 2 := hd2
          conv => whnf
          refine And.intro (by omega) ?_
          conv => whnf
          refine And.intro (by split <;> omega) ?_
          conv => whnf
          refine TW.loopD good 0 (base := 0) (lv := [0, 1, 2, 3, 4, 5, 6, 7, 8, 9, 11, 18, 19, 20, 21, 22, 23, 24, 25, 27, 29, 31, 32, 33, 34, 35, 37, 39, 40, 41, 42, 43, 45, 46, 47, 48, 49, 51, 52, 53, 54, 55, 56, 57, 68, 77, 116, 117, 118, 119, 128, 129, 130, 131, 154, 163, 164, 165, 166, 172, 173, 174, 175, 199, 205, 206, 207, 208, 233, 240, 241, 242, 243, 275]) [130] [] [] (fun z : Nat => [.v (.int .i64 z)]) (fun _ => []) (fun z => z ≤ 2) (fun z => 2 - z) ?_
          conv => whnf
          refine ⟨⟨0, ⟨rfl, rfl, rfl⟩, by omega⟩, fun z hz => ?_⟩
          replace hz : z ≤ 2 := hz
          conv => whnf
          refine ifB_dec (fun hz2 => ?_) (fun hz2 => ?_)
          · replace hz2 : (z : Int) < 2 := hz2
            have hz3 : z = 0 ∨ z = 1 := by omega
            rcases hz3 with rfl | rfl
            · conv => whnf
              refine And.intro (by omega) ?_
              conv => whnf
              refine And.intro hpl ?_
              conv => whnf
              refine And.intro hpl ?_
              conv => whnf
              refine ifB_ne (fun h9 => (h9 rfl).elim) (fun _ => ?_)
              conv => whnf
              refine ifB_f (notSame _) ?_
              conv => whnf
              exact ⟨1, [], ⟨rfl, rfl, rfl⟩, by omega, by dsimp only; omega⟩
            · conv => whnf
              refine And.intro (by omega) ?_
              conv => whnf
              refine And.intro (allU_cut hlp _ _ _) ?_
              conv => whnf
              refine And.intro (allU_cut hlp _ _ _) ?_
              conv => whnf
              refine ifB_ne (fun h9 => (h9 rfl).elim) (fun _ => ?_)
              conv => whnf
              refine ifB_f (notSame _) ?_
              conv => whnf
              exact ⟨2, [], ⟨rfl, rfl, rfl⟩, by omega, by dsimp only; omega⟩
          · conv => whnf
            refine And.intro (by split <;> omega) ?_
            conv => whnf
            refine TW.loopD good 0 (base := 0) (lv := [0, 1, 2, 3, 4, 5, 6, 7, 8, 9, 11, 18, 19, 20, 21, 22, 23, 24, 25, 27, 29, 31, 32, 33, 34, 35, 37, 39, 40, 41, 42, 43, 45, 46, 47, 48, 49, 51, 52, 53, 54, 55, 56, 57, 68, 77, 116, 117, 118, 119, 128, 129, 130, 131, 154, 163, 164, 165, 166, 172, 173, 174, 175, 199, 205, 206, 207, 208, 233, 240, 241, 242, 243, 275]) [165] [] [] (fun y : Nat => [.v (.int .i64 y)]) (fun _ => []) (fun y => y ≤ 3) (fun y => 3 - y) ?_
            conv => whnf
            refine ⟨⟨0, ⟨rfl, rfl, rfl⟩, by omega⟩, fun y hy => ?_⟩
            replace hy : y ≤ 3 := hy
            conv => whnf
            refine ifB_dec (fun hy2 => ?_) (fun hy2 => ?_)
            · replace hy2 : (y : Int) < 3 := hy2
              have hy3 : y = 0 ∨ y = 1 ∨ y = 2 := by omega
              rcases hy3 with rfl | rfl | rfl
              · (conv => whnf
                 refine And.intro (by omega) ?_
                 conv => whnf
                 refine And.intro ⟨hat, by omega, by omega⟩ ?_
                 conv => whnf
                 refine TW.loopD good 0 (base := 0) (lv := [0, 1, 2, 3, 4, 5, 6, 7, 8, 9, 11, 18, 19, 20, 21, 22, 23, 24, 25, 27, 29, 31, 32, 33, 34, 35, 37, 39, 40, 41, 42, 43, 45, 46, 47, 48, 49, 51, 52, 53, 54, 55, 56, 57, 68, 77, 116, 117, 118, 119, 128, 129, 130, 131, 154, 163, 164, 165, 166, 172, 173, 174, 175, 199, 205, 206, 207, 208, 233, 240, 241, 242, 243, 275]) [174] [] [] (fun i : Nat => [.v (.int .i64 i)]) (fun _ => []) (fun i => i ≤ 2) (fun i => 2 - i) ?_
                 conv => whnf
                 refine ⟨⟨0, ⟨rfl, rfl, rfl⟩, by omega⟩, fun i hi => ?_⟩
                 replace hi : i ≤ 2 := hi
                 conv => whnf
                 refine ifB_dec (fun hi2 => ?_) (fun hi2 => ?_)
                 · replace hi2 : (i : Int) < 2 := hi2
                   conv => whnf
                   refine And.intro (by omega) ?_
                   conv => whnf
                   refine And.intro aw ?_
                   conv => whnf
                   refine And.intro aw ?_
                   conv => whnf
                   refine ifB_ne (fun h9 => (h9 rfl).elim) (fun _ => ?_)
                   conv => whnf
                   refine ifB_f (by simp) ?_
                   conv => whnf
                   rw [show IntKind.i64.wrap ((i : Int) + 1) = ((i + 1 : Nat) : Int) from wrap64 (by omega) (by omega)]
                   exact ⟨i + 1, [], ⟨rfl, rfl, rfl⟩, (by omega : i + 1 ≤ 2), by dsimp only; omega⟩
                 · conv => whnf
                   refine And.intro (by omega) ?_
                   conv => whnf
                   refine And.intro (show I64 k2 from hk.2.1) ?_
                   conv => whnf
                   have hkey : ∀ i : Nat, U64 (([x, keyW k2] : List Int).getD i 0) := allU_getD (fun y hy => by
                     simp only [List.mem_cons, List.not_mem_nil, or_false] at hy
                     rcases hy with rfl | rfl
                     · exact hx
                     · exact u64_keyW _)
                   refine TW.loopD good 0 (base := 0) (lv := [0, 1, 2, 3, 4, 5, 6, 7, 8, 9, 11, 18, 19, 20, 21, 22, 23, 24, 25, 27, 29, 31, 32, 33, 34, 35, 37, 39, 40, 41, 42, 43, 45, 46, 47, 48, 49, 51, 52, 53, 54, 55, 56, 57, 68, 77, 116, 117, 118, 119, 128, 129, 130, 131, 154, 163, 164, 165, 166, 172, 173, 174, 175, 199, 205, 206, 207, 208, 233, 240, 241, 242, 243, 275]) [207] [] [] (fun i : Nat => [.v (.int .i64 i)]) (fun _ => []) (fun i => i ≤ 2) (fun i => 2 - i) ?_
                   conv => whnf
                   refine ⟨⟨0, ⟨rfl, rfl, rfl⟩, by omega⟩, fun i hi => ?_⟩
                   replace hi : i ≤ 2 := hi
                   conv => whnf
                   refine ifB_dec (fun hi2 => ?_) (fun hi2 => ?_)
                   · replace hi2 : (i : Int) < 2 := hi2
                     conv => whnf
                     refine And.intro (by omega) ?_
                     conv => whnf
                     refine And.intro ⟨aw, hkey _⟩ ?_
                     conv => whnf
                     refine And.intro ⟨aw, hkey _⟩ ?_
                     conv => whnf
                     refine ifB_ne (fun h9 => (h9 rfl).elim) (fun _ => ?_)
                     conv => whnf
                     refine ifB_f (notSame _) ?_
                     conv => whnf
                     rw [show IntKind.i64.wrap ((i : Int) + 1) = ((i + 1 : Nat) : Int) from wrap64 (by omega) (by omega)]
                     exact ⟨i + 1, [], ⟨rfl, rfl, rfl⟩, (by omega : i + 1 ≤ 2), by dsimp only; omega⟩
                   · conv => whnf
                     refine And.intro ⟨by omega, hk.1, hk.2.1, hk.2.2⟩ ?_
                     conv => whnf
                     refine TW.loopD good 0 (base := 0) (lv := [0, 1, 2, 3, 4, 5, 6, 7, 8, 9, 11, 18, 19, 20, 21, 22, 23, 24, 25, 27, 29, 31, 32, 33, 34, 35, 37, 39, 40, 41, 42, 43, 45, 46, 47, 48, 49, 51, 52, 53, 54, 55, 56, 57, 68, 77, 116, 117, 118, 119, 128, 129, 130, 131, 154, 163, 164, 165, 166, 172, 173, 174, 175, 199, 205, 206, 207, 208, 233, 240, 241, 242, 243, 275]) [242] [] [] (fun i : Nat => [.v (.int .i64 i)]) (fun _ => []) (fun i => i ≤ 2) (fun i => 2 - i) ?_
                     conv => whnf
                     refine ⟨⟨0, ⟨rfl, rfl, rfl⟩, by omega⟩, fun i hi => ?_⟩
                     replace hi : i ≤ 2 := hi
                     conv => whnf
                     refine ifB_dec (fun hi2 => ?_) (fun hi2 => ?_)
                     · replace hi2 : (i : Int) < 2 := hi2
                       have hi3 : i = 0 ∨ i = 1 := by omega
                       conv => whnf
                       refine And.intro (by omega) ?_
                       conv => whnf
                       refine And.intro ⟨aw, (by rcases hi3 with rfl | rfl; exact hop.2.1; exact (u64_keyG hx : U64 (keyG 4 k2 x))), (by rcases hi3 with rfl | rfl; exact hop.2.2; exact (u64_valG hx : U64 (valG 4 k1 k3 x)))⟩ ?_
                       conv => whnf
                       refine And.intro ⟨aw, (by rcases hi3 with rfl | rfl; exact hop.2.1; exact (u64_keyG hx : U64 (keyG 4 k2 x))), (by rcases hi3 with rfl | rfl; exact hop.2.2; exact (u64_valG hx : U64 (valG 4 k1 k3 x)))⟩ ?_
                       conv => whnf
                       refine ifB_ne (fun h9 => (h9 rfl).elim) (fun _ => ?_)
                       conv => whnf
                       refine ifB_f (by simp) ?_
                       conv => whnf
                       refine ifB_f (notSame _) ?_
                       conv => whnf
                       rw [show IntKind.i64.wrap ((i : Int) + 1) = ((i + 1 : Nat) : Int) from wrap64 (by omega) (by omega)]
                       exact ⟨i + 1, [], ⟨rfl, rfl, rfl⟩, (by omega : i + 1 ≤ 2), by dsimp only; omega⟩
                     · conv => whnf
                       exact ⟨1, [], ⟨rfl, rfl, rfl⟩, by omega, by dsimp only; omega⟩)
              · (conv => whnf
                 refine And.intro (by omega) ?_
                 conv => whnf
                 refine And.intro ⟨hat, by omega, by omega⟩ ?_
                 conv => whnf
                 refine TW.loopD good 0 (base := 0) (lv := [0, 1, 2, 3, 4, 5, 6, 7, 8, 9, 11, 18, 19, 20, 21, 22, 23, 24, 25, 27, 29, 31, 32, 33, 34, 35, 37, 39, 40, 41, 42, 43, 45, 46, 47, 48, 49, 51, 52, 53, 54, 55, 56, 57, 68, 77, 116, 117, 118, 119, 128, 129, 130, 131, 154, 163, 164, 165, 166, 172, 173, 174, 175, 199, 205, 206, 207, 208, 233, 240, 241, 242, 243, 275]) [174] [] [] (fun i : Nat => [.v (.int .i64 i)]) (fun _ => []) (fun i => i ≤ 2) (fun i => 2 - i) ?_
                 conv => whnf
                 refine ⟨⟨0, ⟨rfl, rfl, rfl⟩, by omega⟩, fun i hi => ?_⟩
                 replace hi : i ≤ 2 := hi
                 conv => whnf
                 refine ifB_dec (fun hi2 => ?_) (fun hi2 => ?_)
                 · replace hi2 : (i : Int) < 2 := hi2
                   conv => whnf
                   refine And.intro (by omega) ?_
                   conv => whnf
                   refine And.intro hT ?_
                   conv => whnf
                   refine And.intro hT ?_
                   conv => whnf
                   refine ifB_ne (fun h9 => (h9 rfl).elim) (fun _ => ?_)
                   conv => whnf
                   refine ifB_f (by simp) ?_
                   conv => whnf
                   rw [show IntKind.i64.wrap ((i : Int) + 1) = ((i + 1 : Nat) : Int) from wrap64 (by omega) (by omega)]
                   exact ⟨i + 1, [], ⟨rfl, rfl, rfl⟩, (by omega : i + 1 ≤ 2), by dsimp only; omega⟩
                 · conv => whnf
                   refine And.intro (by omega) ?_
                   conv => whnf
                   refine And.intro (show I64 k2 from hk.2.1) ?_
                   conv => whnf
                   have hkey : ∀ i : Nat, U64 (([x, keyW k2] : List Int).getD i 0) := allU_getD (fun y hy => by
                     simp only [List.mem_cons, List.not_mem_nil, or_false] at hy
                     rcases hy with rfl | rfl
                     · exact hx
                     · exact u64_keyW _)
                   refine TW.loopD good 0 (base := 0) (lv := [0, 1, 2, 3, 4, 5, 6, 7, 8, 9, 11, 18, 19, 20, 21, 22, 23, 24, 25, 27, 29, 31, 32, 33, 34, 35, 37, 39, 40, 41, 42, 43, 45, 46, 47, 48, 49, 51, 52, 53, 54, 55, 56, 57, 68, 77, 116, 117, 118, 119, 128, 129, 130, 131, 154, 163, 164, 165, 166, 172, 173, 174, 175, 199, 205, 206, 207, 208, 233, 240, 241, 242, 243, 275]) [207] [] [] (fun i : Nat => [.v (.int .i64 i)]) (fun _ => []) (fun i => i ≤ 2) (fun i => 2 - i) ?_
                   conv => whnf
                   refine ⟨⟨0, ⟨rfl, rfl, rfl⟩, by omega⟩, fun i hi => ?_⟩
                   replace hi : i ≤ 2 := hi
                   conv => whnf
                   refine ifB_dec (fun hi2 => ?_) (fun hi2 => ?_)
                   · replace hi2 : (i : Int) < 2 := hi2
                     conv => whnf
                     refine And.intro (by omega) ?_
                     conv => whnf
                     refine And.intro ⟨hT, hkey _⟩ ?_
                     conv => whnf
                     refine And.intro ⟨hT, hkey _⟩ ?_
                     conv => whnf
                     refine ifB_ne (fun h9 => (h9 rfl).elim) (fun _ => ?_)
                     conv => whnf
                     refine ifB_f (notSame _) ?_
                     conv => whnf
                     rw [show IntKind.i64.wrap ((i : Int) + 1) = ((i + 1 : Nat) : Int) from wrap64 (by omega) (by omega)]
                     exact ⟨i + 1, [], ⟨rfl, rfl, rfl⟩, (by omega : i + 1 ≤ 2), by dsimp only; omega⟩
                   · conv => whnf
                     refine And.intro ⟨by omega, hk.1, hk.2.1, hk.2.2⟩ ?_
                     conv => whnf
                     refine TW.loopD good 0 (base := 0) (lv := [0, 1, 2, 3, 4, 5, 6, 7, 8, 9, 11, 18, 19, 20, 21, 22, 23, 24, 25, 27, 29, 31, 32, 33, 34, 35, 37, 39, 40, 41, 42, 43, 45, 46, 47, 48, 49, 51, 52, 53, 54, 55, 56, 57, 68, 77, 116, 117, 118, 119, 128, 129, 130, 131, 154, 163, 164, 165, 166, 172, 173, 174, 175, 199, 205, 206, 207, 208, 233, 240, 241, 242, 243, 275]) [242] [] [] (fun i : Nat => [.v (.int .i64 i)]) (fun _ => []) (fun i => i ≤ 2) (fun i => 2 - i) ?_
                     conv => whnf
                     refine ⟨⟨0, ⟨rfl, rfl, rfl⟩, by omega⟩, fun i hi => ?_⟩
                     replace hi : i ≤ 2 := hi
                     conv => whnf
                     refine ifB_dec (fun hi2 => ?_) (fun hi2 => ?_)
                     · replace hi2 : (i : Int) < 2 := hi2
                       have hi3 : i = 0 ∨ i = 1 := by omega
                       conv => whnf
                       refine And.intro (by omega) ?_
                       conv => whnf
                       refine And.intro ⟨hT, (by rcases hi3 with rfl | rfl; exact hop.2.1; exact (u64_keyG hx : U64 (keyG 4 k2 x))), (by rcases hi3 with rfl | rfl; exact hop.2.2; exact (u64_valG hx : U64 (valG 4 k1 k3 x)))⟩ ?_
                       conv => whnf
                       refine And.intro ⟨hT, (by rcases hi3 with rfl | rfl; exact hop.2.1; exact (u64_keyG hx : U64 (keyG 4 k2 x))), (by rcases hi3 with rfl | rfl; exact hop.2.2; exact (u64_valG hx : U64 (valG 4 k1 k3 x)))⟩ ?_
                       conv => whnf
                       refine ifB_ne (fun h9 => (h9 rfl).elim) (fun _ => ?_)
                       conv => whnf
                       refine ifB_f (by simp) ?_
                       conv => whnf
                       refine ifB_f (notSame _) ?_
                       conv => whnf
                       rw [show IntKind.i64.wrap ((i : Int) + 1) = ((i + 1 : Nat) : Int) from wrap64 (by omega) (by omega)]
                       exact ⟨i + 1, [], ⟨rfl, rfl, rfl⟩, (by omega : i + 1 ≤ 2), by dsimp only; omega⟩
                     · conv => whnf
                       exact ⟨2, [], ⟨rfl, rfl, rfl⟩, by omega, by dsimp only; omega⟩)
              · (conv => whnf
                 refine And.intro (by omega) ?_
                 conv => whnf
                 refine And.intro ⟨hat, by omega, by omega⟩ ?_
                 conv => whnf
                 refine TW.loopD good 0 (base := 0) (lv := [0, 1, 2, 3, 4, 5, 6, 7, 8, 9, 11, 18, 19, 20, 21, 22, 23, 24, 25, 27, 29, 31, 32, 33, 34, 35, 37, 39, 40, 41, 42, 43, 45, 46, 47, 48, 49, 51, 52, 53, 54, 55, 56, 57, 68, 77, 116, 117, 118, 119, 128, 129, 130, 131, 154, 163, 164, 165, 166, 172, 173, 174, 175, 199, 205, 206, 207, 208, 233, 240, 241, 242, 243, 275]) [174] [] [] (fun i : Nat => [.v (.int .i64 i)]) (fun _ => []) (fun i => i ≤ 2) (fun i => 2 - i) ?_
                 conv => whnf
                 refine ⟨⟨0, ⟨rfl, rfl, rfl⟩, by omega⟩, fun i hi => ?_⟩
                 replace hi : i ≤ 2 := hi
                 conv => whnf
                 refine ifB_dec (fun hi2 => ?_) (fun hi2 => ?_)
                 · replace hi2 : (i : Int) < 2 := hi2
                   conv => whnf
                   refine And.intro (by omega) ?_
                   conv => whnf
                   refine And.intro (allU_cut hw _ _ _) ?_
                   conv => whnf
                   refine And.intro (allU_cut hw _ _ _) ?_
                   conv => whnf
                   refine ifB_ne (fun h9 => (h9 rfl).elim) (fun _ => ?_)
                   conv => whnf
                   refine ifB_f (by simp) ?_
                   conv => whnf
                   rw [show IntKind.i64.wrap ((i : Int) + 1) = ((i + 1 : Nat) : Int) from wrap64 (by omega) (by omega)]
                   exact ⟨i + 1, [], ⟨rfl, rfl, rfl⟩, (by omega : i + 1 ≤ 2), by dsimp only; omega⟩
                 · conv => whnf
                   refine And.intro (by omega) ?_
                   conv => whnf
                   refine And.intro (show I64 k2 from hk.2.1) ?_
                   conv => whnf
                   have hkey : ∀ i : Nat, U64 (([x, keyW k2] : List Int).getD i 0) := allU_getD (fun y hy => by
                     simp only [List.mem_cons, List.not_mem_nil, or_false] at hy
                     rcases hy with rfl | rfl
                     · exact hx
                     · exact u64_keyW _)
                   refine TW.loopD good 0 (base := 0) (lv := [0, 1, 2, 3, 4, 5, 6, 7, 8, 9, 11, 18, 19, 20, 21, 22, 23, 24, 25, 27, 29, 31, 32, 33, 34, 35, 37, 39, 40, 41, 42, 43, 45, 46, 47, 48, 49, 51, 52, 53, 54, 55, 56, 57, 68, 77, 116, 117, 118, 119, 128, 129, 130, 131, 154, 163, 164, 165, 166, 172, 173, 174, 175, 199, 205, 206, 207, 208, 233, 240, 241, 242, 243, 275]) [207] [] [] (fun i : Nat => [.v (.int .i64 i)]) (fun _ => []) (fun i => i ≤ 2) (fun i => 2 - i) ?_
                   conv => whnf
                   refine ⟨⟨0, ⟨rfl, rfl, rfl⟩, by omega⟩, fun i hi => ?_⟩
                   replace hi : i ≤ 2 := hi
                   conv => whnf
                   refine ifB_dec (fun hi2 => ?_) (fun hi2 => ?_)
                   · replace hi2 : (i : Int) < 2 := hi2
                     conv => whnf
                     refine And.intro (by omega) ?_
                     conv => whnf
                     refine And.intro ⟨(allU_cut hw _ _ _), hkey _⟩ ?_
                     conv => whnf
                     refine And.intro ⟨(allU_cut hw _ _ _), hkey _⟩ ?_
                     conv => whnf
                     refine ifB_ne (fun h9 => (h9 rfl).elim) (fun _ => ?_)
                     conv => whnf
                     refine ifB_f (notSame _) ?_
                     conv => whnf
                     rw [show IntKind.i64.wrap ((i : Int) + 1) = ((i + 1 : Nat) : Int) from wrap64 (by omega) (by omega)]
                     exact ⟨i + 1, [], ⟨rfl, rfl, rfl⟩, (by omega : i + 1 ≤ 2), by dsimp only; omega⟩
                   · conv => whnf
                     refine And.intro ⟨by omega, hk.1, hk.2.1, hk.2.2⟩ ?_
                     conv => whnf
                     refine TW.loopD good 0 (base := 0) (lv := [0, 1, 2, 3, 4, 5, 6, 7, 8, 9, 11, 18, 19, 20, 21, 22, 23, 24, 25, 27, 29, 31, 32, 33, 34, 35, 37, 39, 40, 41, 42, 43, 45, 46, 47, 48, 49, 51, 52, 53, 54, 55, 56, 57, 68, 77, 116, 117, 118, 119, 128, 129, 130, 131, 154, 163, 164, 165, 166, 172, 173, 174, 175, 199, 205, 206, 207, 208, 233, 240, 241, 242, 243, 275]) [242] [] [] (fun i : Nat => [.v (.int .i64 i)]) (fun _ => []) (fun i => i ≤ 2) (fun i => 2 - i) ?_
                     conv => whnf
                     refine ⟨⟨0, ⟨rfl, rfl, rfl⟩, by omega⟩, fun i hi => ?_⟩
                     replace hi : i ≤ 2 := hi
                     conv => whnf
                     refine ifB_dec (fun hi2 => ?_) (fun hi2 => ?_)
                     · replace hi2 : (i : Int) < 2 := hi2
                       have hi3 : i = 0 ∨ i = 1 := by omega
                       conv => whnf
                       refine And.intro (by omega) ?_
                       conv => whnf
                       refine And.intro ⟨(allU_cut hw _ _ _), (by rcases hi3 with rfl | rfl; exact hop.2.1; exact (u64_keyG hx : U64 (keyG 4 k2 x))), (by rcases hi3 with rfl | rfl; exact hop.2.2; exact (u64_valG hx : U64 (valG 4 k1 k3 x)))⟩ ?_
                       conv => whnf
                       refine And.intro ⟨(allU_cut hw _ _ _), (by rcases hi3 with rfl | rfl; exact hop.2.1; exact (u64_keyG hx : U64 (keyG 4 k2 x))), (by rcases hi3 with rfl | rfl; exact hop.2.2; exact (u64_valG hx : U64 (valG 4 k1 k3 x)))⟩ ?_
                       conv => whnf
                       refine ifB_ne (fun h9 => (h9 rfl).elim) (fun _ => ?_)
                       conv => whnf
                       refine ifB_f (by simp) ?_
                       conv => whnf
                       refine ifB_f (notSame _) ?_
                       conv => whnf
                       rw [show IntKind.i64.wrap ((i : Int) + 1) = ((i + 1 : Nat) : Int) from wrap64 (by omega) (by omega)]
                       exact ⟨i + 1, [], ⟨rfl, rfl, rfl⟩, (by omega : i + 1 ≤ 2), by dsimp only; omega⟩
                     · conv => whnf
                       exact ⟨3, [], ⟨rfl, rfl, rfl⟩, by omega, by dsimp only; omega⟩)
            · conv => whnf
              rw [show IntKind.i64.wrap ((d : Int) + 1) = ((d + 1 : Nat) : Int) from wrap64 (by omega) (by omega)]
              exact ⟨d + 1, [], ⟨rfl, rfl, rfl⟩, (by omega : d + 1 ≤ 2), by dsimp only; omega⟩
        · conv => whnf)
     · refine ifB_f (show decide ((((j, pl) : Nat × List Int).1 : Int) < n1) = false from decide_eq_false (by dsimp only; omega)) ?_
       conv => whnf
       (refine And.intro ⟨.inr (.inr rfl), hf, hst⟩ ?_
        conv => whnf
        rw [Int.toNat_natCast, hks, hvs, hn]
        refine And.intro ⟨⟨rfl, rfl, rfl, rfl⟩, hV, hf, hri⟩ ?_
        conv => whnf
        rw [hxs, hL]
        repeat (refine And.intro (by first | omega | (show (2 + 4 * m) * 8 ≤ 140737488355328; omega)) ?_; conv => whnf)
        refine And.intro ⟨hat, by omega, by omega⟩ ?_
        conv => whnf
        obtain ⟨c1, c2⟩ := ipick_bounds at_ (n := ((2 + 4 * m : Nat) : Int)) (by omega)
        repeat (refine And.intro (by omega) ?_; conv => whnf)
        have hT : AllU (L.set (0 + addN 0 (ipick at_ ((2 + 4 * m : Nat) : Int)).toNat * (0 + 1) + 0) x) := allU_set aw _ hx
        refine TW.loopD good 0 (base := 0) (lv := [0, 1, 2, 3, 4, 5, 6, 7, 8, 9, 11, 18, 19, 20, 21, 22, 23, 24, 25, 27, 29, 31, 32, 33, 34, 35, 37, 39, 40, 41, 42, 43, 45, 46, 47, 48, 49, 51, 52, 53, 54, 55, 56, 57, 68, 77, 116, 117, 118, 119, 128, 129, 130, 131, 154, 163, 164, 165, 166, 172, 173, 174, 175, 199, 205, 206, 207, 208, 233, 240, 241, 242, 243, 275]) [118] [] [] (fun d : Nat => [.v (.int .i64 d)]) (fun _ => []) (fun d => d ≤ 2) (fun d => 2 - d) ?_
        conv => whnf
        refine ⟨⟨0, ⟨rfl, rfl, rfl⟩, by omega⟩, fun d hd => ?_⟩
        replace hd : d ≤ 2 := hd
        conv => whnf
        refine ifB_dec (fun hd2 => ?_) (fun hd2 => ?_)
        · replace hd2 : (d : Int) < 2 := hd2
          conv => whnf
          refine And.intro (by omega) ?_
          conv => whnf
          refine And.intro (by split <;> omega) ?_
          conv => whnf
          refine TW.loopD good 0 (base := 0) (lv := [0, 1, 2, 3, 4, 5, 6, 7, 8, 9, 11, 18, 19, 20, 21, 22, 23, 24, 25, 27, 29, 31, 32, 33, 34, 35, 37, 39, 40, 41, 42, 43, 45, 46, 47, 48, 49, 51, 52, 53, 54, 55, 56, 57, 68, 77, 116, 117, 118, 119, 128, 129, 130, 131, 154, 163, 164, 165, 166, 172, 173, 174, 175, 199, 205, 206, 207, 208, 233, 240, 241, 242, 243, 275]) [130] [] [] (fun z : Nat => [.v (.int .i64 z)]) (fun _ => []) (fun z => z ≤ 2) (fun z => 2 - z) ?_
          conv => whnf
          refine ⟨⟨0, ⟨rfl, rfl, rfl⟩, by omega⟩, fun z hz => ?_⟩
          replace hz : z ≤ 2 := hz
          conv => whnf
          refine ifB_dec (fun hz2 => ?_) (fun hz2 => ?_)
          · replace hz2 : (z : Int) < 2 := hz2
            have hz3 : z = 0 ∨ z = 1 := by omega
            rcases hz3 with rfl | rfl
            · conv => whnf
              refine And.intro (by omega) ?_
              conv => whnf
              refine And.intro hpl ?_
              conv => whnf
              refine And.intro hpl ?_
              conv => whnf
              refine ifB_ne (fun h9 => (h9 rfl).elim) (fun _ => ?_)
              conv => whnf
              refine ifB_f (notSame _) ?_
              conv => whnf
              exact ⟨1, [], ⟨rfl, rfl, rfl⟩, by omega, by dsimp only; omega⟩
            · conv => whnf
              refine And.intro (by omega) ?_
              conv => whnf
              refine And.intro (allU_cut hlp _ _ _) ?_
              conv => whnf
              refine And.intro (allU_cut hlp _ _ _) ?_
              conv => whnf
              refine ifB_ne (fun h9 => (h9 rfl).elim) (fun _ => ?_)
              conv => whnf
              refine ifB_f (notSame _) ?_
              conv => whnf
              exact ⟨2, [], ⟨rfl, rfl, rfl⟩, by omega, by dsimp only; omega⟩
          · conv => whnf
            refine And.intro (by split <;> omega) ?_
            conv => whnf
            refine TW.loopD good 0 (base := 0) (lv := [0, 1, 2, 3, 4, 5, 6, 7, 8, 9, 11, 18, 19, 20, 21, 22, 23, 24, 25, 27, 29, 31, 32, 33, 34, 35, 37, 39, 40, 41, 42, 43, 45, 46, 47, 48, 49, 51, 52, 53, 54, 55, 56, 57, 68, 77, 116, 117, 118, 119, 128, 129, 130, 131, 154, 163, 164, 165, 166, 172, 173, 174, 175, 199, 205, 206, 207, 208, 233, 240, 241, 242, 243, 275]) [165] [] [] (fun y : Nat => [.v (.int .i64 y)]) (fun _ => []) (fun y => y ≤ 3) (fun y => 3 - y) ?_
            conv => whnf
            refine ⟨⟨0, ⟨rfl, rfl, rfl⟩, by omega⟩, fun y hy => ?_⟩
            replace hy : y ≤ 3 := hy
            conv => whnf
            refine ifB_dec (fun hy2 => ?_) (fun hy2 => ?_)
            · replace hy2 : (y : Int) < 3 := hy2
              have hy3 : y = 0 ∨ y = 1 ∨ y = 2 := by omega
              rcases hy3 with rfl | rfl | rfl
              · (conv => whnf
                 refine And.intro (by omega) ?_
                 conv => whnf
                 refine And.intro ⟨hat, by omega, by omega⟩ ?_
                 conv => whnf
                 refine TW.loopD good 0 (base := 0) (lv := [0, 1, 2, 3, 4, 5, 6, 7, 8, 9, 11, 18, 19, 20, 21, 22, 23, 24, 25, 27, 29, 31, 32, 33, 34, 35, 37, 39, 40, 41, 42, 43, 45, 46, 47, 48, 49, 51, 52, 53, 54, 55, 56, 57, 68, 77, 116, 117, 118, 119, 128, 129, 130, 131, 154, 163, 164, 165, 166, 172, 173, 174, 175, 199, 205, 206, 207, 208, 233, 240, 241, 242, 243, 275]) [174] [] [] (fun i : Nat => [.v (.int .i64 i)]) (fun _ => []) (fun i => i ≤ 2) (fun i => 2 - i) ?_
                 conv => whnf
                 refine ⟨⟨0, ⟨rfl, rfl, rfl⟩, by omega⟩, fun i hi => ?_⟩
                 replace hi : i ≤ 2 := hi
                 conv => whnf
                 refine ifB_dec (fun hi2 => ?_) (fun hi2 => ?_)
                 · replace hi2 : (i : Int) < 2 := hi2
                   conv => whnf
                   refine And.intro (by omega) ?_
                   conv => whnf
                   refine And.intro aw ?_
                   conv => whnf
                   refine And.intro aw ?_
                   conv => whnf
                   refine ifB_ne (fun h9 => (h9 rfl).elim) (fun _ => ?_)
                   conv => whnf
                   refine ifB_f (by simp) ?_
                   conv => whnf
                   rw [show IntKind.i64.wrap ((i : Int) + 1) = ((i + 1 : Nat) : Int) from wrap64 (by omega) (by omega)]
                   exact ⟨i + 1, [], ⟨rfl, rfl, rfl⟩, (by omega : i + 1 ≤ 2), by dsimp only; omega⟩
                 · conv => whnf
                   refine And.intro (by omega) ?_
                   conv => whnf
                   refine And.intro (show I64 k2 from hk.2.1) ?_
                   conv => whnf
                   have hkey : ∀ i : Nat, U64 (([x, keyW k2] : List Int).getD i 0) := allU_getD (fun y hy => by
                     simp only [List.mem_cons, List.not_mem_nil, or_false] at hy
                     rcases hy with rfl | rfl
                     · exact hx
                     · exact u64_keyW _)
                   refine TW.loopD good 0 (base := 0) (lv := [0, 1, 2, 3, 4, 5, 6, 7, 8, 9, 11, 18, 19, 20, 21, 22, 23, 24, 25, 27, 29, 31, 32, 33, 34, 35, 37, 39, 40, 41, 42, 43, 45, 46, 47, 48, 49, 51, 52, 53, 54, 55, 56, 57, 68, 77, 116, 117, 118, 119, 128, 129, 130, 131, 154, 163, 164, 165, 166, 172, 173, 174, 175, 199, 205, 206, 207, 208, 233, 240, 241, 242, 243, 275]) [207] [] [] (fun i : Nat => [.v (.int .i64 i)]) (fun _ => []) (fun i => i ≤ 2) (fun i => 2 - i) ?_
                   conv => whnf
                   refine ⟨⟨0, ⟨rfl, rfl, rfl⟩, by omega⟩, fun i hi => ?_⟩
                   replace hi : i ≤ 2 := hi
                   conv => whnf
                   refine ifB_dec (fun hi2 => ?_) (fun hi2 => ?_)
                   · replace hi2 : (i : Int) < 2 := hi2
                     conv => whnf
                     refine And.intro (by omega) ?_
                     conv => whnf
                     refine And.intro ⟨aw, hkey _⟩ ?_
                     conv => whnf
                     refine And.intro ⟨aw, hkey _⟩ ?_
                     conv => whnf
                     refine ifB_ne (fun h9 => (h9 rfl).elim) (fun _ => ?_)
                     conv => whnf
                     refine ifB_f (notSame _) ?_
                     conv => whnf
                     rw [show IntKind.i64.wrap ((i : Int) + 1) = ((i + 1 : Nat) : Int) from wrap64 (by omega) (by omega)]
                     exact ⟨i + 1, [], ⟨rfl, rfl, rfl⟩, (by omega : i + 1 ≤ 2), by dsimp only; omega⟩
                   · conv => whnf
                     refine And.intro ⟨by omega, hk.1, hk.2.1, hk.2.2⟩ ?_
                     conv => whnf
                     refine TW.loopD good 0 (base := 0) (lv := [0, 1, 2, 3, 4, 5, 6, 7, 8, 9, 11, 18, 19, 20, 21, 22, 23, 24, 25, 27, 29, 31, 32, 33, 34, 35, 37, 39, 40, 41, 42, 43, 45, 46, 47, 48, 49, 51, 52, 53, 54, 55, 56, 57, 68, 77, 116, 117, 118, 119, 128, 129, 130, 131, 154, 163, 164, 165, 166, 172, 173, 174, 175, 199, 205, 206, 207, 208, 233, 240, 241, 242, 243, 275]) [242] [] [] (fun i : Nat => [.v (.int .i64 i)]) (fun _ => []) (fun i => i ≤ 2) (fun i => 2 - i) ?_
                     conv => whnf
                     refine ⟨⟨0, ⟨rfl, rfl, rfl⟩, by omega⟩, fun i hi => ?_⟩
                     replace hi : i ≤ 2 := hi
                     conv => whnf
                     refine ifB_dec (fun hi2 => ?_) (fun hi2 => ?_)
                     · replace hi2 : (i : Int) < 2 := hi2
                       have hi3 : i = 0 ∨ i = 1 := by omega
                       conv => whnf
                       refine And.intro (by omega) ?_
                       conv => whnf
                       refine And.intro ⟨aw, (by rcases hi3 with rfl | rfl; exact hop.2.1; exact (u64_keyG hx : U64 (keyG 4 k2 x))), (by rcases hi3 with rfl | rfl; exact hop.2.2; exact (u64_valG hx : U64 (valG 4 k1 k3 x)))⟩ ?_
                       conv => whnf
                       refine And.intro ⟨aw, (by rcases hi3 with rfl | rfl; exact hop.2.1; exact (u64_keyG hx : U64 (keyG 4 k2 x))), (by rcases hi3 with rfl | rfl; exact hop.2.2; exact (u64_valG hx : U64 (valG 4 k1 k3 x)))⟩ ?_
                       conv => whnf
                       refine ifB_ne (fun h9 => (h9 rfl).elim) (fun _ => ?_)
                       conv => whnf
                       refine ifB_f (by simp) ?_
                       conv => whnf
                       refine ifB_f (notSame _) ?_
                       conv => whnf
                       rw [show IntKind.i64.wrap ((i : Int) + 1) = ((i + 1 : Nat) : Int) from wrap64 (by omega) (by omega)]
                       exact ⟨i + 1, [], ⟨rfl, rfl, rfl⟩, (by omega : i + 1 ≤ 2), by dsimp only; omega⟩
                     · conv => whnf
                       exact ⟨1, [], ⟨rfl, rfl, rfl⟩, by omega, by dsimp only; omega⟩)
              · (conv => whnf
                 refine And.intro (by omega) ?_
                 conv => whnf
                 refine And.intro ⟨hat, by omega, by omega⟩ ?_
                 conv => whnf
                 refine TW.loopD good 0 (base := 0) (lv := [0, 1, 2, 3, 4, 5, 6, 7, 8, 9, 11, 18, 19, 20, 21, 22, 23, 24, 25, 27, 29, 31, 32, 33, 34, 35, 37, 39, 40, 41, 42, 43, 45, 46, 47, 48, 49, 51, 52, 53, 54, 55, 56, 57, 68, 77, 116, 117, 118, 119, 128, 129, 130, 131, 154, 163, 164, 165, 166, 172, 173, 174, 175, 199, 205, 206, 207, 208, 233, 240, 241, 242, 243, 275]) [174] [] [] (fun i : Nat => [.v (.int .i64 i)]) (fun _ => []) (fun i => i ≤ 2) (fun i => 2 - i) ?_
                 conv => whnf
                 refine ⟨⟨0, ⟨rfl, rfl, rfl⟩, by omega⟩, fun i hi => ?_⟩
                 replace hi : i ≤ 2 := hi
                 conv => whnf
                 refine ifB_dec (fun hi2 => ?_) (fun hi2 => ?_)
                 · replace hi2 : (i : Int) < 2 := hi2
                   conv => whnf
                   refine And.intro (by omega) ?_
                   conv => whnf
                   refine And.intro hT ?_
                   conv => whnf
                   refine And.intro hT ?_
                   conv => whnf
                   refine ifB_ne (fun h9 => (h9 rfl).elim) (fun _ => ?_)
                   conv => whnf
                   refine ifB_f (by simp) ?_
                   conv => whnf
                   rw [show IntKind.i64.wrap ((i : Int) + 1) = ((i + 1 : Nat) : Int) from wrap64 (by omega) (by omega)]
                   exact ⟨i + 1, [], ⟨rfl, rfl, rfl⟩, (by omega : i + 1 ≤ 2), by dsimp only; omega⟩
                 · conv => whnf
                   refine And.intro (by omega) ?_
                   conv => whnf
                   refine And.intro (show I64 k2 from hk.2.1) ?_
                   conv => whnf
                   have hkey : ∀ i : Nat, U64 (([x, keyW k2] : List Int).getD i 0) := allU_getD (fun y hy => by
                     simp only [List.mem_cons, List.not_mem_nil, or_false] at hy
                     rcases hy with rfl | rfl
                     · exact hx
                     · exact u64_keyW _)
                   refine TW.loopD good 0 (base := 0) (lv := [0, 1, 2, 3, 4, 5, 6, 7, 8, 9, 11, 18, 19, 20, 21, 22, 23, 24, 25, 27, 29, 31, 32, 33, 34, 35, 37, 39, 40, 41, 42, 43, 45, 46, 47, 48, 49, 51, 52, 53, 54, 55, 56, 57, 68, 77, 116, 117, 118, 119, 128, 129, 130, 131, 154, 163, 164, 165, 166, 172, 173, 174, 175, 199, 205, 206, 207, 208, 233, 240, 241, 242, 243, 275]) [207] [] [] (fun i : Nat => [.v (.int .i64 i)]) (fun _ => []) (fun i => i ≤ 2) (fun i => 2 - i) ?_
                   conv => whnf
                   refine ⟨⟨0, ⟨rfl, rfl, rfl⟩, by omega⟩, fun i hi => ?_⟩
                   replace hi : i ≤ 2 := hi
                   conv => whnf
                   refine ifB_dec (fun hi2 => ?_) (fun hi2 => ?_)
                   · replace hi2 : (i : Int) < 2 := hi2
                     conv => whnf
                     refine And.intro (by omega) ?_
                     conv => whnf
                     refine And.intro ⟨hT, hkey _⟩ ?_
                     conv => whnf
                     refine And.intro ⟨hT, hkey _⟩ ?_
                     conv => whnf
                     refine ifB_ne (fun h9 => (h9 rfl).elim) (fun _ => ?_)
                     conv => whnf
                     refine ifB_f (notSame _) ?_
                     conv => whnf
                     rw [show IntKind.i64.wrap ((i : Int) + 1) = ((i + 1 : Nat) : Int) from wrap64 (by omega) (by omega)]
                     exact ⟨i + 1, [], ⟨rfl, rfl, rfl⟩, (by omega : i + 1 ≤ 2), by dsimp only; omega⟩
                   · conv => whnf
                     refine And.intro ⟨by omega, hk.1, hk.2.1, hk.2.2⟩ ?_
                     conv => whnf
                     refine TW.loopD good 0 (base := 0) (lv := [0, 1, 2, 3, 4, 5, 6, 7, 8, 9, 11, 18, 19, 20, 21, 22, 23, 24, 25, 27, 29, 31, 32, 33, 34, 35, 37, 39, 40, 41, 42, 43, 45, 46, 47, 48, 49, 51, 52, 53, 54, 55, 56, 57, 68, 77, 116, 117, 118, 119, 128, 129, 130, 131, 154, 163, 164, 165, 166, 172, 173, 174, 175, 199, 205, 206, 207, 208, 233, 240, 241, 242, 243, 275]) [242] [] [] (fun i : Nat => [.v (.int .i64 i)]) (fun _ => []) (fun i => i ≤ 2) (fun i => 2 - i) ?_
                     conv => whnf
                     refine ⟨⟨0, ⟨rfl, rfl, rfl⟩, by omega⟩, fun i hi => ?_⟩
                     replace hi : i ≤ 2 := hi
                     conv => whnf
                     refine ifB_dec (fun hi2 => ?_) (fun hi2 => ?_)
                     · replace hi2 : (i : Int) < 2 := hi2
                       have hi3 : i = 0 ∨ i = 1 := by omega
                       conv => whnf
                       refine And.intro (by omega) ?_
                       conv => whnf
                       refine And.intro ⟨hT, (by rcases hi3 with rfl | rfl; exact hop.2.1; exact (u64_keyG hx : U64 (keyG 4 k2 x))), (by rcases hi3 with rfl | rfl; exact hop.2.2; exact (u64_valG hx : U64 (valG 4 k1 k3 x)))⟩ ?_
                       conv => whnf
                       refine And.intro ⟨hT, (by rcases hi3 with rfl | rfl; exact hop.2.1; exact (u64_keyG hx : U64 (keyG 4 k2 x))), (by rcases hi3 with rfl | rfl; exact hop.2.2; exact (u64_valG hx : U64 (valG 4 k1 k3 x)))⟩ ?_
                       conv => whnf
                       refine ifB_ne (fun h9 => (h9 rfl).elim) (fun _ => ?_)
                       conv => whnf
                       refine ifB_f (by simp) ?_
                       conv => whnf
                       refine ifB_f (notSame _) ?_
                       conv => whnf
                       rw [show IntKind.i64.wrap ((i : Int) + 1) = ((i + 1 : Nat) : Int) from wrap64 (by omega) (by omega)]
                       exact ⟨i + 1, [], ⟨rfl, rfl, rfl⟩, (by omega : i + 1 ≤ 2), by dsimp only; omega⟩
                     · conv => whnf
                       exact ⟨2, [], ⟨rfl, rfl, rfl⟩, by omega, by dsimp only; omega⟩)
              · (conv => whnf
                 refine And.intro (by omega) ?_
                 conv => whnf
                 refine And.intro ⟨hat, by omega, by omega⟩ ?_
                 conv => whnf
                 refine TW.loopD good 0 (base := 0) (lv := [0, 1, 2, 3, 4, 5, 6, 7, 8, 9, 11, 18, 19, 20, 21, 22, 23, 24, 25, 27, 29, 31, 32, 33, 34, 35, 37, 39, 40, 41, 42, 43, 45, 46, 47, 48, 49, 51, 52, 53, 54, 55, 56, 57, 68, 77, 116, 117, 118, 119, 128, 129, 130, 131, 154, 163, 164, 165, 166, 172, 173, 174, 175, 199, 205, 206, 207, 208, 233, 240, 241, 242, 243, 275]) [174] [] [] (fun i : Nat => [.v (.int .i64 i)]) (fun _ => []) (fun i => i ≤ 2) (fun i => 2 - i) ?_
                 conv => whnf
                 refine ⟨⟨0, ⟨rfl, rfl, rfl⟩, by omega⟩, fun i hi => ?_⟩
                 replace hi : i ≤ 2 := hi
                 conv => whnf
                 refine ifB_dec (fun hi2 => ?_) (fun hi2 => ?_)
                 · replace hi2 : (i : Int) < 2 := hi2
                   conv => whnf
                   refine And.intro (by omega) ?_
                   conv => whnf
                   refine And.intro (allU_cut hw _ _ _) ?_
                   conv => whnf
                   refine And.intro (allU_cut hw _ _ _) ?_
                   conv => whnf
                   refine ifB_ne (fun h9 => (h9 rfl).elim) (fun _ => ?_)
                   conv => whnf
                   refine ifB_f (by simp) ?_
                   conv => whnf
                   rw [show IntKind.i64.wrap ((i : Int) + 1) = ((i + 1 : Nat) : Int) from wrap64 (by omega) (by omega)]
                   exact ⟨i + 1, [], ⟨rfl, rfl, rfl⟩, (by omega : i + 1 ≤ 2), by dsimp only; omega⟩
                 · conv => whnf
                   refine And.intro (by omega) ?_
                   conv => whnf
                   refine And.intro (show I64 k2 from hk.2.1) ?_
                   conv => whnf
                   have hkey : ∀ i : Nat, U64 (([x, keyW k2] : List Int).getD i 0) := allU_getD (fun y hy => by
                     simp only [List.mem_cons, List.not_mem_nil, or_false] at hy
                     rcases hy with rfl | rfl
                     · exact hx
                     · exact u64_keyW _)
                   refine TW.loopD good 0 (base := 0) (lv := [0, 1, 2, 3, 4, 5, 6, 7, 8, 9, 11, 18, 19, 20, 21, 22, 23, 24, 25, 27, 29, 31, 32, 33, 34, 35, 37, 39, 40, 41, 42, 43, 45, 46, 47, 48, 49, 51, 52, 53, 54, 55, 56, 57, 68, 77, 116, 117, 118, 119, 128, 129, 130, 131, 154, 163, 164, 165, 166, 172, 173, 174, 175, 199, 205, 206, 207, 208, 233, 240, 241, 242, 243, 275]) [207] [] [] (fun i : Nat => [.v (.int .i64 i)]) (fun _ => []) (fun i => i ≤ 2) (fun i => 2 - i) ?_
                   conv => whnf
                   refine ⟨⟨0, ⟨rfl, rfl, rfl⟩, by omega⟩, fun i hi => ?_⟩
                   replace hi : i ≤ 2 := hi
                   conv => whnf
                   refine ifB_dec (fun hi2 => ?_) (fun hi2 => ?_)
                   · replace hi2 : (i : Int) < 2 := hi2
                     conv => whnf
                     refine And.intro (by omega) ?_
                     conv => whnf
                     refine And.intro ⟨(allU_cut hw _ _ _), hkey _⟩ ?_
                     conv => whnf
                     refine And.intro ⟨(allU_cut hw _ _ _), hkey _⟩ ?_
                     conv => whnf
                     refine ifB_ne (fun h9 => (h9 rfl).elim) (fun _ => ?_)
                     conv => whnf
                     refine ifB_f (notSame _) ?_
                     conv => whnf
                     rw [show IntKind.i64.wrap ((i : Int) + 1) = ((i + 1 : Nat) : Int) from wrap64 (by omega) (by omega)]
                     exact ⟨i + 1, [], ⟨rfl, rfl, rfl⟩, (by omega : i + 1 ≤ 2), by dsimp only; omega⟩
                   · conv => whnf
                     refine And.intro ⟨by omega, hk.1, hk.2.1, hk.2.2⟩ ?_
                     conv => whnf
                     refine TW.loopD good 0 (base := 0) (lv := [0, 1, 2, 3, 4, 5, 6, 7, 8, 9, 11, 18, 19, 20, 21, 22, 23, 24, 25, 27, 29, 31, 32, 33, 34, 35, 37, 39, 40, 41, 42, 43, 45, 46, 47, 48, 49, 51, 52, 53, 54, 55, 56, 57, 68, 77, 116, 117, 118, 119, 128, 129, 130, 131, 154, 163, 164, 165, 166, 172, 173, 174, 175, 199, 205, 206, 207, 208, 233, 240, 241, 242, 243, 275]) [242] [] [] (fun i : Nat => [.v (.int .i64 i)]) (fun _ => []) (fun i => i ≤ 2) (fun i => 2 - i) ?_
                     conv => whnf
                     refine ⟨⟨0, ⟨rfl, rfl, rfl⟩, by omega⟩, fun i hi => ?_⟩
                     replace hi : i ≤ 2 := hi
                     conv => whnf
                     refine ifB_dec (fun hi2 => ?_) (fun hi2 => ?_)
                     · replace hi2 : (i : Int) < 2 := hi2
                       have hi3 : i = 0 ∨ i = 1 := by omega
                       conv => whnf
                       refine And.intro (by omega) ?_
                       conv => whnf
                       refine And.intro ⟨(allU_cut hw _ _ _), (by rcases hi3 with rfl | rfl; exact hop.2.1; exact (u64_keyG hx : U64 (keyG 4 k2 x))), (by rcases hi3 with rfl | rfl; exact hop.2.2; exact (u64_valG hx : U64 (valG 4 k1 k3 x)))⟩ ?_
                       conv => whnf
                       refine And.intro ⟨(allU_cut hw _ _ _), (by rcases hi3 with rfl | rfl; exact hop.2.1; exact (u64_keyG hx : U64 (keyG 4 k2 x))), (by rcases hi3 with rfl | rfl; exact hop.2.2; exact (u64_valG hx : U64 (valG 4 k1 k3 x)))⟩ ?_
                       conv => whnf
                       refine ifB_ne (fun h9 => (h9 rfl).elim) (fun _ => ?_)
                       conv => whnf
                       refine ifB_f (by simp) ?_
                       conv => whnf
                       refine ifB_f (notSame _) ?_
                       conv => whnf
                       rw [show IntKind.i64.wrap ((i : Int) + 1) = ((i + 1 : Nat) : Int) from wrap64 (by omega) (by omega)]
                       exact ⟨i + 1, [], ⟨rfl, rfl, rfl⟩, (by omega : i + 1 ≤ 2), by dsimp only; omega⟩
                     · conv => whnf
                       exact ⟨3, [], ⟨rfl, rfl, rfl⟩, by omega, by dsimp only; omega⟩)
            · conv => whnf
              rw [show IntKind.i64.wrap ((d : Int) + 1) = ((d + 1 : Nat) : Int) from wrap64 (by omega) (by omega)]
              exact ⟨d + 1, [], ⟨rfl, rfl, rfl⟩, (by omega : d + 1 ≤ 2), by dsimp only; omega⟩
        · conv => whnf))
end Go.Proofs.YtlcpcgdecodjfaaGreatDoor
namespace Go.Proofs.YtlcpcgdecodjfaaGreatDoor
open Go.RowKit Go.Proofs.YtlcpcgdecodjfaaGreatDoor.Am
set_option linter.unusedVariables false
set_option linter.unusedSimpArgs false

theorem flI2 {w : World} {a : Option Addr} {len cap : Nat} {st : List Int} (s : SlFl [.i64, .i64] w a len cap st) : AllI st := by
  intro y hy
  obtain ⟨i, hi, rfl⟩ := List.getElem_of_mem hy
  have := s.2.2 i _ (List.getElem?_eq_getElem hi)
  have hk : kc [.i64, .i64] i = .i64 := by
    unfold kc
    have : i % 2 = 0 ∨ i % 2 = 1 := by omega
    rcases this with h | h <;> simp [h]
  rw [hk] at this
  exact i64_of_wf this
theorem flU2 {w : World} {a : Option Addr} {len cap : Nat} {st : List Int} (s : SlFl [.u64, .u64] w a len cap st) : AllU st := by
  intro y hy
  obtain ⟨i, hi, rfl⟩ := List.getElem_of_mem hy
  have := s.2.2 i _ (List.getElem?_eq_getElem hi)
  have hk : kc [.u64, .u64] i = .u64 := by
    unfold kc
    have : i % 2 = 0 ∨ i % 2 = 1 := by omega
    rcases this with h | h <;> simp [h]
  rw [hk] at this
  exact u64_of_wf this
theorem ordD : OrdD bBefore iWord bWordOk iRank where
  wd := eRWord_ok
  enc := eEnc4_ok (eRTree_ok (eRBuildB_ok bBefore_wt eRBf_ok) eRRk_ok)
  uw := fun _ => u64_word
  ris := fun h hn => rises_rkL h hn
  yes := fun hu h => open_right hu h
  no := fun hu hf hl hr hw => right_open hu hf hl hr hw
theorem ordS : OrdS bBefore iWord bWordOk iRank iMix where
  D := ordD
  rb := eRBuildB_ok bBefore_wt eRBf_ok
  rr := eRRk_ok
  hwt := bBefore_wt
  same := fun h hn _ _ _ hk => do_same h hn hk
  ru := fun _ => u64_rank
theorem orderTells_pure {bf : Int → Int → Bool} {wf : Int → Int} {wb : Int → Bool} {rf wt : Int → Int} {ls : Int → Int → Bool} (F : OrdF bf wf wb rf ls) (S : OrdS bf wf wb rf wt) (room : Int) (hr : I64 room) (ok op on : Int) (hok : I64 ok ∧ I64 op ∧ I64 on) (n1 : Nat) (raw : List Int) (hraw : AllI raw) (n2 : Nat) (lp : List Int) (hlp : AllU lp) (q : Nat) (st : List Int) (hst : AllI st) (n3 : Nat) (w : List Int) (hw : AllU w) (at_ : Int) (hat : I64 at_) (x : Int) (hx : U64 x) (k1 k2 k3 : Int) (hk : I64 k1 ∧ I64 k2 ∧ I64 k3) (oc okey ov : Int) (hop : I64 oc ∧ U64 okey ∧ U64 ov) :
    Pure Tryz.prog glM 3 [.v (.int .i64 room), .agg [.v (.int .i64 ok), .v (.int .i64 op), .v (.int .i64 on)], .fl [.i64, .i64] n1 raw, .fl [.u64, .u64] n2 lp, .fl [.i64, .i64, .i64] q st, .fl [.u64] n3 w, .v (.int .i64 at_), .v (.int .u64 x), .agg [.v (.int .i64 k1), .v (.int .i64 k2), .v (.int .i64 k3)], .agg [.v (.int .i64 oc), .v (.int .u64 okey), .v (.int .u64 ov)]] (.v (.bool true)) := by
  by_cases h20 : on > 20
  · by_cases h256 : on ≤ 256
    · exact orderTells_pureb F S room hr ok op on hok n1 raw hraw n2 lp hlp q st hst n3 w hw at_ hat x hx k1 k2 k3 hk oc okey ov hop h20 h256
    · exact orderTells_purec F S room hr ok op on hok n1 raw hraw n2 lp hlp q st hst n3 w hw at_ hat x hx k1 k2 k3 hk oc okey ov hop h20 h256
  · exact orderTells_purea F S room hr ok op on hok n1 raw hraw n2 lp hlp q st hst n3 w hw at_ hat x hx k1 k2 k3 hk oc okey ov hop h20
theorem orderTells_walk (w : World) (hg : GlP glM w) (room : Int) (hr : I64 room) (ok : Int) (h1 : I64 ok) (op : Int) (h2 : I64 op) (on : Int) (h3 : I64 on) (a2 : Option Addr) (len2 cap2 : Nat) (raw : List Int) (s2 : SlFl [.i64, .i64] w a2 len2 cap2 raw) (a3 : Option Addr) (len3 cap3 : Nat) (lp : List Int) (s3 : SlFl [.u64, .u64] w a3 len3 cap3 lp) (a4 : Option Addr) (len4 cap4 : Nat) (st : List Int) (s4 : SlFl [.i64, .i64, .i64] w a4 len4 cap4 st) (a5 : Option Addr) (len5 cap5 : Nat) (ws : List Int) (s5 : SlIn .u64 w a5 len5 cap5 ws) (x5 : ∀ n ∈ ws, (Lit.int .u64 n).wf = true) (at_ : Int) (hat : I64 at_) (x : Int) (hx : U64 x) (k1 : Int) (g1 : I64 k1) (k2 : Int) (g2 : I64 k2) (k3 : Int) (g3 : I64 k3) (oc : Int) (o1 : I64 oc) (okey : Int) (o2 : U64 okey) (ov : Int) (o3 : U64 ov) :
    Calls Tryz.prog 3 #[.int .i64 room, .agg ⟨[.int .i64 ok, .int .i64 op, .int .i64 on]⟩, .slice a2 len2 cap2, .slice a3 len3 cap3, .slice a4 len4 cap4, .slice a5 len5 cap5, .int .i64 at_, .int .u64 x, .agg ⟨[.int .i64 k1, .int .i64 k2, .int .i64 k3]⟩, .agg ⟨[.int .i64 oc, .int .u64 okey, .int .u64 ov]⟩] w fun e w' => e = .returned (.bool true) ∧ Below w.heap.size w w' :=
  row_ofM (orderTells_pure ordF ordS room hr ok op on ⟨h1, h2, h3⟩ len2 raw (flI2 s2) len3 lp (flU2 s3) len4 st (flI3 s4) len5 ws (fun y hy => u64_of_wf (x5 y hy)) at_ hat x hx k1 k2 k3 ⟨g1, g2, g3⟩ oc okey ov ⟨o1, o2, o3⟩) w hg
    (.cons (.v rfl) (.cons (.agg (.cons (.v rfl) (.cons (.v rfl) (.cons (.v rfl) .nil)))) (.cons s2.1 (.cons s3.1 (.cons s4.1 (.cons (tv_slIn s5) (.cons (.v rfl) (.cons (.v rfl) (.cons (.agg (.cons (.v rfl) (.cons (.v rfl) (.cons (.v rfl) .nil)))) (.cons (.agg (.cons (.v rfl) (.cons (.v rfl) (.cons (.v rfl) .nil)))) .nil))))))))))
end Go.Proofs.YtlcpcgdecodjfaaGreatDoor
