/- Texts put together: PrS, PrG, PrH, PrI, PrJ, PrK, PrL, PrM, PrN, PrO. -/
import Derived.Test.YtnplgklnkcjmnaaGreatDoorDictUpdateM7
import Derived.Shelf.SlSortCmp.NoneTotal
import Derived.Shelf.Lay
import Derived.Ground.SlsfProg
namespace Go.Proofs
open Go.Shelf
shelf_lay_g SlLaysF0.n6 Slsf 6 at Tryz 148 as Tryz.sortL
end Go.Proofs
namespace Go.Proofs.YtnplgklnkcjmnaaGreatDoor.PrT
open Go.Shelf Go.RowKit Go.Lib Go.Sort Go.Proofs.YtnplgklnkcjmnaaGreatDoor.Am Go.Proofs.YtnplgklnkcjmnaaGreatDoor
set_option linter.unusedVariables false
set_option linter.unusedSimpArgs false

def encR (x : Int × Int) : List Value := [.int .u64 x.1, .int .u64 x.2]
def cmpI (x y : Int) : Int := Lib.compareInt x y
theorem isNaN_u64 (x : Int) (w : World) : Calls Tryz.prog 171 #[.int .u64 x] w fun e w' => e = .returned (.bool false) ∧ w' = w := by
  go_enter Tryz.func171, Tryz.ntmps171
  go_wp2
  go_ret
  exact ⟨by simp, rfl⟩
set_option maxHeartbeats 1000000 in
theorem compare_u64 (x y : Int) (w : World) : Calls Tryz.prog 150 #[.int .u64 x, .int .u64 y] w fun e w' => e = .returned (.int .i64 (cmpI x y)) ∧ w' = w := by
  go_enter Tryz.func150, Tryz.ntmps150
  go_wp2_with (go_at_call 171; refine (isNaN_u64 _ _).mono ?_; rintro e w' ⟨rfl, hw⟩; rw [hw])
  all_goals (go_ret; refine ⟨?_, rfl⟩; unfold cmpI Lib.compareInt; (repeat' split) <;> first | rfl | (exfalso; omega))
set_option maxHeartbeats 1000000 in
/-- By the keys. -/
theorem byKey (x y : Int × Int) (W : World) : Calls Tryz.prog 149 #[.agg #[.int .u64 x.1, .int .u64 x.2], .agg #[.int .u64 y.1, .int .u64 y.2]] W fun e w' => e = .returned (.int .i64 (cmpI x.1 y.1)) ∧ ∃ q os', w' = grow (W.drewN q) os' := by
  have hcon := fun W' => compare_u64 x.1 y.1 W'
  generalize cmpI x.1 y.1 = r at hcon ⊢
  go_enter Tryz.func149, Tryz.ntmps149
  go_wp2_with (go_at_call 150; refine (hcon _).mono ?_; rintro e w' ⟨rfl, rfl⟩)
  go_ret
  exact ⟨rfl, 0, _, by rw [alloc_eq_grow, alloc_eq_grow, grow_grow]; rfl⟩
def cfR (x y : Int × Int) : Int := cmpI x.1 y.1
theorem cmpLaysR (blk off size : Nat) (w : World) : CmpLays Tryz.prog 149 #[] encR 2 cfR blk off size w := fun _ _ _ _ x y => byKey x y _
theorem ltR (x y : Int × Int) : ltOf cfR x y = decide (x.1 < y.1) := by
  unfold ltOf cfR cmpI Lib.compareInt
  by_cases h1 : x.1 < y.1
  · simp [h1]
  · by_cases h2 : y.1 < x.1 <;> simp [h1, h2]
theorem swoR : SWO (ltOf cfR) where
  irrefl x := by rw [ltR]; simp
  trans x y z h1 h2 := by rw [ltR] at *; simp at *; omega
  ntrans x y z h1 h2 := by rw [ltR] at *; simp at *; omega
/-- Records, as slices.SortFunc leaves them. -/
def sortT (l : List R) : List R := (pdq (ltOf cfR) l.toArray 0 l.toArray.size (Lib.bitLen l.toArray.size) true true).toList
theorem sortT_facts (l : List R) : PermIn 0 l.toArray.size l.toArray (pdq (ltOf cfR) l.toArray 0 l.toArray.size (Lib.bitLen l.toArray.size) true true) ∧ SortedIn (ltOf cfR) 0 l.toArray.size (pdq (ltOf cfR) l.toArray 0 l.toArray.size (Lib.bitLen l.toArray.size) true true) :=
  pdq_sorts (ltOf cfR) swoR l.toArray 0 l.toArray.size (Lib.bitLen l.toArray.size) true true (Nat.zero_le _) (Nat.le_refl _) (Or.inl rfl)
theorem sortT_perm (l : List R) : (sortT l).Perm l := by
  obtain ⟨⟨h1, _, h2⟩, _⟩ := sortT_facts l
  unfold sortT
  generalize pdq (ltOf cfR) l.toArray 0 l.toArray.size (Lib.bitLen l.toArray.size) true true = d at *
  rw [← h1, Array.extract_size, h1, Array.extract_size] at h2
  exact h2
theorem sortT_len (l : List R) : (sortT l).length = l.length := (sortT_perm l).length_eq
theorem sortT_le (l : List R) : (sortT l).Pairwise fun a b => a.1 ≤ b.1 := by
  obtain ⟨⟨h1, _, _⟩, h2⟩ := sortT_facts l
  unfold sortT
  generalize pdq (ltOf cfR) l.toArray 0 l.toArray.size (Lib.bitLen l.toArray.size) true true = d at *
  rw [List.pairwise_iff_getElem]
  intro i j hi hj hij
  have hi' : i < d.size := by simpa using hi
  have hj' : j < d.size := by simpa using hj
  have := h2 i j (Nat.zero_le _) hij (by omega)
  rw [getElem!_pos d j hj', getElem!_pos d i hi', ltR] at this
  have := of_decide_eq_false this
  show d.toList[i].1 ≤ d.toList[j].1
  rw [Array.getElem_toList, Array.getElem_toList]
  omega
/-- Where keys are unlike, it is the document's order. -/
theorem sortT_is {l : List R} (h : l.Pairwise fun a b => a.1 ≠ b.1) : sortT l = sortI byK l := by
  refine sorted_ext (f := fun r => r.1) ?_ (sortI_sorted (fun a b => rfl) h) fun x => ((sortT_perm l).mem_iff).trans (sortI_mem byK l x).symm
  have h2 : (sortT l).Pairwise fun a b => a.1 ≠ b.1 := ((sortT_perm l).pairwise_iff (fun h e => h e.symm)).2 h
  exact (List.Pairwise.and (sortT_le l) h2).imp fun ⟨a, b⟩ => by omega

theorem isAggR : ∀ w, (isAgg 34).run Tryz.prog w = .ok true w := by intro w; kernel_rfl
theorem sizeOfR : ∀ w, (Go.sizeOf 34).run Tryz.prog w = .ok 2 w := by intro w; kernel_rfl
theorem onlyB_setCells (b : Nat) : ∀ (vs : List Value) (o : Nat) (w : World), OnlyB w (w.setCells b o vs) b
  | [], _, w => OnlyB.refl w b
  | v :: r, o, w => (OnlyB.setCell w ⟨b, o, none⟩ v rfl).trans (onlyB_setCells b r (o + 1) _)
theorem kc2 (q : Nat) : kc [.u64, .u64] q = .u64 := by
  unfold kc
  have : q % 2 = 0 ∨ q % 2 = 1 := by omega
  rcases this with h | h <;> simp [h]
section
variable {P : Program} {w0 w : World} {O : Env} {m : Nat → Option Nat} {g : Mem}
/-- An own slice of entries, opened. -/
theorem ow_open (h : HR w0 w O m g) {k n : Nat} {xs : List Int} {vs : Value} (hg : g k = some (.fl [.u64, .u64] xs)) (hv : TV w (Im m g) m (lens g) (.ow k 2 n) vs) :
    xs.length = n * 2 ∧ ((n = 0 ∧ ∃ a, vs = .slice a 0 0) ∨ ∃ cap b, m k = some b ∧ vs = .slice (some ⟨b, 0, none⟩) n cap ∧ (n ≤ cap ∧ n ≤ 9223372036854775807) ∧ Room w b (cap * 2) ∧ NoFrz w b ∧ FlatAt w b 0 [.u64, .u64] xs) := by
  have hl : lens g k = some (some xs.length) := by rw [lens_of hg]; rfl
  cases hv with
  | ow hh hlen =>
    have hx : xs.length = n * 2 := by
      rcases hlen with e | e
      · rw [hl] at e; cases e
      · rw [hl] at e; simpa using e
    obtain ⟨hz0, hle, h3⟩ := hh.os_inv hl
    refine ⟨hx, ?_⟩
    rcases h3 with ⟨h0, a, e⟩ | ⟨cap, b, hm, e, hcc, hr⟩
    · exact .inl ⟨h0, a, e⟩
    · have hB := h.blk k _ hg
      rw [hm] at hB
      obtain ⟨b1, b2, b3, b4⟩ := hB
      rw [Nat.zero_mul] at e
      rw [Nat.zero_add] at hr
      exact .inr ⟨cap, b, hm, e, hcc, hr, b3, b4⟩
end
theorem upd_same {g : Mem} {k : Nat} {B : Blk} (h : g k = some B) : upd g [(k, B)] = g := by
  funext q
  rw [upd_one]
  split
  · rename_i e; subst e; exact h.symm
  · rfl
/-- By the first words. -/
def rSort : Raw := ⟨148, fun key args g => match args with
  | [s, .v (.func (.func f) ⟨[]⟩ ⟨[]⟩)] => match Nat.beq f 149 with
    | true => match s with
      | .ow k 2 n => match g k with
        | some (.fl [.u64, .u64] xs) => some ⟨some (n ≤ 1100), .tup [], [(k, .fl [.u64, .u64] (flat 2 (sortT (recs n 2 xs))))]⟩
        | _ => none
      | _ => none
    | false => none
  | _ => none⟩
theorem encR_at {d : Array (Int × Int)} {t : Nat} (ht : t < d.size * 2) : (flatK encR 2 d)[t]! = .int .u64 ((flat 2 d.toList).getD t 0) := by
  rw [get_flatK _ _ _ _ ht]
  have h2 : t / 2 < d.size := by omega
  have ht2 : t = t / 2 * 2 + t % 2 := by omega
  have e : d[t / 2]! = gR d.toList (t / 2) := by
    rw [getElem!_pos d (t / 2) h2]
    unfold gR; rw [List.getD_eq_getElem?_getD, List.getElem?_eq_getElem (by simpa using h2)]; simp
  rw [e]
  have h3 : (flat 2 d.toList).getD t 0 = (wd 2 (gR d.toList (t / 2))).getD (t % 2) 0 := by
    rw [← flat_get (.inr rfl) d.toList (by simpa using h2) (by omega), ← ht2]
  rw [h3]
  rcases Nat.mod_two_eq_zero_or_one t with h | h <;> rw [h] <;> rfl
theorem rSort_calls : ∀ key args g o w0 w O m vs, rSort.sp key args g = some o → o.ok → news g key = true → HR w0 w O m g → TVs w (Im m g) m (lens g) args vs →
    Calls Tryz.prog rSort.f vs.toArray w fun e w' => ∃ v, e = .returned v ∧ ∃ m', HR w0 w' O m' (upd g o.up) ∧ Goes w w' (Im m g) (Im m' (upd g o.up)) m m' (lens g) (lens (upd g o.up)) ∧ TV w' (Im m' (upd g o.up)) m' (lens (upd g o.up)) o.t v := by
  intro key args g o w0 w O m vs hs hok hnw h ha
  simp only [rSort] at hs
  split at hs
  · rename_i s f
    split at hs
    · rename_i hf
      have hf := Nat.eq_of_beq_eq_true hf
      subst hf
      split at hs
      · rename_i k n
        split at hs
        · rename_i xs hg
          cases hs
          replace hok : n ≤ 1100 := hok _ rfl
          cases ha with
          | cons a1 a2 =>
            cases a2 with
            | cons a3 a4 =>
              cases a4
              obtain ⟨rfl, -⟩ := a3.v_inv
              · skip
                obtain ⟨hx, hcase⟩ := ow_open h hg a1
                rcases hcase with ⟨rfl, a, rfl⟩ | ⟨cap, b, hm, rfl, hcc, hr, hfz, hfl⟩
                · have hx0 : xs = [] := List.eq_nil_of_length_eq_zero (by omega)
                  subst hx0
                  have e0 : flat 2 (sortT (recs 0 2 [])) = [] := by
                    have : sortT (recs 0 2 []) = [] := List.eq_nil_of_length_eq_zero (by rw [sortT_len, recs_len])
                    rw [this]; rfl
                  refine (AnyF.slices_SortFunc_none Tryz.sortL a 0 _ w).mono ?_
                  rintro e w' ⟨rfl, rfl⟩
                  dsimp only
                  rw [e0, upd_same hg]
                  exact ⟨_, rfl, m, h, Goes.refl h, .tup .nil⟩
                · have hsz : (recs n 2 xs).toArray.size = n := by simp [recs_len]
                  have hlk : lens g k = some (some (n * 2)) := by rw [lens_of hg, ← hx]; rfl
                  have hbw := h.lt hlk hm
                  have hfr : flat 2 (recs n 2 xs) = xs := flat_recs (.inr rfl) hx
                  have hH : HoldsK encR 2 w b 0 (recs n 2 xs).toArray := by
                    intro t ht
                    rw [size_flatK, hsz] at ht
                    rw [encR_at (by rw [hsz]; exact ht)]
                    have hxt : xs[t]? = some (xs.getD t 0) := by rw [List.getD_eq_getElem?_getD, List.getElem?_eq_getElem (by omega)]; rfl
                    have := hfl t _ hxt
                    rw [kc2] at this
                    exact ⟨by rw [this, List.toList_toArray, hfr]; rfl, hfz _⟩
                  have hS := AnyQ.slices_SortFunc_eq Tryz.sortL 2 isAggR sizeOfR encR (fun _ => rfl) (fun x v hv => by simp [encR] at hv; rcases hv with rfl | rfl <;> rfl) cfR swoR 149 #[] b 0 cap (recs n 2 xs).toArray w (Am.enters_of Tryz.func149 (by kernel_rfl) (by kernel_rfl)) (cmpLaysR b 0 _ w) hH hbw (by rw [hsz]; omega)
                  have hd := (sortT_facts (recs n 2 xs)).1.1
                  have hst : (pdq (ltOf cfR) (recs n 2 xs).toArray 0 (recs n 2 xs).toArray.size (Lib.bitLen (recs n 2 xs).toArray.size) true true).toList = sortT (recs n 2 xs) := rfl
                  generalize pdq (ltOf cfR) (recs n 2 xs).toArray 0 (recs n 2 xs).toArray.size (Lib.bitLen (recs n 2 xs).toArray.size) true true = d' at hS hd hst
                  rw [hsz] at hd
                  rw [hsz] at hS
                  refine hS.mono ?_
                  rintro e w' ⟨rfl, q, os, rfl⟩
                  have hH1 : HoldsK encR 2 (Go.Sort.ahead w q) b 0 (recs n 2 xs).toArray := hH
                  have hput : putRowK encR 2 (Go.Sort.ahead w q) b 0 d' = (Go.Sort.ahead w q).setCells b 0 (flatK encR 2 d').toList := by
                    have h1 := setCells_putRow (Go.Sort.ahead w q) b 0 (flatK encR 2 d').toList 0 (flatK encR 2 (recs n 2 xs).toArray) (by simp [hsz, hd])
                    have h2 : putRow id (Go.Sort.ahead w q) b 0 (flatK encR 2 (recs n 2 xs).toArray) = Go.Sort.ahead w q := putRowK_self encR 2 _ b 0 _ hH1
                    rw [h2] at h1
                    rw [show setMany (flatK encR 2 (recs n 2 xs).toArray) 0 (flatK encR 2 d').toList = flatK encR 2 d' from ext_get! (by simp [hsz, hd]) fun t ht => by
                      rw [get_setMany _ _ _ _ (by simpa using ht)]
                      rw [size_setMany, size_flatK, hsz] at ht
                      rw [if_pos ⟨Nat.zero_le _, by simp [hd]; exact ht⟩]
                      rw [Nat.sub_zero]
                      have hlt : t < (flatK encR 2 d').size := by rw [size_flatK, hd]; exact ht
                      simp
                      rw [getElem!_pos _ t hlt, Array.getElem?_eq_getElem hlt]; rfl] at h1
                    exact h1.symm
                  have hob : OnlyB w (putRowK encR 2 (Go.Sort.ahead w q) b 0 d') b := by
                    rw [hput]
                    exact (show OnlyB w (Go.Sort.ahead w q) b from ⟨rfl, rfl, rfl, rfl, fun _ _ => rfl, fun _ h => h⟩).trans (onlyB_setCells b _ 0 _)
                  have hH2 : HoldsK encR 2 (putRowK encR 2 (Go.Sort.ahead w q) b 0 d') b 0 d' := holdsK_putRowK encR 2 _ b 0 _ d' hH1 (by rw [hsz, hd])
                  have hl2 : (flat 2 (sortT (recs n 2 xs))).length = n * 2 := by rw [flat_len (.inr rfl), sortT_len, recs_len]
                  have hlen : (Blk.fl [.u64, .u64] (flat 2 (sortT (recs n 2 xs)))).len? = some (n * 2) := congrArg some hl2
                  have hr2 : Room (putRowK encR 2 (Go.Sort.ahead w q) b 0 d') b (n * 2) := by
                    obtain ⟨oo, o1, o2⟩ := hob.room _ hr
                    refine ⟨oo, o1, ?_⟩
                    cases oo with
                    | cells c e fz => exact Nat.le_trans (Nat.mul_le_mul_right 2 hcc.1) o2
                    | map _ _ => have o2 : cap * 2 = 0 := o2; show n * 2 = 0; have := hcc.1; omega
                    | _ => exact o2.elim
                  have HS := h.setB hlk hm hob hlen ⟨by simp, by rw [hl2]; exact hr2, fun o => by rw [hput, World.frozen?_setCells]; exact hfz o, fun t y hy => by
                    have ht : t < n * 2 := by rw [← hl2]; exact (List.getElem?_eq_some_iff.1 hy).1
                    have h1 := (hH2 t (by rw [size_flatK, hd]; exact ht)).1
                    rw [encR_at (by rw [hd]; exact ht), hst, List.getD_eq_getElem?_getD, hy] at h1
                    rw [kc2]; exact h1⟩
                  have GS := Goes.setB h hlk hm hob hlen
                  have hbel : Below (putRowK encR 2 (Go.Sort.ahead w q) b 0 d').heap.size (putRowK encR 2 (Go.Sort.ahead w q) b 0 d') (sortWorldK encR 2 w b 0 q d' os) := ⟨rfl, rfl, rfl, by unfold sortWorldK; rw [size_grow]; omega, fun z hz => by
                    unfold sortWorldK grow
                    show (_ ++ os)[z]? = _
                    rw [Array.getElem?_append_left hz]⟩
                  exact ⟨_, rfl, m, HS.below hbel, GS.trans (Goes.of_below hbel HS), .tup .nil⟩
        · cases hs
      · cases hs
    · cases hs
  · cases hs
theorem rSort_ok : rSort.ok Tryz.prog := ⟨Am.enters_of Tryz.func148 (by kernel_rfl) (by kernel_rfl), by
  intro key args g g' h
  simp only [rSort]
  split
  · rename_i s f
    split
    · split
      · rename_i k n
        have hk : g k = g' k := (h k (by simp [keysTs, keysT])).eq
        rw [hk]
      · rfl
    · rfl
  · rfl, rSort_calls⟩
end Go.Proofs.YtnplgklnkcjmnaaGreatDoor.PrT
namespace Go.Proofs.YtnplgklnkcjmnaaGreatDoor.PrT
open Go.RowKit Go.Proofs.YtnplgklnkcjmnaaGreatDoor.Am Go.Proofs.YtnplgklnkcjmnaaGreatDoor
set_option linter.unusedVariables false
set_option linter.unusedSimpArgs false

noncomputable def ctxRc (P : Program) : Ctx := ctxR P glM [eGet] [rSort] [] (noEq P) [] (fun _ h => by cases h)
theorem ctxRc_good : (ctxRc Tryz.prog).good := ctxR_good (by kernel_rfl) (AllOk.mem ⟨entry_lift eGet_ok, trivial⟩) (by intro r hr; rcases List.mem_singleton.1 hr with rfl; exact rSort_ok) glM_two
theorem nzs_snoc (l : List R) (r : R) : nzs (l ++ [r]) = if r.1 = 0 then nzs l else nzs l ++ [r] := by
  unfold nzs; rw [List.filter_append]
  by_cases h : r.1 = 0
  · rw [if_pos h, List.filter_cons_of_neg (by simpa using h)]; simp
  · rw [if_neg h, List.filter_cons_of_pos (by simpa using h)]; rfl
attribute [local irreducible] sortT nzs recs
set_option maxHeartbeats 1000000 in
set_option maxRecDepth 100000 in
theorem records_pure (n w m : Nat) (ws : List Int) (hw : w = 1 ∨ w = 2) (hn0 : 0 < n) (hn : n ≤ 1024) (hm : m = n * w) : Pure Tryz.prog glM 121 [.agg [.fl [.u64] m ws, .v (.int .i64 n), .v (.int .i64 w)]] (.ow 0 2 (nzs (recs n w ws)).length) [(0, .fl [.u64, .u64] (flat 2 (sortT (nzs (recs n w ws)))))] := by
  refine pure_of (C := ctxRc Tryz.prog) ctxRc_good Tryz.func121 (c := bodyOf Tryz.f121) (by rfl) (Nat.le_of_ble_eq_true (by rfl)) 4 0 [0, 1, 2, 3, 4, 6, 7, 8, 15] ?_
  conv => whnf
  have hTl := recs_len n w ws
  have hTg : ∀ j, j < n → gR (recs n w ws) j = (ga w ws j, gb w ws j) := fun j hj => recs_get ws hj
  generalize recs n w ws = T at *
  refine TW.nilOwn 2 5000 2 (.fl [.u64, .u64] []) rfl rfl (.inr ⟨_, _, rfl⟩) (by decide) ?_
  refine TW.loopD ctxRc_good 0 (base := 0) (lv := [0, 1, 2, 3, 4, 6, 7, 8, 15]) [2, 7] [5000] [(5000, 5000)] (fun x : Nat × List R => [.ow 5000 2 x.2.length, .v (.int .i64 x.1)]) (fun x => [.fl [.u64, .u64] (flat 2 x.2)]) (fun x => x.1 ≤ n ∧ x.2 = nzs (T.take x.1)) (fun x => n - x.1) ?_
  conv => whnf
  refine ⟨⟨(0, []), ⟨rfl, rfl, rfl⟩, Nat.zero_le _, by unfold nzs; rfl⟩, fun ⟨j, U⟩ ⟨hj, hU⟩ => ?_⟩
  replace hj : j ≤ n := hj
  replace hU : U = nzs (T.take j) := hU
  have hUl : U.length ≤ j := by rw [hU]; exact Nat.le_trans (nzs_len _) (List.length_take_le ..)
  conv => whnf
  refine ifB_dec (fun h => ?_) (fun h => ?_)
  · replace h : (j : Int) < n := h
    have hTj := hTg j (by omega)
    have hTs : T.take (j + 1) = T.take j ++ [gR T j] := take_snocR (by omega)
    conv => whnf
    repeat (refine And.intro (by first | omega | (dsimp only; omega)) ?_; conv => whnf)
    rw [Int.toNat_natCast, show (((j, U) : Nat × List R).1 : Int).toNat = j from Int.toNat_natCast _]
    generalize ga w ws j = A at *
    generalize gb w ws j = B at *
    refine ifB_ne (x := A) (y := 0) (fun ha => ?_) (fun ha => ?_)
    · conv => whnf
      repeat (refine And.intro (by first | omega | (show U.length + 1 ≤ 1099511627776; omega)) ?_; conv => whnf)
      rw [wsucc (j := j) (n := n) (by omega) (by omega)]
      refine ⟨(j + 1, U ++ [(A, B)]), [(76, 5000)], ⟨rfl, ?_, ?_⟩, ⟨(by omega : j + 1 ≤ n), ?_⟩, by dsimp only; omega⟩
      · show _ = (2, Am.T.ow 5000 2 (U ++ [(A, B)]).length) :: _
        rw [List.length_append]; rfl
      · show _ = (5000, Blk.fl [.u64, .u64] (flat 2 (U ++ [(A, B)]))) :: _
        rw [flat_append]; rfl
      dsimp only
      rw [hTs, nzs_snoc, hTj, if_neg ha, hU]
    · conv => whnf
      rw [wsucc (j := j) (n := n) (by omega) (by omega)]
      refine ⟨(j + 1, U), [(5000, 5000)], ⟨rfl, rfl, rfl⟩, ⟨(by omega : j + 1 ≤ n), ?_⟩, by dsimp only; omega⟩
      dsimp only
      rw [hTs, nzs_snoc, hTj, if_pos ha, hU]
  · replace h : ¬ (j : Int) < n := h
    have hjn : j = n := by omega
    subst hjn
    rw [List.take_of_length_le (by omega)] at hU
    subst hU
    have hUn : (nzs T).length ≤ 1100 := by omega
    conv => whnf
    refine And.intro hUn ?_
    conv => whnf
    rw [show recs (nzs T).length 2 (flat 2 (nzs T)) = nzs T from recs_flat (.inr rfl) rfl (fun q => by cases q)]
    repeat' (first | exact trivial | exact rfl | (refine And.intro ?_ ?_) | ((conv => whnf); done) | ((conv => whnf); (first | rfl | (refine congrArg (fun b => T.v (Value.bool b)) ?_; first | rfl | exact (decide_eq_true (by omega)).symm | exact (decide_eq_false (by omega)).symm | exact decide_eq_decide.2 (by omega)) | (refine congrArg (fun b => T.v (Value.int _ b)) ?_; first | rfl | omega) | omega)) | (first | rfl | (refine congrArg (fun b => T.v (Value.bool b)) ?_; first | rfl | exact (decide_eq_true (by omega)).symm | exact (decide_eq_false (by omega)).symm | exact decide_eq_decide.2 (by omega)) | (refine congrArg (fun b => T.v (Value.int _ b)) ?_; first | rfl | omega) | omega))

noncomputable def eRecords : Entry := ⟨121, 4, fun l => match l with | [.agg [.fl [.u64] m ws, .v (.int .i64 n), .v (.int .i64 w)]] => some (some ((w = 1 ∨ w = 2) ∧ 0 < n ∧ n ≤ 1024 ∧ (m : Int) = n * w), .ow 0 2 (nzs (recs n.toNat w.toNat ws)).length, [(0, .fl [.u64, .u64] (flat 2 (sortT (nzs (recs n.toNat w.toNat ws)))))]) | _ => none⟩
theorem eRecords_ok : eRecords.ok Tryz.prog glM := ⟨Am.enters_of Tryz.func121 (by kernel_rfl) (by kernel_rfl), by
  intro args c t bs h hc
  simp only [eRecords] at h
  split at h <;> cases h
  replace hc := hc _ rfl
  exact (by obtain ⟨h1, h2, h4, h5⟩ := hc; obtain ⟨n, rfl⟩ := Int.eq_ofNat_of_zero_le (Int.le_of_lt h2); rcases h1 with rfl | rfl; exact records_pure n 1 _ _ (.inl rfl) (by omega) (by omega) (by omega); exact records_pure n 2 _ _ (.inr rfl) (by omega) (by omega) (by omega))⟩
/-! ### right -/
open Classical in
/-- Are words a table's? -/
noncomputable def rightB (w : Int) (ws : List Int) : Bool := decide (okN w ws.length ∧ Ok sP (shN w ws) (recs (shN w ws) w.toNat ws))
open Classical in
theorem rightB_iff (w : Int) (ws : List Int) : rightB w ws = true ↔ (okN w ws.length ∧ Ok sP (shN w ws) (recs (shN w ws) w.toNat ws)) := by
  unfold rightB; exact decide_eq_true_iff
theorem right_is {n w : Nat} (hw : w = 1 ∨ w = 2) (hn0 : 0 < n) (hn : n ≤ 1024) {ws : List Int} (hl : ws.length = n * w) (hu : AllU ws) :
    (bldE n w (sortT (nzs (recs n w ws))) = 0 ∧ bldW n w (sortT (nzs (recs n w ws))) = ws) ↔ Ok sP n (recs n w ws) := by
  have hTl := recs_len n w ws
  have hTv := recs_nv n w ws
  have hf := flat_recs hw hl
  have hLl : (sortT (nzs (recs n w ws))).length = (nzs (recs n w ws)).length := sortT_len _
  have hle : (nzs (recs n w ws)).length ≤ n := by have := nzs_len (recs n w ws); omega
  have hmem : ∀ x, x ∈ sortT (nzs (recs n w ws)) ↔ x ∈ nzs (recs n w ws) := fun x => (sortT_perm _).mem_iff
  have hU : ∀ r ∈ recs n w ws, U64 r.1 := fun r hr => by
    unfold recs at hr
    obtain ⟨i, _, rfl⟩ := List.mem_map.1 hr
    exact allU_getD hu _
  have e1 : ∀ L : List R, bldW n w L = if bldE n w L = 0 then flat w (laid sP n L) else [] := fun L => rfl
  generalize recs n w ws = T at *
  have hbad : ¬ ∃ r ∈ sortT (nzs T), badR w r = true := by
    rintro ⟨r, hr, hb⟩
    have h1 := nzs_mem.1 ((hmem r).1 hr)
    have h2 := h1.2
    unfold badR at hb
    rcases hw with rfl | rfl
    · have := hTv rfl r h1.1; simp [h2, this] at hb
    · simp [h2] at hb
  constructor
  · rintro ⟨h1, h2⟩
    rw [e1, if_pos h1] at h2
    have hpw : (sortT (nzs T)).Pairwise fun a b => a.1 ≠ b.1 := by
      refine Classical.byContradiction fun q => ?_
      unfold bldE at h1
      rw [if_neg (by omega), if_pos (.inr q)] at h1
      cases h1
    have hr : Recs sP (sortT (nzs T)) := ⟨fun r hr => by rw [sP_U]; exact hU r (nzs_mem.1 ((hmem r).1 hr)).1, fun r hr => (nzs_mem.1 ((hmem r).1 hr)).2, hpw⟩
    obtain ⟨g1, g2⟩ := laid_ok (n := n) hr (by omega)
    have hv : Nv w (laid sP n (sortT (nzs T))) := fun q r hr2 => by
      by_cases hk : r.1 = 0
      · obtain ⟨j, hj, rfl⟩ := List.getElem_of_mem hr2
        have hz := g1.zer j (by rw [← g1.len]; exact hj)
        unfold kR gR at hz
        rw [List.getD_eq_getElem?_getD, List.getElem?_eq_getElem hj] at hz
        have := hz hk
        rw [show (some (laid sP n (sortT (nzs T)))[j]).getD (0, 0) = (laid sP n (sortT (nzs T)))[j] from rfl] at this
        rw [this]
      · have := (g2 r).1 ((In_nzs g1.len r).2 (nzs_mem.2 ⟨hr2, hk⟩))
        exact hTv q r (nzs_mem.1 ((hmem r).1 this)).1
    have : laid sP n (sortT (nzs T)) = T := flat_inj hw hv hTv (h2.trans hf.symm)
    rw [← this]; exact g1
  · intro h
    have hr := h.recs
    have hpw : (sortT (nzs T)).Pairwise fun a b => a.1 ≠ b.1 := ((sortT_perm _).pairwise_iff (fun h e => h e.symm)).2 hr.nd
    have hr2 : Recs sP (sortT (nzs T)) := hr.of_mem (fun x hx => (hmem x).1 hx) hpw
    have e0 : bldE n w (sortT (nzs T)) = 0 := by
      unfold bldE
      rw [if_neg (by omega), if_neg (fun q => q.elim hbad (fun q => q hpw)), if_neg (by omega)]
    refine ⟨e0, ?_⟩
    rw [e1, if_pos e0, laid_is hr2 (by omega) h fun x => ?_]
    · exact hf
    · rw [In_nzs h.len, hmem]
theorem ok_facts {w : Int} {ws : List Int} (h : okN w ws.length) : ∃ n v : Nat, (v = 1 ∨ v = 2) ∧ w = (v : Int) ∧ (0 < n ∧ n ≤ 1024) ∧ ws.length = n * v ∧ shW w ws = ws ∧ shN w ws = n ∧ shK w ws = v ∧ (rightB w ws = true ↔ Ok sP n (recs n v ws)) := by
  obtain ⟨e1, e2, e3, -⟩ := shY h.1
  obtain ⟨⟨hw, hm⟩, h1, h2⟩ := h
  obtain ⟨v, rfl, hv⟩ : ∃ v : Nat, w = (v : Int) ∧ (v = 1 ∨ v = 2) := by
    rcases hw with rfl | rfl
    · exact ⟨1, rfl, .inl rfl⟩
    · exact ⟨2, rfl, .inr rfl⟩
  rw [Int.toNat_natCast] at hm h1 h2 e2
  refine ⟨ws.length / v, v, hv, rfl, ⟨h1, h2⟩, ?_, e1, e2, e3, ?_⟩
  · have := Nat.div_add_mod ws.length v
    rw [hm, Nat.add_zero, Nat.mul_comm] at this; exact this.symm
  · rw [rightB_iff, e2, Int.toNat_natCast]
    exact ⟨fun q => q.2, fun q => ⟨⟨⟨hw, by rw [Int.toNat_natCast]; exact hm⟩, by rw [Int.toNat_natCast]; exact h1, by rw [Int.toNat_natCast]; exact h2⟩, q⟩⟩
theorem right_not {w : Int} {ws : List Int} (h : ¬ okN w ws.length) : rightB w ws = false := by
  cases hq : rightB w ws
  · rfl
  · exact absurd ((rightB_iff w ws).1 hq).1 h
noncomputable def ctxRt (P : Program) : Ctx := ctx P glM [eShaped, eRecords, eBuild, eEqual] [] (noEq P) [] (fun _ h => by cases h)
theorem ctxRt_good : (ctxRt Tryz.prog).good := ctx_good (by kernel_rfl) (AllOk.mem ⟨eShaped_ok, eRecords_ok, eBuild_ok, entry_lift eEqual_ok, trivial⟩) glM_two
attribute [local irreducible] bldE bldW rightB shW shN shK
set_option maxHeartbeats 1000000 in
set_option maxRecDepth 100000 in
theorem rightP_pure (m : Nat) (ws : List Int) (w : Int) (hm : m ≤ 1000000) (hu : AllU ws) : Pure Tryz.prog glM 120 [.fl [.u64] m ws, .v (.int .i64 w)] (.tup [.agg [.ow 0 1 (shW w ws).length, .v (.int .i64 (shN w ws)), .v (.int .i64 (shK w ws))], .v (.bool (rightB w ws))]) [(0, .fl [.u64] (shW w ws))] := by
  refine pure_wf fun hw => ?_
  obtain ⟨⟨w1, w2⟩, -⟩ := hw
  simp only [List.length_cons, List.length_nil, Nat.zero_add, Nat.mul_one] at w1
  refine pure_of (C := ctxRt Tryz.prog) ctxRt_good Tryz.func120 (c := bodyOf Tryz.f120) (by rfl) (Nat.le_of_ble_eq_true (by rfl)) 4 0 [0, 1, 4, 5, 6, 7, 8, 9, 17] ?_
  conv => whnf
  refine And.intro hm ?_
  conv => whnf
  by_cases hok : okN w ws.length
  · refine ifB_f (by rw [decide_eq_true hok]; rfl) ?_
    conv => whnf
    obtain ⟨n, v, hv, rfl, ⟨hn0, hn⟩, hl, f1, f2, f3, f4⟩ := ok_facts hok
    have hri := right_is hv hn0 hn hl hu
    have hcell : ∀ r ∈ nzs (recs n v ws), U64 r.1 := fun r hr => by
      have hr := (nzs_mem.1 hr).1
      unfold recs at hr
      obtain ⟨i, _, rfl⟩ := List.mem_map.1 hr
      exact allU_getD hu _
    have hnl : (nzs (recs n v ws)).length ≤ n := by have := nzs_len (recs n v ws); rw [recs_len] at this; exact this
    rw [f1, f2, f3]
    refine And.intro ⟨by omega, by omega, by omega, by rw [hl]; exact Int.natCast_mul _ _⟩ ?_
    conv => whnf
    rw [Int.toNat_natCast, Int.toNat_natCast]
    have hrf : recs (nzs (recs n v ws)).length 2 (flat 2 (sortT (nzs (recs n v ws)))) = sortT (nzs (recs n v ws)) := recs_flat (.inr rfl) (sortT_len _) (fun q => by cases q)
    rw [hrf]
    refine And.intro ⟨by omega, fun r hr => by rw [sP_U]; exact hcell r ((sortT_perm _).mem_iff.1 hr)⟩ ?_
    conv => whnf
    generalize sortT (nzs (recs n v ws)) = L at *
    refine ifB_eq (x := bldE n v L) (y := 0) (fun h0 => ?_) (fun h0 => ?_)
    · conv => whnf
      repeat (refine And.intro (by omega) ?_; conv => whnf)
      have e : rightB v ws = decide (bldW n v L = ws) := by
        by_cases hb : bldW n v L = ws
        · rw [decide_eq_true hb, f4]; exact hri.1 ⟨h0, hb⟩
        · rw [decide_eq_false hb]
          cases hq : rightB v ws
          · rfl
          · exact absurd (hri.2 (f4.1 hq)).2 hb
      rw [e]
      repeat' (first | exact trivial | exact rfl | (refine And.intro ?_ ?_) | ((conv => whnf); done) | ((conv => whnf); (first | rfl | (refine congrArg (fun b => T.v (Value.bool b)) ?_; first | rfl | exact (decide_eq_true (by omega)).symm | exact (decide_eq_false (by omega)).symm | exact decide_eq_decide.2 (by omega)) | (refine congrArg (fun b => T.v (Value.int _ b)) ?_; first | rfl | omega) | omega)) | (first | rfl | (refine congrArg (fun b => T.v (Value.bool b)) ?_; first | rfl | exact (decide_eq_true (by omega)).symm | exact (decide_eq_false (by omega)).symm | exact decide_eq_decide.2 (by omega)) | (refine congrArg (fun b => T.v (Value.int _ b)) ?_; first | rfl | omega) | omega))
    · conv => whnf
      have e : rightB v ws = false := by
        cases hq : rightB v ws
        · rfl
        · exact absurd (hri.2 (f4.1 hq)).1 h0
      rw [e]
      repeat' (first | exact trivial | exact rfl | (refine And.intro ?_ ?_) | ((conv => whnf); done) | ((conv => whnf); (first | rfl | (refine congrArg (fun b => T.v (Value.bool b)) ?_; first | rfl | exact (decide_eq_true (by omega)).symm | exact (decide_eq_false (by omega)).symm | exact decide_eq_decide.2 (by omega)) | (refine congrArg (fun b => T.v (Value.int _ b)) ?_; first | rfl | omega) | omega)) | (first | rfl | (refine congrArg (fun b => T.v (Value.bool b)) ?_; first | rfl | exact (decide_eq_true (by omega)).symm | exact (decide_eq_false (by omega)).symm | exact decide_eq_decide.2 (by omega)) | (refine congrArg (fun b => T.v (Value.int _ b)) ?_; first | rfl | omega) | omega))
  · refine ifB_t (by rw [decide_eq_false hok]; rfl) ?_
    conv => whnf
    rw [right_not hok]
    repeat' (first | exact trivial | exact rfl | (refine And.intro ?_ ?_) | ((conv => whnf); done) | ((conv => whnf); (first | rfl | (refine congrArg (fun b => T.v (Value.bool b)) ?_; first | rfl | exact (decide_eq_true (by omega)).symm | exact (decide_eq_false (by omega)).symm | exact decide_eq_decide.2 (by omega)) | (refine congrArg (fun b => T.v (Value.int _ b)) ?_; first | rfl | omega) | omega)) | (first | rfl | (refine congrArg (fun b => T.v (Value.bool b)) ?_; first | rfl | exact (decide_eq_true (by omega)).symm | exact (decide_eq_false (by omega)).symm | exact decide_eq_decide.2 (by omega)) | (refine congrArg (fun b => T.v (Value.int _ b)) ?_; first | rfl | omega) | omega))
noncomputable def eRight0 : Entry := ⟨120, 4, fun l => match l with | [.fl [.u64] m ws, .v (.int .i64 w)] => some (some (m ≤ 1000000 ∧ AllU ws), .tup [.agg [.ow 0 1 (shW w ws).length, .v (.int .i64 (shN w ws)), .v (.int .i64 (shK w ws))], .v (.bool (rightB w ws))], [(0, .fl [.u64] (shW w ws))]) | _ => none⟩
theorem eRight0_ok : eRight0.ok Tryz.prog glM := ⟨Am.enters_of Tryz.func120 (by kernel_rfl) (by kernel_rfl), by
  intro args c t bs h hc
  simp only [eRight0] at h
  split at h <;> cases h
  replace hc := hc _ rfl
  exact rightP_pure _ _ _ hc.1 hc.2⟩
/-! ### Right, List, Find -/
noncomputable def ctxRl (P : Program) : Ctx := ctx P glM [eRight0, eRecords, eFind] [] (noEq P) [] (fun _ h => by cases h)
theorem ctxRl_good : (ctxRl Tryz.prog).good := ctx_good (by kernel_rfl) (AllOk.mem ⟨eRight0_ok, eRecords_ok, eFind_ok, trivial⟩) glM_two
set_option maxRecDepth 100000 in
theorem right_pure (m : Nat) (ws : List Int) (w : Int) (hm : m ≤ 1000000) (hu : AllU ws) : Pure Tryz.prog glM 83 [.fl [.u64] m ws, .v (.int .i64 w)] (.v (.bool (rightB w ws))) := by
  refine pure_of (C := ctxRl Tryz.prog) ctxRl_good Tryz.func83 (c := bodyOf Tryz.f83) (by rfl) (Nat.le_of_ble_eq_true (by rfl)) 4 0 [0, 1, 4, 6] ?_
  conv => whnf
  refine And.intro ⟨hm, hu⟩ ?_
  conv => whnf
  repeat' (first | exact trivial | exact rfl | (refine And.intro ?_ ?_) | ((conv => whnf); done) | ((conv => whnf); (first | rfl | (refine congrArg (fun b => T.v (Value.bool b)) ?_; first | rfl | exact (decide_eq_true (by omega)).symm | exact (decide_eq_false (by omega)).symm | exact decide_eq_decide.2 (by omega)) | (refine congrArg (fun b => T.v (Value.int _ b)) ?_; first | rfl | omega) | omega)) | (first | rfl | (refine congrArg (fun b => T.v (Value.bool b)) ?_; first | rfl | exact (decide_eq_true (by omega)).symm | exact (decide_eq_false (by omega)).symm | exact decide_eq_decide.2 (by omega)) | (refine congrArg (fun b => T.v (Value.int _ b)) ?_; first | rfl | omega) | omega))
noncomputable def eRight : Entry := ⟨83, 4, fun l => match l with | [.fl [.u64] m ws, .v (.int .i64 w)] => some (some (m ≤ 1000000 ∧ AllU ws), .v (.bool (rightB w ws)), []) | _ => none⟩
theorem eRight_ok : eRight.ok Tryz.prog glM := ⟨Am.enters_of Tryz.func83 (by kernel_rfl) (by kernel_rfl), by
  intro args c t bs h hc
  simp only [eRight] at h
  split at h <;> cases h
  replace hc := hc _ rfl
  exact right_pure _ _ _ hc.1 hc.2⟩
/-- What List tells. -/
noncomputable def lstP (w : Int) (ws : List Int) : List R := if rightB w ws = true then sortI byK (nzs (recs (shN w ws) w.toNat ws)) else []
set_option maxRecDepth 100000 in
theorem list_pure (m : Nat) (ws : List Int) (w : Int) (hm : m ≤ 1000000) (hu : AllU ws) : Pure Tryz.prog glM 86 [.fl [.u64] m ws, .v (.int .i64 w)] (.ow 0 2 (lstP w ws).length) [(0, .fl [.u64, .u64] (flat 2 (lstP w ws)))] := by
  by_cases hr : rightB w ws = true
  · obtain ⟨n, v, hv, rfl, ⟨hn0, hn⟩, hl, f1, f2, f3, f4⟩ := ok_facts ((rightB_iff w ws).1 hr).1
    have e : lstP v ws = sortT (nzs (recs n v ws)) := by
      unfold lstP; rw [if_pos hr, f2, Int.toNat_natCast, sortT_is (f4.1 hr).recs.nd]
    have e2 : (lstP v ws).length = (nzs (recs n v ws)).length := by rw [e, sortT_len]
    refine pure_of (C := ctxRl Tryz.prog) ctxRl_good Tryz.func86 (c := bodyOf Tryz.f86) (by rfl) (Nat.le_of_ble_eq_true (by rfl)) 4 0 [0, 1, 4, 5, 6, 13] ?_
    conv => whnf
    refine And.intro ⟨hm, hu⟩ ?_
    conv => whnf
    refine ifB_t hr ?_
    conv => whnf
    rw [f1, f2, f3]
    refine And.intro ⟨by omega, by omega, by omega, by rw [hl]; exact Int.natCast_mul _ _⟩ ?_
    conv => whnf
    rw [Int.toNat_natCast, Int.toNat_natCast, ← e, ← e2]
    repeat' (first | exact trivial | exact rfl | (refine And.intro ?_ ?_) | ((conv => whnf); done) | ((conv => whnf); (first | rfl | (refine congrArg (fun b => T.v (Value.bool b)) ?_; first | rfl | exact (decide_eq_true (by omega)).symm | exact (decide_eq_false (by omega)).symm | exact decide_eq_decide.2 (by omega)) | (refine congrArg (fun b => T.v (Value.int _ b)) ?_; first | rfl | omega) | omega)) | (first | rfl | (refine congrArg (fun b => T.v (Value.bool b)) ?_; first | rfl | exact (decide_eq_true (by omega)).symm | exact (decide_eq_false (by omega)).symm | exact decide_eq_decide.2 (by omega)) | (refine congrArg (fun b => T.v (Value.int _ b)) ?_; first | rfl | omega) | omega))
  · have e : lstP w ws = [] := by unfold lstP; rw [if_neg hr]
    refine pure_of (C := ctxRl Tryz.prog) ctxRl_good Tryz.func86 (c := bodyOf Tryz.f86) (by rfl) (Nat.le_of_ble_eq_true (by rfl)) 4 0 [0, 1, 4, 5, 6, 13] ?_
    conv => whnf
    refine And.intro ⟨hm, hu⟩ ?_
    conv => whnf
    refine ifB_f (by simpa using hr) ?_
    conv => whnf
    rw [e]
    repeat' (first | exact trivial | exact rfl | (refine And.intro ?_ ?_) | ((conv => whnf); done) | ((conv => whnf); (first | rfl | (refine congrArg (fun b => T.v (Value.bool b)) ?_; first | rfl | exact (decide_eq_true (by omega)).symm | exact (decide_eq_false (by omega)).symm | exact decide_eq_decide.2 (by omega)) | (refine congrArg (fun b => T.v (Value.int _ b)) ?_; first | rfl | omega) | omega)) | (first | rfl | (refine congrArg (fun b => T.v (Value.bool b)) ?_; first | rfl | exact (decide_eq_true (by omega)).symm | exact (decide_eq_false (by omega)).symm | exact decide_eq_decide.2 (by omega)) | (refine congrArg (fun b => T.v (Value.int _ b)) ?_; first | rfl | omega) | omega))
noncomputable def eList : Entry := ⟨86, 4, fun l => match l with | [.fl [.u64] m ws, .v (.int .i64 w)] => some (some (m ≤ 1000000 ∧ AllU ws), .ow 0 2 (lstP w ws).length, [(0, .fl [.u64, .u64] (flat 2 (lstP w ws)))]) | _ => none⟩
theorem eList_ok : eList.ok Tryz.prog glM := ⟨Am.enters_of Tryz.func86 (by kernel_rfl) (by kernel_rfl), by
  intro args c t bs h hc
  simp only [eList] at h
  split at h <;> cases h
  replace hc := hc _ rfl
  exact list_pure _ _ _ hc.1 hc.2⟩
/-- What Find tells; below 0: it is not there. -/
noncomputable def fndP (w : Int) (ws : List Int) (key : Int) : Int := if rightB w ws = true ∧ key ≠ 0 then findF sP (shN w ws) (recs (shN w ws) w.toNat ws) key (shN w ws) (sP.hm (shN w ws) key) else -1
set_option maxRecDepth 100000 in
theorem findP_pure (m : Nat) (ws : List Int) (w key : Int) (hm : m ≤ 1000000) (hu : AllU ws) : Pure Tryz.prog glM 122 [.fl [.u64] m ws, .v (.int .i64 w), .v (.int .u64 key)] (.tup [.v (.int .i64 (if fndP w ws key < 0 then 0 else fndP w ws key)), .v (.bool (decide (0 ≤ fndP w ws key)))]) := by
  by_cases hr : rightB w ws = true
  · obtain ⟨n, v, hv, rfl, ⟨hn0, hn⟩, hl, f1, f2, f3, f4⟩ := ok_facts ((rightB_iff w ws).1 hr).1
    by_cases hk : key = 0
    · have e : fndP v ws key = -1 := by unfold fndP; rw [if_neg (fun q => q.2 hk)]
      refine pure_of (C := ctxRl Tryz.prog) ctxRl_good Tryz.func122 (c := bodyOf Tryz.f122) (by rfl) (Nat.le_of_ble_eq_true (by rfl)) 4 0 [0, 1, 2, 6, 7, 8, 9, 10, 22] ?_
      conv => whnf
      refine And.intro ⟨hm, hu⟩ ?_
      conv => whnf
      refine ifB_f (by rw [hr]; rfl) ?_
      conv => whnf
      refine ifB_eq (fun h => ?_) (fun h => absurd hk h)
      conv => whnf
      rw [e]
      repeat' (first | exact trivial | exact rfl | (refine And.intro ?_ ?_) | ((conv => whnf); done) | ((conv => whnf); (first | rfl | (refine congrArg (fun b => T.v (Value.bool b)) ?_; first | rfl | exact (decide_eq_true (by omega)).symm | exact (decide_eq_false (by omega)).symm | exact decide_eq_decide.2 (by omega)) | (refine congrArg (fun b => T.v (Value.int _ b)) ?_; first | rfl | omega) | omega)) | (first | rfl | (refine congrArg (fun b => T.v (Value.bool b)) ?_; first | rfl | exact (decide_eq_true (by omega)).symm | exact (decide_eq_false (by omega)).symm | exact decide_eq_decide.2 (by omega)) | (refine congrArg (fun b => T.v (Value.int _ b)) ?_; first | rfl | omega) | omega))
    · have e : fndP v ws key = findF sP n (recs n v ws) key n (sP.hm n key) := by
        unfold fndP; rw [if_pos ⟨hr, hk⟩, f2, Int.toNat_natCast]
      refine pure_of (C := ctxRl Tryz.prog) ctxRl_good Tryz.func122 (c := bodyOf Tryz.f122) (by rfl) (Nat.le_of_ble_eq_true (by rfl)) 4 0 [0, 1, 2, 6, 7, 8, 9, 10, 22] ?_
      conv => whnf
      refine And.intro ⟨hm, hu⟩ ?_
      conv => whnf
      refine ifB_f (by rw [hr]; rfl) ?_
      conv => whnf
      refine ifB_eq (fun h => absurd h hk) (fun h => ?_)
      conv => whnf
      rw [f1, f2, f3]
      refine And.intro ⟨by omega, by omega, by omega, by rw [hl]; exact Int.natCast_mul _ _⟩ ?_
      conv => whnf
      rw [Int.toNat_natCast, Int.toNat_natCast, ← e]
      repeat' (first | exact trivial | exact rfl | (refine And.intro ?_ ?_) | ((conv => whnf); done) | ((conv => whnf); (first | rfl | (refine congrArg (fun b => T.v (Value.bool b)) ?_; first | rfl | exact (decide_eq_true (by omega)).symm | exact (decide_eq_false (by omega)).symm | exact decide_eq_decide.2 (by omega)) | (refine congrArg (fun b => T.v (Value.int _ b)) ?_; first | rfl | omega) | omega)) | (first | rfl | (refine congrArg (fun b => T.v (Value.bool b)) ?_; first | rfl | exact (decide_eq_true (by omega)).symm | exact (decide_eq_false (by omega)).symm | exact decide_eq_decide.2 (by omega)) | (refine congrArg (fun b => T.v (Value.int _ b)) ?_; first | rfl | omega) | omega))
  · have e : fndP w ws key = -1 := by unfold fndP; rw [if_neg (fun q => hr q.1)]
    have hr : rightB w ws = false := by simpa using hr
    refine pure_of (C := ctxRl Tryz.prog) ctxRl_good Tryz.func122 (c := bodyOf Tryz.f122) (by rfl) (Nat.le_of_ble_eq_true (by rfl)) 4 0 [0, 1, 2, 6, 7, 8, 9, 10, 22] ?_
    conv => whnf
    refine And.intro ⟨hm, hu⟩ ?_
    conv => whnf
    refine ifB_t (by rw [hr]; rfl) ?_
    conv => whnf
    rw [e]
    repeat' (first | exact trivial | exact rfl | (refine And.intro ?_ ?_) | ((conv => whnf); done) | ((conv => whnf); (first | rfl | (refine congrArg (fun b => T.v (Value.bool b)) ?_; first | rfl | exact (decide_eq_true (by omega)).symm | exact (decide_eq_false (by omega)).symm | exact decide_eq_decide.2 (by omega)) | (refine congrArg (fun b => T.v (Value.int _ b)) ?_; first | rfl | omega) | omega)) | (first | rfl | (refine congrArg (fun b => T.v (Value.bool b)) ?_; first | rfl | exact (decide_eq_true (by omega)).symm | exact (decide_eq_false (by omega)).symm | exact decide_eq_decide.2 (by omega)) | (refine congrArg (fun b => T.v (Value.int _ b)) ?_; first | rfl | omega) | omega))
noncomputable def eFindP : Entry := ⟨122, 4, fun l => match l with | [.fl [.u64] m ws, .v (.int .i64 w), .v (.int .u64 key)] => some (some (m ≤ 1000000 ∧ AllU ws), .tup [.v (.int .i64 (if fndP w ws key < 0 then 0 else fndP w ws key)), .v (.bool (decide (0 ≤ fndP w ws key)))], []) | _ => none⟩
theorem eFindP_ok : eFindP.ok Tryz.prog glM := ⟨Am.enters_of Tryz.func122 (by kernel_rfl) (by kernel_rfl), by
  intro args c t bs h hc
  simp only [eFindP] at h
  split at h <;> cases h
  replace hc := hc _ rfl
  exact findP_pure _ _ _ _ hc.1 hc.2⟩
end Go.Proofs.YtnplgklnkcjmnaaGreatDoor.PrT
namespace Go.Proofs.YtnplgklnkcjmnaaGreatDoor.PrT
open Go.RowKit Go.Proofs.YtnplgklnkcjmnaaGreatDoor.Am Go.Proofs.YtnplgklnkcjmnaaGreatDoor
set_option linter.unusedVariables false
set_option linter.unusedSimpArgs false

/-- Records without that of a key. -/
def oth (l : List R) (key : Int) : List R := l.filter fun r => r.1 != key
theorem oth_mem {l : List R} {key : Int} {x : R} : x ∈ oth l key ↔ x ∈ l ∧ x.1 ≠ key := by unfold oth; rw [List.mem_filter]; simp
/-- The records of words. -/
def rcs (w : Int) (ws : List Int) : List R := nzs (recs (shN w ws) w.toNat ws)
open Classical in
noncomputable def putE (w : Int) (ws : List Int) (key val : Int) : Int := if ¬ rightB w ws = true ∨ key = 0 ∨ (w = 1 ∧ val ≠ 0) then 1 else if shN w ws < (oth (rcs w ws) key).length + 1 then 11 else 0
noncomputable def putL (w : Int) (ws : List Int) (key val : Int) : List Int := if putE w ws key val = 0 then flat w.toNat (laid sP (shN w ws) (oth (rcs w ws) key ++ [(key, val)])) else ws
open Classical in
noncomputable def delE (w : Int) (ws : List Int) (key : Int) : Int := if ¬ rightB w ws = true ∨ key = 0 then 1 else if ∃ r ∈ rcs w ws, r.1 = key then 0 else 12
noncomputable def delL (w : Int) (ws : List Int) (key : Int) : List Int := if delE w ws key = 0 then flat w.toNat (laid sP (shN w ws) (oth (rcs w ws) key)) else ws
theorem putE_right {v n : Nat} {ws : List Int} {key val : Int} (hv : v = 1 ∨ v = 2) (hr : rightB v ws = true) (f2 : shN v ws = n) (hk : key ≠ 0) (hv1 : v = 1 → val = 0) : putE v ws key val = if n < (oth (nzs (recs n v ws)) key).length + 1 then 11 else 0 := by
  unfold putE rcs
  rw [if_neg (fun q => by
    rcases q with q | q | ⟨q1, q2⟩
    · exact q hr
    · exact hk q
    · exact q2 (hv1 (by omega))), f2, Int.toNat_natCast]
theorem putL_right {v n : Nat} {ws : List Int} {key val : Int} (f2 : shN v ws = n) : putL v ws key val = if putE v ws key val = 0 then flat v (laid sP n (oth (nzs (recs n v ws)) key ++ [(key, val)])) else ws := by
  unfold putL rcs
  rw [f2, Int.toNat_natCast]
theorem fullB_iff {n w : Nat} {ws : List Int} : fullB n w ws = true ↔ ∀ i, i < n → kR (recs n w ws) i ≠ 0 := by
  have e : ∀ i, i < n → kR (recs n w ws) i = ga w ws i := fun i hi => by unfold kR; rw [recs_get ws hi]; rfl
  unfold fullB
  rw [List.all_eq_true]
  constructor
  · intro h i hi; rw [e i hi]; simpa using h i (List.mem_range.2 hi)
  · intro h i hi; have := h i (List.mem_range.1 hi); rw [e i (List.mem_range.1 hi)] at this; simpa using this
/-! ### putting, in a table that is right -/
theorem put_recs {n : Nat} {T : List R} (h : Ok sP n T) {key val : Int} (hku : U64 key) (hk : key ≠ 0) : Recs sP (oth (nzs T) key ++ [(key, val)]) := by
  have hr := h.recs
  refine ⟨fun r hr2 => ?_, fun r hr2 => ?_, ?_⟩
  · rcases List.mem_append.1 hr2 with q | q
    · exact hr.u r (oth_mem.1 q).1
    · rw [List.mem_singleton.1 q, sP_U]; exact hku
  · rcases List.mem_append.1 hr2 with q | q
    · exact hr.nz r (oth_mem.1 q).1
    · rw [List.mem_singleton.1 q]; exact hk
  · rw [List.pairwise_append]
    refine ⟨hr.nd.sublist List.filter_sublist, by simp, fun a ha b hb => ?_⟩
    rw [List.mem_singleton.1 hb]; exact (oth_mem.1 ha).2
/-- A key that is there: its word is turned. -/
theorem put_set {n : Nat} {T : List R} (h : Ok sP n T) {key val : Int} (hku : U64 key) (hk : key ≠ 0) {p : Nat} (hp : p < n) (hpk : kR T p = key) : (oth (nzs T) key).length + 1 ≤ n ∧ laid sP n (oth (nzs T) key ++ [(key, val)]) = T.set p (key, val) := by
  have hpl : p < T.length := by rw [h.len]; exact hp
  have hlt : (oth (nzs T) key).length < (nzs T).length := by
    have hm : gR T p ∈ nzs T := nzs_mem.2 ⟨gR_mem hpl, by rw [show (gR T p).1 = key from hpk]; exact hk⟩
    unfold oth
    rcases Nat.lt_or_ge ((nzs T).filter fun r => r.1 != key).length (nzs T).length with q | q
    · exact q
    · have := List.length_filter_eq_length_iff.1 (Nat.le_antisymm (List.length_filter_le _ _) q) _ hm
      simp [show (gR T p).1 = key from hpk] at this
  have hle : (oth (nzs T) key).length + 1 ≤ n := by have := nzs_len T; rw [h.len] at this; omega
  have kS : ∀ j, kR (T.set p (key, val)) j = kR T j := fun j => by
    rw [kR_set hpl]; split
    · rename_i e; subst e; exact hpk.symm
    · rfl
  refine ⟨hle, laid_is (put_recs h hku hk) (by simpa using hle) ⟨by rw [List.length_set]; exact h.len, fun j hj => ?_, fun j hj => ?_, fun a b ha hb => ?_, fun j hj => ?_⟩ fun x => ?_⟩
  · rw [kS, gR_set hpl]
    split
    · rename_i e; subst e; intro q; exact absurd (hpk.symm.trans q) hk
    · exact h.zer j hj
  · rw [kS]; exact h.uk j hj
  · rw [kS, kS]; exact h.nd a b ha hb
  · rw [kS]; intro q s hs hd; rw [kS]; exact h.way j hj q s hs hd
  · rw [List.mem_append, oth_mem, List.mem_singleton]
    constructor
    · rintro ⟨h1, j, h2, h3⟩
      rw [gR_set hpl] at h3
      split at h3
      · exact .inr h3.symm
      · rename_i ne
        refine .inl ⟨(In_nzs h.len x).1 ⟨h1, j, h2, h3⟩, fun e => ne (h.nd j p h2 hp (by unfold kR; rw [h3]; exact h1) (by rw [hpk, ← e]; unfold kR; rw [h3]))⟩
    · rintro (⟨q1, q2⟩ | rfl)
      · obtain ⟨h1, j, h2, h3⟩ := (In_nzs h.len x).2 q1
        refine ⟨h1, j, h2, ?_⟩
        rw [gR_set hpl]
        split
        · rename_i e; subst e; exact absurd (by rw [← h3]; exact hpk) q2
        · exact h3
      · exact ⟨hk, p, hp, by rw [gR_set hpl, if_pos rfl]⟩
theorem oth_not {n : Nat} {T : List R} (h : Ok sP n T) {key : Int} (hn : ∀ j, j < n → kR T j ≠ key) : oth (nzs T) key = nzs T := by
  unfold oth
  rw [List.filter_eq_self]
  intro r hr
  obtain ⟨h1, j, h2, h3⟩ := (In_nzs h.len r).2 hr
  have := hn j h2
  unfold kR at this
  rw [h3] at this
  simpa using this
/-- A key that is not there, where there is room. -/
theorem put_new {n : Nat} {T : List R} (h : Ok sP n T) {key val : Int} (hku : U64 key) (hk : key ≠ 0) (hn : ∀ j, j < n → kR T j ≠ key) (hfr : ∃ e, e < n ∧ kR T e = 0) : (oth (nzs T) key).length + 1 ≤ n ∧ laid sP n (oth (nzs T) key ++ [(key, val)]) = putA sP n T (key, val) := by
  obtain ⟨g1, g2⟩ := putA_ok h (r := (key, val)) (by rw [sP_U]; exact hku) hk hn hfr
  have ho := oth_not h hn
  have hle : (oth (nzs T) key).length + 1 ≤ n := by
    rw [ho]
    obtain ⟨e, he, he0⟩ := hfr
    have hel : e < T.length := by rw [h.len]; exact he
    have : (nzs T).length ≠ T.length := fun q => by
      have := List.length_filter_eq_length_iff.1 q _ (gR_mem hel)
      simp [show (gR T e).1 = 0 from he0] at this
    have h2 := nzs_len T
    rw [h.len] at this h2; omega
  refine ⟨hle, laid_is (put_recs h hku hk) (by simpa using hle) g1 fun x => ?_⟩
  rw [g2, ho, List.mem_append, List.mem_singleton, In_nzs h.len]
/-- .. and where there is none. -/
theorem put_full {n : Nat} {T : List R} (h : Ok sP n T) {key : Int} (hn : ∀ j, j < n → kR T j ≠ key) (hf : ∀ j, j < n → kR T j ≠ 0) : n < (oth (nzs T) key).length + 1 := by
  rw [oth_not h hn]
  have : (nzs T).length = T.length := by
    unfold nzs
    rw [List.length_filter_eq_length_iff]
    intro r hr
    obtain ⟨j, hj, rfl⟩ := List.getElem_of_mem hr
    have := hf j (by rw [← h.len]; exact hj)
    unfold kR gR at this
    rw [List.getD_eq_getElem?_getD, List.getElem?_eq_getElem hj] at this
    simpa using this
  rw [this, h.len]; omega
noncomputable def ctxPt_inl : List Inl := [iPut, iSet, iRound, iRound1]
theorem ctxPt_inlOk : InlOk Tryz.prog ctxPt_inl := ⟨iPut_ok, iSet_ok, iRound_ok, iRound1_ok, trivial⟩
noncomputable def ctxPt (P : Program) (h : InlOk P ctxPt_inl) : Ctx := ctx P glM [eRight0, eFind, eFull, eClone, eGet, eHome, eBf] [] (noEq P) ctxPt_inl h.mem
theorem ctxPt_good : (ctxPt Tryz.prog ctxPt_inlOk).good := ctx_good (by kernel_rfl) (AllOk.mem ⟨eRight0_ok, eFind_ok, entry_lift eFull_ok, entry_lift eClone_ok, entry_lift eGet_ok, eHome_ok, eBf_ok, trivial⟩) glM_two
attribute [local irreducible] bldE bldW rightB shW shN shK putE putL delE delL fullB
set_option maxHeartbeats 2000000 in
set_option maxRecDepth 100000 in
theorem put1_pure (m n : Nat) (T : List R) (key val : Int) (hm : m ≤ 1000000) (hu : AllU (flat 1 T)) (hTl : T.length = n) (hTv : Nv 1 T) (hku : U64 key) (hr : rightB 1 (flat 1 T) = true) (hn0 : 0 < n) (hn : n ≤ 1024) (hl : (flat 1 T).length = n * 1) (f1 : shW 1 (flat 1 T) = (flat 1 T)) (f2 : shN 1 (flat 1 T) = n) (f3 : shK 1 (flat 1 T) = 1) (hOk : Ok sP n T) (hk : key ≠ 0) (hv1 : (1 : Nat) = 1 → val = 0) : Pure Tryz.prog glM 89 [.fl [.u64] m (flat 1 T), .v (.int .i64 1), .v (.int .u64 key), .v (.int .u64 val)] (.tup [.ow 0 1 (putL 1 (flat 1 T) key val).length, .v (.int .i64 (putE 1 (flat 1 T) key val))]) [(0, .fl [.u64] (putL 1 (flat 1 T) key val))] := by
  have hT : recs n 1 (flat 1 T) = T := recs_flat (by decide) hTl hTv
  have hpE : putE 1 (flat 1 T) key val = if n < (oth (nzs (recs n 1 (flat 1 T))) key).length + 1 then 11 else 0 := putE_right (v := 1) (val := val) (by decide) hr f2 hk hv1
  have hpL : putL 1 (flat 1 T) key val = if putE 1 (flat 1 T) key val = 0 then flat 1 (laid sP n (oth (nzs (recs n 1 (flat 1 T))) key ++ [(key, val)])) else (flat 1 T) := putL_right (v := 1) (val := val) f2 (key := key)
  have hfull : fullB n 1 (flat 1 T) = true ↔ ∀ i, i < n → kR (recs n 1 (flat 1 T)) i ≠ 0 := fullB_iff
  rw [hT] at hpE hpL hfull
  have hX : ∀ U i, U.length = n → i < n → ∀ ra rb : Int, spl (flat 1 U) (mulN (addN (addN 0 (loN (some ((i * 1 : Nat) : Int)))) (loN none)) (0 + 1)) (List.take (mulN (minN (cutL 2 none none) (cutL (cutL (flat 1 T).length (some ((i * 1 : Nat) : Int)) none) none (some 1))) (0 + 1)) (List.take (mulN (cutL 2 none none) (0 + 1)) (List.drop (mulN (loN none) (0 + 1)) [ra, rb]))) = flat 1 (U.set i (ra, rb)) := fun U i h1 h2 ra rb => by
    rw [hl]; exact setX1 h1 h2 ra rb
  refine pure_of (C := ctxPt Tryz.prog ctxPt_inlOk) ctxPt_good Tryz.func89 (c := bodyOf Tryz.f89) (by rfl) (Nat.le_of_ble_eq_true (by rfl)) 4 4 [0, 1, 2, 3, 8, 9, 10, 11, 12, 32, 43, 52] ?_
  conv => whnf
  refine And.intro ⟨hm, hu⟩ ?_
  conv => whnf
  refine ifB_f (by rw [hr]; rfl) ?_
  conv => whnf
  refine ifB_eq (fun h => absurd h hk) (fun h => ?_)
  conv => whnf
  try refine ifB_ne (fun h => absurd (hv1 rfl) h) (fun h => ?_)
  try conv => whnf
  rw [f1, f2, f3]
  refine And.intro ⟨by omega, by omega, by omega, by rw [hl]; exact Int.natCast_mul _ _⟩ ?_
  conv => whnf
  rw [Int.toNat_natCast, show (Int.toNat 1) = 1 from rfl, hT]
  by_cases hin : ∃ p, p < n ∧ kR T p = key
  · obtain ⟨p, hp, hpk⟩ := hin
    rw [findF_in hOk hp hpk hk n _ (sP.hlt n key hn0) (by rw [dist_self]; exact Nat.zero_le _) (dist_lt (sP.hlt n key hn0) hp)]
    obtain ⟨q1, q2⟩ := put_set hOk hku hk (val := val) hp hpk
    rw [if_neg (by omega)] at hpE
    rw [hpE, if_pos rfl, q2] at hpL
    have ei : IntKind.i64.wrap ((p : Int) * 1) = ((p * 1 : Nat) : Int) := by rw [wrap64 (by omega) (by omega)]; omega
    have eX := hX T p hTl hp key val
    have hLl : (putL 1 (flat 1 T) key val).length = (flat 1 T).length := by rw [hpL, flat_len (by decide), List.length_set, hTl, hl]
    rw [hpE, hLl, hpL, ← eX]
    conv => whnf
    rw [ei]
    repeat (refine And.intro (by first | omega | assumption | (exact allU_getD (by assumption) _) | (simp only [cutL]; omega) | (refine And.intro ?_ ?_ <;> first | assumption | exact allU_getD (by assumption) _) | (simp only [cutL, IntKind.wrap_u64, IntKind.wrap_i64] at *; omega) | decide) ?_; conv => whnf)
    repeat' (first | exact trivial | exact rfl | (refine And.intro ?_ ?_) | ((conv => whnf); done) | ((conv => whnf); (first | rfl | (refine congrArg (fun b => T.v (Value.bool b)) ?_; first | rfl | exact (decide_eq_true (by omega)).symm | exact (decide_eq_false (by omega)).symm | exact decide_eq_decide.2 (by omega)) | (refine congrArg (fun b => T.v (Value.int _ b)) ?_; first | rfl | omega) | omega)) | (first | rfl | (refine congrArg (fun b => T.v (Value.bool b)) ?_; first | rfl | exact (decide_eq_true (by omega)).symm | exact (decide_eq_false (by omega)).symm | exact decide_eq_decide.2 (by omega)) | (refine congrArg (fun b => T.v (Value.int _ b)) ?_; first | rfl | omega) | omega))
  · have hnk : ∀ j, j < n → kR T j ≠ key := fun j hj e => hin ⟨j, hj, e⟩
    rw [findF_out hnk n _ (sP.hlt n key hn0)]
    conv => whnf
    refine And.intro ⟨by omega, by omega, by omega, by rw [hl]; exact Int.natCast_mul _ _⟩ ?_
    conv => whnf
    rw [Int.toNat_natCast, show (Int.toNat 1) = 1 from rfl]
    by_cases hfl : fullB n 1 (flat 1 T) = true
    · have q1 := put_full hOk hnk (hfull.1 hfl)
      rw [if_pos (by omega)] at hpE
      rw [hpE, if_neg (by decide)] at hpL
      rw [hpE, hpL]
      refine ifB_t hfl ?_
      conv => whnf
      repeat' (first | exact trivial | exact rfl | (refine And.intro ?_ ?_) | ((conv => whnf); done) | ((conv => whnf); (first | rfl | (refine congrArg (fun b => T.v (Value.bool b)) ?_; first | rfl | exact (decide_eq_true (by omega)).symm | exact (decide_eq_false (by omega)).symm | exact decide_eq_decide.2 (by omega)) | (refine congrArg (fun b => T.v (Value.int _ b)) ?_; first | rfl | omega) | omega)) | (first | rfl | (refine congrArg (fun b => T.v (Value.bool b)) ?_; first | rfl | exact (decide_eq_true (by omega)).symm | exact (decide_eq_false (by omega)).symm | exact decide_eq_decide.2 (by omega)) | (refine congrArg (fun b => T.v (Value.int _ b)) ?_; first | rfl | omega) | omega))
    · have hfr : ∃ e, e < n ∧ kR T e = 0 := Classical.byContradiction fun q => hfl (hfull.2 fun i hi e => q ⟨i, hi, e⟩)
      obtain ⟨q1, q2⟩ := put_new hOk hku hk (val := val) hnk hfr
      rw [if_neg (by omega)] at hpE
      rw [hpE, if_pos rfl, q2] at hpL
      refine ifB_f (by simpa using hfl) ?_
      conv => whnf
      repeat (refine And.intro (by omega) ?_; conv => whnf)
      intro l
      conv => whnf
      have hh := sP.hlt n key hn0
      have hrv : 1 = 1 → val = 0 := hv1
      have hLl : (putL 1 (flat 1 T) key val).length = (flat 1 T).length := by
        obtain ⟨z1, -⟩ := putA_ok hOk (r := (key, val)) (by rw [sP_U]; exact hku) hk hnk hfr
        rw [hpL, flat_len (by decide), z1.len, hl]
      have en : ((n : Int)).toNat = n := Int.toNat_natCast n
      have e6 : [key, val].getD (0 + 0 * ([Am.T.v (Value.int IntKind.u64 val)].length + 1)) 0 = key := rfl
      rw [e6, en]
      generalize hH : sP.hm n key = hm at *
      refine TW.loopD ctxPt_good 4 (base := 7000000) (lv := [0, 1, 2, 4, 6, 7, 8, 18]) [7] [692244, 64] [(692244, 692244), (64, 64)] (fun x : Nat × List R × R => [.v (.int .i64 x.1)]) (fun x => [.fl [.u64] [x.2.2.1, x.2.2.2], .fl [.u64] (flat 1 x.2.1)]) (fun x => x.1 ≤ n ∧ (x.2.1.length = n ∧ Nv 1 x.2.1) ∧ (1 = 1 → x.2.2.2 = 0) ∧ putF sP n (n - x.1) (atN n hm x.1) x.2.1 x.2.2 = putA sP n T (key, val)) (fun x => n - x.1) ?_
      conv => whnf
      refine ⟨⟨(0, T, (key, val)), ⟨rfl, rfl, rfl⟩, Nat.zero_le _, ⟨hTl, hTv⟩, hrv, ?_⟩, fun ⟨c, U, ra, rb⟩ ⟨hc, ⟨hUl, hUv⟩, hrb, hU⟩ => ?_⟩
      · unfold putA; dsimp only
        rw [hH, Nat.sub_zero, show atN n hm 0 = hm by have := atN_c n hm 0; omega]
      replace hc : c ≤ n := hc
      replace hUl : U.length = n := hUl
      replace hUv : Nv 1 U := hUv
      replace hrb : 1 = 1 → rb = 0 := hrb
      replace hU : putF sP n (n - c) (atN n hm c) U (ra, rb) = putA sP n T (key, val) := hU
      conv => whnf
      refine ifB_dec (fun hcn => ?_) (fun hcn => ?_)
      · replace hcn : (c : Int) < n := hcn
        have hat := atN_c n hm c
        have hi : atN n hm c < n := by omega
        have ew : IntKind.i64.wrap ((hm : Int) + (((c, U, ra, rb) : Nat × List R × R).1 : Nat)) = ((hm + c : Nat) : Int) := by rw [wrap64 (by dsimp only; omega) (by dsimp only; omega)]; dsimp only; omega
        have em : ((hm + c : Nat) : Int).tmod n = ((atN n hm c : Nat) : Int) := tmod_at hh (by omega)
        have hnx : nxt n (atN n hm c) = atN n hm (c + 1) := by have := nxt_c n (atN n hm c); have := atN_c n hm (c + 1); omega
        generalize hI : atN n hm c = i at *
        have hga : ga 1 (flat 1 U) i = (gR U i).1 := ga_flat (by decide) hUl hi
        have hgb : gb 1 (flat 1 U) i = (gR U i).2 := gb_flat (by decide) hUl hi hUv
        have hst : putF sP n (n - c) i U (ra, rb) = if gR U i = (0, 0) then U.set i (ra, rb) else if sP.bf ra (kR U i) = true then putF sP n (n - (c + 1)) (nxt n i) (U.set i (ra, rb)) (gR U i) else putF sP n (n - (c + 1)) (nxt n i) U (ra, rb) := by
          rw [show n - c = n - (c + 1) + 1 by omega]; rfl
        have ei : IntKind.i64.wrap ((i : Int) * 1) = ((i * 1 : Nat) : Int) := by rw [wrap64 (by omega) (by omega)]; omega
        have hUat := hUv.at (i := i) (by omega)
        unfold kR at hst
        generalize gR U i = g at *
        obtain ⟨A, B⟩ := g
        have hga' : ga (Int.toNat 1) (flat 1 ((c, U, ra, rb) : Nat × List R × R).2.1) ((i : Nat) : Int).toNat = A := hga
        have hgb' : gb (Int.toNat 1) (flat 1 ((c, U, ra, rb) : Nat × List R × R).2.1) ((i : Nat) : Int).toNat = B := hgb
        have e7 : (([0, 0].set (0 + 0 * (1 + 1) + 0) A).set (0 + 0 * (1 + 1) + (0 + 1)) B).getD (0 + 0 * (1 + 1) + 0) 0 = A := rfl
        have e8 : (([0, 0].set (0 + 0 * (1 + 1) + 0) A).set (0 + 0 * (1 + 1) + (0 + 1)) B).getD (0 + 0 * (1 + 1) + (0 + 1)) 0 = B := rfl
        conv => whnf
        rw [ew]
        repeat (refine And.intro (by omega) ?_; conv => whnf)
        rw [em]
        rw [hga', hgb', e7, e8]
        by_cases hz : A = 0 ∧ B = 0
        · rw [if_pos (by rw [hz.1, hz.2])] at hst
          refine ifB_t (by rw [hz.1, hz.2]; rfl) ?_
          conv => whnf
          rw [ei]
          repeat (refine And.intro (by first | omega | assumption | (exact allU_getD (by assumption) _) | (simp only [cutL]; omega) | (refine And.intro ?_ ?_ <;> first | assumption | exact allU_getD (by assumption) _) | (simp only [cutL, IntKind.wrap_u64, IntKind.wrap_i64] at *; omega) | decide) ?_; conv => whnf)
          rw [hpE, hLl, hpL, ← hU, hst, ← hX U i hUl hi ra rb]
          repeat' (first | exact trivial | exact rfl | (refine And.intro ?_ ?_) | ((conv => whnf); done) | ((conv => whnf); (first | rfl | (refine congrArg (fun b => T.v (Value.bool b)) ?_; first | rfl | exact (decide_eq_true (by omega)).symm | exact (decide_eq_false (by omega)).symm | exact decide_eq_decide.2 (by omega)) | (refine congrArg (fun b => T.v (Value.int _ b)) ?_; first | rfl | omega) | omega)) | (first | rfl | (refine congrArg (fun b => T.v (Value.bool b)) ?_; first | rfl | exact (decide_eq_true (by omega)).symm | exact (decide_eq_false (by omega)).symm | exact decide_eq_decide.2 (by omega)) | (refine congrArg (fun b => T.v (Value.int _ b)) ?_; first | rfl | omega) | omega))
        · have hz2 : ¬ (A, B) = ((0 : Int), (0 : Int)) := fun e => hz ⟨congrArg Prod.fst e, congrArg Prod.snd e⟩
          rw [if_neg hz2] at hst
          refine ifB_f (by by_cases h1 : A = 0 <;> by_cases h2 : B = 0 <;> simp_all) ?_
          conv => whnf
          repeat (refine And.intro (by omega) ?_; conv => whnf)
          refine ifB_mk (fun hb => ?_) (fun hb => ?_)
          · replace hb : sP.bf ra A = true := hb
            rw [if_pos hb] at hst
            conv => whnf
            rw [ei]
            repeat (refine And.intro (by first | omega | assumption | (exact allU_getD (by assumption) _) | (simp only [cutL]; omega) | (refine And.intro ?_ ?_ <;> first | assumption | exact allU_getD (by assumption) _) | (simp only [cutL, IntKind.wrap_u64, IntKind.wrap_i64] at *; omega) | decide) ?_; conv => whnf)
            rw [wsucc (j := c) (n := n) (by omega) (by omega)]
            refine ⟨(c + 1, U.set i (ra, rb), (A, B)), [(692244, 692244), (64, 64)], ⟨rfl, rfl, ?_⟩, ⟨(by omega : c + 1 ≤ n), ⟨by dsimp only; rw [List.length_set]; exact hUl, hUv.set hrb i⟩, hUat, ?_⟩, by dsimp only; omega⟩
            · show _ = ((692244 : Nat), Blk.fl [.u64] [A, B]) :: ((64 : Nat), Blk.fl [.u64] (flat 1 (U.set i (ra, rb)))) :: _
              rw [← hX U i hUl hi ra rb]
              rfl
            · dsimp only
              rw [← hU, hst, hnx]
          · replace hb : sP.bf ra A = false := hb
            rw [hb, if_neg (by decide)] at hst
            conv => whnf
            repeat (refine And.intro (by first | omega | assumption | (exact allU_getD (by assumption) _) | (simp only [cutL]; omega) | (refine And.intro ?_ ?_ <;> first | assumption | exact allU_getD (by assumption) _) | (simp only [cutL, IntKind.wrap_u64, IntKind.wrap_i64] at *; omega) | decide) ?_; conv => whnf)
            rw [wsucc (j := c) (n := n) (by omega) (by omega)]
            refine ⟨(c + 1, U, (ra, rb)), [(692244, 692244), (64, 64)], ⟨rfl, rfl, rfl⟩, ⟨(by omega : c + 1 ≤ n), ⟨hUl, hUv⟩, hrb, ?_⟩, by dsimp only; omega⟩
            dsimp only
            rw [← hU, hst, hnx]
      · replace hcn : ¬ (c : Int) < n := hcn
        have hcn : c = n := by omega
        subst hcn
        rw [Nat.sub_self] at hU
        replace hU : U = putA sP c T (key, val) := hU
        conv => whnf
        repeat (refine And.intro (by first | rfl | omega) ?_; conv => whnf)
        rw [hpE, hLl, hpL, ← hU]
        repeat' (first | exact trivial | exact rfl | (refine And.intro ?_ ?_) | ((conv => whnf); done) | ((conv => whnf); (first | rfl | (refine congrArg (fun b => T.v (Value.bool b)) ?_; first | rfl | exact (decide_eq_true (by omega)).symm | exact (decide_eq_false (by omega)).symm | exact decide_eq_decide.2 (by omega)) | (refine congrArg (fun b => T.v (Value.int _ b)) ?_; first | rfl | omega) | omega)) | (first | rfl | (refine congrArg (fun b => T.v (Value.bool b)) ?_; first | rfl | exact (decide_eq_true (by omega)).symm | exact (decide_eq_false (by omega)).symm | exact decide_eq_decide.2 (by omega)) | (refine congrArg (fun b => T.v (Value.int _ b)) ?_; first | rfl | omega) | omega))
set_option maxHeartbeats 2000000 in
set_option maxRecDepth 100000 in
theorem put2_pure (m n : Nat) (T : List R) (key val : Int) (hm : m ≤ 1000000) (hu : AllU (flat 2 T)) (hTl : T.length = n) (hTv : Nv 2 T) (hku : U64 key) (hr : rightB 2 (flat 2 T) = true) (hn0 : 0 < n) (hn : n ≤ 1024) (hl : (flat 2 T).length = n * 2) (f1 : shW 2 (flat 2 T) = (flat 2 T)) (f2 : shN 2 (flat 2 T) = n) (f3 : shK 2 (flat 2 T) = 2) (hOk : Ok sP n T) (hk : key ≠ 0) (hv1 : (2 : Nat) = 1 → val = 0) : Pure Tryz.prog glM 89 [.fl [.u64] m (flat 2 T), .v (.int .i64 2), .v (.int .u64 key), .v (.int .u64 val)] (.tup [.ow 0 1 (putL 2 (flat 2 T) key val).length, .v (.int .i64 (putE 2 (flat 2 T) key val))]) [(0, .fl [.u64] (putL 2 (flat 2 T) key val))] := by
  have hT : recs n 2 (flat 2 T) = T := recs_flat (by decide) hTl hTv
  have hpE : putE 2 (flat 2 T) key val = if n < (oth (nzs (recs n 2 (flat 2 T))) key).length + 1 then 11 else 0 := putE_right (v := 2) (val := val) (by decide) hr f2 hk hv1
  have hpL : putL 2 (flat 2 T) key val = if putE 2 (flat 2 T) key val = 0 then flat 2 (laid sP n (oth (nzs (recs n 2 (flat 2 T))) key ++ [(key, val)])) else (flat 2 T) := putL_right (v := 2) (val := val) f2 (key := key)
  have hfull : fullB n 2 (flat 2 T) = true ↔ ∀ i, i < n → kR (recs n 2 (flat 2 T)) i ≠ 0 := fullB_iff
  rw [hT] at hpE hpL hfull
  have hX : ∀ U i, U.length = n → i < n → ∀ ra rb : Int, spl (flat 2 U) (mulN (addN (addN 0 (loN (some ((i * 2 : Nat) : Int)))) (loN none)) (0 + 1)) (List.take (mulN (minN (cutL 2 none none) (cutL (cutL (flat 2 T).length (some ((i * 2 : Nat) : Int)) none) none (some 2))) (0 + 1)) (List.take (mulN (cutL 2 none none) (0 + 1)) (List.drop (mulN (loN none) (0 + 1)) [ra, rb]))) = flat 2 (U.set i (ra, rb)) := fun U i h1 h2 ra rb => by
    rw [hl]; exact setX2 h1 h2 ra rb
  refine pure_of (C := ctxPt Tryz.prog ctxPt_inlOk) ctxPt_good Tryz.func89 (c := bodyOf Tryz.f89) (by rfl) (Nat.le_of_ble_eq_true (by rfl)) 4 4 [0, 1, 2, 3, 8, 9, 10, 11, 12, 32, 43, 52] ?_
  conv => whnf
  refine And.intro ⟨hm, hu⟩ ?_
  conv => whnf
  refine ifB_f (by rw [hr]; rfl) ?_
  conv => whnf
  refine ifB_eq (fun h => absurd h hk) (fun h => ?_)
  conv => whnf
  try refine ifB_ne (fun h => absurd (hv1 rfl) h) (fun h => ?_)
  try conv => whnf
  rw [f1, f2, f3]
  refine And.intro ⟨by omega, by omega, by omega, by rw [hl]; exact Int.natCast_mul _ _⟩ ?_
  conv => whnf
  rw [Int.toNat_natCast, show (Int.toNat 2) = 2 from rfl, hT]
  by_cases hin : ∃ p, p < n ∧ kR T p = key
  · obtain ⟨p, hp, hpk⟩ := hin
    rw [findF_in hOk hp hpk hk n _ (sP.hlt n key hn0) (by rw [dist_self]; exact Nat.zero_le _) (dist_lt (sP.hlt n key hn0) hp)]
    obtain ⟨q1, q2⟩ := put_set hOk hku hk (val := val) hp hpk
    rw [if_neg (by omega)] at hpE
    rw [hpE, if_pos rfl, q2] at hpL
    have ei : IntKind.i64.wrap ((p : Int) * 2) = ((p * 2 : Nat) : Int) := by rw [wrap64 (by omega) (by omega)]; omega
    have eX := hX T p hTl hp key val
    have hLl : (putL 2 (flat 2 T) key val).length = (flat 2 T).length := by rw [hpL, flat_len (by decide), List.length_set, hTl, hl]
    rw [hpE, hLl, hpL, ← eX]
    conv => whnf
    rw [ei]
    repeat (refine And.intro (by first | omega | assumption | (exact allU_getD (by assumption) _) | (simp only [cutL]; omega) | (refine And.intro ?_ ?_ <;> first | assumption | exact allU_getD (by assumption) _) | (simp only [cutL, IntKind.wrap_u64, IntKind.wrap_i64] at *; omega) | decide) ?_; conv => whnf)
    repeat' (first | exact trivial | exact rfl | (refine And.intro ?_ ?_) | ((conv => whnf); done) | ((conv => whnf); (first | rfl | (refine congrArg (fun b => T.v (Value.bool b)) ?_; first | rfl | exact (decide_eq_true (by omega)).symm | exact (decide_eq_false (by omega)).symm | exact decide_eq_decide.2 (by omega)) | (refine congrArg (fun b => T.v (Value.int _ b)) ?_; first | rfl | omega) | omega)) | (first | rfl | (refine congrArg (fun b => T.v (Value.bool b)) ?_; first | rfl | exact (decide_eq_true (by omega)).symm | exact (decide_eq_false (by omega)).symm | exact decide_eq_decide.2 (by omega)) | (refine congrArg (fun b => T.v (Value.int _ b)) ?_; first | rfl | omega) | omega))
  · have hnk : ∀ j, j < n → kR T j ≠ key := fun j hj e => hin ⟨j, hj, e⟩
    rw [findF_out hnk n _ (sP.hlt n key hn0)]
    conv => whnf
    refine And.intro ⟨by omega, by omega, by omega, by rw [hl]; exact Int.natCast_mul _ _⟩ ?_
    conv => whnf
    rw [Int.toNat_natCast, show (Int.toNat 2) = 2 from rfl]
    by_cases hfl : fullB n 2 (flat 2 T) = true
    · have q1 := put_full hOk hnk (hfull.1 hfl)
      rw [if_pos (by omega)] at hpE
      rw [hpE, if_neg (by decide)] at hpL
      rw [hpE, hpL]
      refine ifB_t hfl ?_
      conv => whnf
      repeat' (first | exact trivial | exact rfl | (refine And.intro ?_ ?_) | ((conv => whnf); done) | ((conv => whnf); (first | rfl | (refine congrArg (fun b => T.v (Value.bool b)) ?_; first | rfl | exact (decide_eq_true (by omega)).symm | exact (decide_eq_false (by omega)).symm | exact decide_eq_decide.2 (by omega)) | (refine congrArg (fun b => T.v (Value.int _ b)) ?_; first | rfl | omega) | omega)) | (first | rfl | (refine congrArg (fun b => T.v (Value.bool b)) ?_; first | rfl | exact (decide_eq_true (by omega)).symm | exact (decide_eq_false (by omega)).symm | exact decide_eq_decide.2 (by omega)) | (refine congrArg (fun b => T.v (Value.int _ b)) ?_; first | rfl | omega) | omega))
    · have hfr : ∃ e, e < n ∧ kR T e = 0 := Classical.byContradiction fun q => hfl (hfull.2 fun i hi e => q ⟨i, hi, e⟩)
      obtain ⟨q1, q2⟩ := put_new hOk hku hk (val := val) hnk hfr
      rw [if_neg (by omega)] at hpE
      rw [hpE, if_pos rfl, q2] at hpL
      refine ifB_f (by simpa using hfl) ?_
      conv => whnf
      repeat (refine And.intro (by omega) ?_; conv => whnf)
      intro l
      conv => whnf
      have hh := sP.hlt n key hn0
      have hrv : 2 = 1 → val = 0 := hv1
      have hLl : (putL 2 (flat 2 T) key val).length = (flat 2 T).length := by
        obtain ⟨z1, -⟩ := putA_ok hOk (r := (key, val)) (by rw [sP_U]; exact hku) hk hnk hfr
        rw [hpL, flat_len (by decide), z1.len, hl]
      have en : ((n : Int)).toNat = n := Int.toNat_natCast n
      have e6 : [key, val].getD (0 + 0 * ([Am.T.v (Value.int IntKind.u64 val)].length + 1)) 0 = key := rfl
      rw [e6, en]
      generalize hH : sP.hm n key = hm at *
      refine TW.loopD ctxPt_good 4 (base := 7000000) (lv := [0, 1, 2, 4, 6, 7, 8, 18]) [7] [692244, 64] [(692244, 692244), (64, 64)] (fun x : Nat × List R × R => [.v (.int .i64 x.1)]) (fun x => [.fl [.u64] [x.2.2.1, x.2.2.2], .fl [.u64] (flat 2 x.2.1)]) (fun x => x.1 ≤ n ∧ (x.2.1.length = n ∧ Nv 2 x.2.1) ∧ (2 = 1 → x.2.2.2 = 0) ∧ putF sP n (n - x.1) (atN n hm x.1) x.2.1 x.2.2 = putA sP n T (key, val)) (fun x => n - x.1) ?_
      conv => whnf
      refine ⟨⟨(0, T, (key, val)), ⟨rfl, rfl, rfl⟩, Nat.zero_le _, ⟨hTl, hTv⟩, hrv, ?_⟩, fun ⟨c, U, ra, rb⟩ ⟨hc, ⟨hUl, hUv⟩, hrb, hU⟩ => ?_⟩
      · unfold putA; dsimp only
        rw [hH, Nat.sub_zero, show atN n hm 0 = hm by have := atN_c n hm 0; omega]
      replace hc : c ≤ n := hc
      replace hUl : U.length = n := hUl
      replace hUv : Nv 2 U := hUv
      replace hrb : 2 = 1 → rb = 0 := hrb
      replace hU : putF sP n (n - c) (atN n hm c) U (ra, rb) = putA sP n T (key, val) := hU
      conv => whnf
      refine ifB_dec (fun hcn => ?_) (fun hcn => ?_)
      · replace hcn : (c : Int) < n := hcn
        have hat := atN_c n hm c
        have hi : atN n hm c < n := by omega
        have ew : IntKind.i64.wrap ((hm : Int) + (((c, U, ra, rb) : Nat × List R × R).1 : Nat)) = ((hm + c : Nat) : Int) := by rw [wrap64 (by dsimp only; omega) (by dsimp only; omega)]; dsimp only; omega
        have em : ((hm + c : Nat) : Int).tmod n = ((atN n hm c : Nat) : Int) := tmod_at hh (by omega)
        have hnx : nxt n (atN n hm c) = atN n hm (c + 1) := by have := nxt_c n (atN n hm c); have := atN_c n hm (c + 1); omega
        generalize hI : atN n hm c = i at *
        have hga : ga 2 (flat 2 U) i = (gR U i).1 := ga_flat (by decide) hUl hi
        have hgb : gb 2 (flat 2 U) i = (gR U i).2 := gb_flat (by decide) hUl hi hUv
        have hst : putF sP n (n - c) i U (ra, rb) = if gR U i = (0, 0) then U.set i (ra, rb) else if sP.bf ra (kR U i) = true then putF sP n (n - (c + 1)) (nxt n i) (U.set i (ra, rb)) (gR U i) else putF sP n (n - (c + 1)) (nxt n i) U (ra, rb) := by
          rw [show n - c = n - (c + 1) + 1 by omega]; rfl
        have ei : IntKind.i64.wrap ((i : Int) * 2) = ((i * 2 : Nat) : Int) := by rw [wrap64 (by omega) (by omega)]; omega
        have hUat := hUv.at (i := i) (by omega)
        unfold kR at hst
        generalize gR U i = g at *
        obtain ⟨A, B⟩ := g
        have hga' : ga (Int.toNat 2) (flat 2 ((c, U, ra, rb) : Nat × List R × R).2.1) ((i : Nat) : Int).toNat = A := hga
        have hgb' : gb (Int.toNat 2) (flat 2 ((c, U, ra, rb) : Nat × List R × R).2.1) ((i : Nat) : Int).toNat = B := hgb
        have e7 : (([0, 0].set (0 + 0 * (1 + 1) + 0) A).set (0 + 0 * (1 + 1) + (0 + 1)) B).getD (0 + 0 * (1 + 1) + 0) 0 = A := rfl
        have e8 : (([0, 0].set (0 + 0 * (1 + 1) + 0) A).set (0 + 0 * (1 + 1) + (0 + 1)) B).getD (0 + 0 * (1 + 1) + (0 + 1)) 0 = B := rfl
        conv => whnf
        rw [ew]
        repeat (refine And.intro (by omega) ?_; conv => whnf)
        rw [em]
        rw [hga', hgb', e7, e8]
        by_cases hz : A = 0 ∧ B = 0
        · rw [if_pos (by rw [hz.1, hz.2])] at hst
          refine ifB_t (by rw [hz.1, hz.2]; rfl) ?_
          conv => whnf
          rw [ei]
          repeat (refine And.intro (by first | omega | assumption | (exact allU_getD (by assumption) _) | (simp only [cutL]; omega) | (refine And.intro ?_ ?_ <;> first | assumption | exact allU_getD (by assumption) _) | (simp only [cutL, IntKind.wrap_u64, IntKind.wrap_i64] at *; omega) | decide) ?_; conv => whnf)
          rw [hpE, hLl, hpL, ← hU, hst, ← hX U i hUl hi ra rb]
          repeat' (first | exact trivial | exact rfl | (refine And.intro ?_ ?_) | ((conv => whnf); done) | ((conv => whnf); (first | rfl | (refine congrArg (fun b => T.v (Value.bool b)) ?_; first | rfl | exact (decide_eq_true (by omega)).symm | exact (decide_eq_false (by omega)).symm | exact decide_eq_decide.2 (by omega)) | (refine congrArg (fun b => T.v (Value.int _ b)) ?_; first | rfl | omega) | omega)) | (first | rfl | (refine congrArg (fun b => T.v (Value.bool b)) ?_; first | rfl | exact (decide_eq_true (by omega)).symm | exact (decide_eq_false (by omega)).symm | exact decide_eq_decide.2 (by omega)) | (refine congrArg (fun b => T.v (Value.int _ b)) ?_; first | rfl | omega) | omega))
        · have hz2 : ¬ (A, B) = ((0 : Int), (0 : Int)) := fun e => hz ⟨congrArg Prod.fst e, congrArg Prod.snd e⟩
          rw [if_neg hz2] at hst
          refine ifB_f (by by_cases h1 : A = 0 <;> by_cases h2 : B = 0 <;> simp_all) ?_
          conv => whnf
          repeat (refine And.intro (by omega) ?_; conv => whnf)
          refine ifB_mk (fun hb => ?_) (fun hb => ?_)
          · replace hb : sP.bf ra A = true := hb
            rw [if_pos hb] at hst
            conv => whnf
            rw [ei]
            repeat (refine And.intro (by first | omega | assumption | (exact allU_getD (by assumption) _) | (simp only [cutL]; omega) | (refine And.intro ?_ ?_ <;> first | assumption | exact allU_getD (by assumption) _) | (simp only [cutL, IntKind.wrap_u64, IntKind.wrap_i64] at *; omega) | decide) ?_; conv => whnf)
            rw [wsucc (j := c) (n := n) (by omega) (by omega)]
            refine ⟨(c + 1, U.set i (ra, rb), (A, B)), [(692244, 692244), (64, 64)], ⟨rfl, rfl, ?_⟩, ⟨(by omega : c + 1 ≤ n), ⟨by dsimp only; rw [List.length_set]; exact hUl, hUv.set hrb i⟩, hUat, ?_⟩, by dsimp only; omega⟩
            · show _ = ((692244 : Nat), Blk.fl [.u64] [A, B]) :: ((64 : Nat), Blk.fl [.u64] (flat 2 (U.set i (ra, rb)))) :: _
              rw [← hX U i hUl hi ra rb]
              rfl
            · dsimp only
              rw [← hU, hst, hnx]
          · replace hb : sP.bf ra A = false := hb
            rw [hb, if_neg (by decide)] at hst
            conv => whnf
            repeat (refine And.intro (by first | omega | assumption | (exact allU_getD (by assumption) _) | (simp only [cutL]; omega) | (refine And.intro ?_ ?_ <;> first | assumption | exact allU_getD (by assumption) _) | (simp only [cutL, IntKind.wrap_u64, IntKind.wrap_i64] at *; omega) | decide) ?_; conv => whnf)
            rw [wsucc (j := c) (n := n) (by omega) (by omega)]
            refine ⟨(c + 1, U, (ra, rb)), [(692244, 692244), (64, 64)], ⟨rfl, rfl, rfl⟩, ⟨(by omega : c + 1 ≤ n), ⟨hUl, hUv⟩, hrb, ?_⟩, by dsimp only; omega⟩
            dsimp only
            rw [← hU, hst, hnx]
      · replace hcn : ¬ (c : Int) < n := hcn
        have hcn : c = n := by omega
        subst hcn
        rw [Nat.sub_self] at hU
        replace hU : U = putA sP c T (key, val) := hU
        conv => whnf
        repeat (refine And.intro (by first | rfl | omega) ?_; conv => whnf)
        rw [hpE, hLl, hpL, ← hU]
        repeat' (first | exact trivial | exact rfl | (refine And.intro ?_ ?_) | ((conv => whnf); done) | ((conv => whnf); (first | rfl | (refine congrArg (fun b => T.v (Value.bool b)) ?_; first | rfl | exact (decide_eq_true (by omega)).symm | exact (decide_eq_false (by omega)).symm | exact decide_eq_decide.2 (by omega)) | (refine congrArg (fun b => T.v (Value.int _ b)) ?_; first | rfl | omega) | omega)) | (first | rfl | (refine congrArg (fun b => T.v (Value.bool b)) ?_; first | rfl | exact (decide_eq_true (by omega)).symm | exact (decide_eq_false (by omega)).symm | exact decide_eq_decide.2 (by omega)) | (refine congrArg (fun b => T.v (Value.int _ b)) ?_; first | rfl | omega) | omega))
theorem putE_no {w : Int} {ws : List Int} {key val : Int} (h : ¬ rightB w ws = true ∨ key = 0 ∨ (w = 1 ∧ val ≠ 0)) : putE w ws key val = 1 ∧ putL w ws key val = ws := by
  have e : putE w ws key val = 1 := by unfold putE; rw [if_pos h]
  exact ⟨e, by unfold putL; rw [e, if_neg (by decide)]⟩
set_option maxRecDepth 100000 in
theorem putX_pure (m : Nat) (ws : List Int) (w key val : Int) (hm : m ≤ 1000000) (hu : AllU ws) (h : ¬ rightB w ws = true ∨ key = 0 ∨ (w = 1 ∧ val ≠ 0)) : Pure Tryz.prog glM 89 [.fl [.u64] m ws, .v (.int .i64 w), .v (.int .u64 key), .v (.int .u64 val)] (.tup [.ow 0 1 (putL w ws key val).length, .v (.int .i64 (putE w ws key val))]) [(0, .fl [.u64] (putL w ws key val))] := by
  refine pure_wf fun hw => ?_
  obtain ⟨⟨w1, w2⟩, -⟩ := hw
  simp only [List.length_cons, List.length_nil, Nat.zero_add, Nat.mul_one] at w1
  obtain ⟨e1, e2⟩ := putE_no h
  rw [e1, e2, w1]
  refine pure_of (C := ctxPt Tryz.prog ctxPt_inlOk) ctxPt_good Tryz.func89 (c := bodyOf Tryz.f89) (by rfl) (Nat.le_of_ble_eq_true (by rfl)) 4 4 [0, 1, 2, 3, 8, 9, 10, 11, 12, 32, 43, 52] ?_
  conv => whnf
  refine And.intro ⟨hm, hu⟩ ?_
  conv => whnf
  by_cases hr : rightB w ws = true
  · refine ifB_f (by rw [hr]; rfl) ?_
    conv => whnf
    refine ifB_eq (fun hk => ?_) (fun hk => ?_)
    · conv => whnf
      repeat (refine And.intro (by omega) ?_; conv => whnf)
      repeat' (first | exact trivial | exact rfl | (refine And.intro ?_ ?_) | ((conv => whnf); done) | ((conv => whnf); (first | rfl | (refine congrArg (fun b => T.v (Value.bool b)) ?_; first | rfl | exact (decide_eq_true (by omega)).symm | exact (decide_eq_false (by omega)).symm | exact decide_eq_decide.2 (by omega)) | (refine congrArg (fun b => T.v (Value.int _ b)) ?_; first | rfl | omega) | omega)) | (first | rfl | (refine congrArg (fun b => T.v (Value.bool b)) ?_; first | rfl | exact (decide_eq_true (by omega)).symm | exact (decide_eq_false (by omega)).symm | exact decide_eq_decide.2 (by omega)) | (refine congrArg (fun b => T.v (Value.int _ b)) ?_; first | rfl | omega) | omega))
    · conv => whnf
      have h2 : w = 1 ∧ val ≠ 0 := by
        rcases h with q | q | q
        · exact absurd hr q
        · exact absurd q hk
        · exact q
      refine ifB_eq (fun hw1 => ?_) (fun hw1 => absurd h2.1 hw1)
      conv => whnf
      refine ifB_ne (fun hv => ?_) (fun hv => absurd hv h2.2)
      conv => whnf
      repeat (refine And.intro (by omega) ?_; conv => whnf)
      repeat' (first | exact trivial | exact rfl | (refine And.intro ?_ ?_) | ((conv => whnf); done) | ((conv => whnf); (first | rfl | (refine congrArg (fun b => T.v (Value.bool b)) ?_; first | rfl | exact (decide_eq_true (by omega)).symm | exact (decide_eq_false (by omega)).symm | exact decide_eq_decide.2 (by omega)) | (refine congrArg (fun b => T.v (Value.int _ b)) ?_; first | rfl | omega) | omega)) | (first | rfl | (refine congrArg (fun b => T.v (Value.bool b)) ?_; first | rfl | exact (decide_eq_true (by omega)).symm | exact (decide_eq_false (by omega)).symm | exact decide_eq_decide.2 (by omega)) | (refine congrArg (fun b => T.v (Value.int _ b)) ?_; first | rfl | omega) | omega))
  · refine ifB_t (by rw [Bool.eq_false_iff.2 hr]; rfl) ?_
    conv => whnf
    repeat (refine And.intro (by omega) ?_; conv => whnf)
    repeat' (first | exact trivial | exact rfl | (refine And.intro ?_ ?_) | ((conv => whnf); done) | ((conv => whnf); (first | rfl | (refine congrArg (fun b => T.v (Value.bool b)) ?_; first | rfl | exact (decide_eq_true (by omega)).symm | exact (decide_eq_false (by omega)).symm | exact decide_eq_decide.2 (by omega)) | (refine congrArg (fun b => T.v (Value.int _ b)) ?_; first | rfl | omega) | omega)) | (first | rfl | (refine congrArg (fun b => T.v (Value.bool b)) ?_; first | rfl | exact (decide_eq_true (by omega)).symm | exact (decide_eq_false (by omega)).symm | exact decide_eq_decide.2 (by omega)) | (refine congrArg (fun b => T.v (Value.int _ b)) ?_; first | rfl | omega) | omega))
theorem put_pure (m : Nat) (ws : List Int) (w key val : Int) (hm : m ≤ 1000000) (hu : AllU ws) (hku : U64 key) : Pure Tryz.prog glM 89 [.fl [.u64] m ws, .v (.int .i64 w), .v (.int .u64 key), .v (.int .u64 val)] (.tup [.ow 0 1 (putL w ws key val).length, .v (.int .i64 (putE w ws key val))]) [(0, .fl [.u64] (putL w ws key val))] := by
  by_cases h : ¬ rightB w ws = true ∨ key = 0 ∨ (w = 1 ∧ val ≠ 0)
  · exact putX_pure m ws w key val hm hu h
  · have hr : rightB w ws = true := Classical.byContradiction fun q => h (.inl q)
    obtain ⟨n, v, hv, rfl, ⟨hn0, hn⟩, hl, f1, f2, f3, f4⟩ := ok_facts ((rightB_iff w ws).1 hr).1
    have hTl := recs_len n v ws
    have hTv := recs_nv n v ws
    have hf : flat v (recs n v ws) = ws := flat_recs hv hl
    have hOk := f4.1 hr
    generalize recs n v ws = T at *
    subst hf
    have hk : key ≠ 0 := fun q => h (.inr (.inl q))
    rcases hv with rfl | rfl
    · exact put1_pure m n T key val hm hu hTl hTv hku hr hn0 hn hl f1 f2 f3 hOk hk (fun _ => Classical.byContradiction fun q => h (.inr (.inr ⟨rfl, q⟩)))
    · exact put2_pure m n T key val hm hu hTl hTv hku hr hn0 hn hl f1 f2 f3 hOk hk (fun q => by cases q)

noncomputable def ePut : Entry := ⟨89, 4, fun l => match l with | [.fl [.u64] m ws, .v (.int .i64 w), .v (.int .u64 key), .v (.int .u64 val)] => some (some (m ≤ 1000000 ∧ AllU ws ∧ U64 key), .tup [.ow 0 1 (putL w ws key val).length, .v (.int .i64 (putE w ws key val))], [(0, .fl [.u64] (putL w ws key val))]) | _ => none⟩
theorem ePut_ok : ePut.ok Tryz.prog glM := ⟨Am.enters_of Tryz.func89 (by kernel_rfl) (by kernel_rfl), by
  intro args c t bs h hc
  simp only [ePut] at h
  split at h <;> cases h
  replace hc := hc _ rfl
  exact put_pure _ _ _ _ _ hc.1 hc.2.1 hc.2.2⟩
end Go.Proofs.YtnplgklnkcjmnaaGreatDoor.PrT
namespace Go.Proofs.YtnplgklnkcjmnaaGreatDoor.PrT
open Go.RowKit Go.Proofs.YtnplgklnkcjmnaaGreatDoor.Am Go.Proofs.YtnplgklnkcjmnaaGreatDoor
set_option linter.unusedVariables false
set_option linter.unusedSimpArgs false

theorem del_laid {n : Nat} {T T1 : List R} (h : Ok sP n T) {key : Int} {p : Nat} (hp : p < n) (hpk : kR T p = key) (hk : key ≠ 0) (h1 : Ok sP n T1) (hin : ∀ x, In n T1 x ↔ In n T x ∧ x ≠ gR T p) : laid sP n (oth (nzs T) key) = T1 := by
  have hr := h.recs
  refine laid_is (hr.of_mem (fun x hx => (oth_mem.1 hx).1) (hr.nd.sublist List.filter_sublist)) (by have := nzs_len T; rw [h.len] at this; exact Nat.le_trans (List.length_filter_le _ _) this) h1 fun x => ?_
  rw [hin, oth_mem, In_nzs h.len]
  constructor
  · rintro ⟨q1, q2⟩
    refine ⟨q1, fun e => q2 ?_⟩
    obtain ⟨z1, j, z2, z3⟩ := (In_nzs h.len x).2 q1
    have := h.nd j p z2 hp (by unfold kR; rw [z3]; exact z1) (by rw [hpk, ← e]; unfold kR; rw [z3])
    subst this; exact z3.symm
  · rintro ⟨q1, q2⟩
    exact ⟨q1, fun e => q2 (by rw [e]; exact hpk)⟩
noncomputable def iDel : Inl := ⟨127, Tryz.f127, bodyOf Tryz.f127, [0, 1, 2, 4, 5, 15, 24, 36]⟩
theorem iDel_ok : iDel.ok Tryz.prog := Inl.mk_ok Tryz.func127 (by rfl) (by kernel_rfl) (by kernel_rfl)
noncomputable def ctxDl_inl : List Inl := [iDel, iSet]
theorem ctxDl_inlOk : InlOk Tryz.prog ctxDl_inl := ⟨iDel_ok, iSet_ok, trivial⟩
noncomputable def ctxDl (P : Program) (h : InlOk P ctxDl_inl) : Ctx := ctx P glM [eRight0, eFind, eClone, eGet, eNext, eFar, eHome] [] (noEq P) ctxDl_inl h.mem
theorem ctxDl_good : (ctxDl Tryz.prog ctxDl_inlOk).good := ctx_good (by kernel_rfl) (AllOk.mem ⟨eRight0_ok, eFind_ok, entry_lift eClone_ok, entry_lift eGet_ok, entry_lift eNext_ok, entry_lift eFar_ok, eHome_ok, trivial⟩) glM_two
attribute [local irreducible] bldE bldW rightB shW shN shK putE putL delE delL fullB
set_option maxHeartbeats 2000000 in
set_option maxRecDepth 100000 in
theorem del1_pure (m n : Nat) (T : List R) (key : Int) (hm : m ≤ 1000000) (hu : AllU (flat 1 T)) (hTl : T.length = n) (hTv : Nv 1 T) (hr : rightB 1 (flat 1 T) = true) (hn0 : 0 < n) (hn : n ≤ 1024) (hl : (flat 1 T).length = n * 1) (f1 : shW 1 (flat 1 T) = (flat 1 T)) (f2 : shN 1 (flat 1 T) = n) (f3 : shK 1 (flat 1 T) = 1) (hOk : Ok sP n T) (hk : key ≠ 0) : Pure Tryz.prog glM 94 [.fl [.u64] m (flat 1 T), .v (.int .i64 1), .v (.int .u64 key)] (.tup [.ow 0 1 (delL 1 (flat 1 T) key).length, .v (.int .i64 (delE 1 (flat 1 T) key))]) [(0, .fl [.u64] (delL 1 (flat 1 T) key))] := by
  have hT : recs n 1 (flat 1 T) = T := recs_flat (by decide) hTl hTv
  have hrc : rcs 1 (flat 1 T) = nzs T := by unfold rcs; rw [f2, show (Int.toNat 1) = 1 from rfl, hT]
  have hX : ∀ U i, U.length = n → i < n → ∀ ra rb : Int, spl (flat 1 U) (mulN (addN (addN 0 (loN (some ((i * 1 : Nat) : Int)))) (loN none)) (0 + 1)) (List.take (mulN (minN (cutL 2 none none) (cutL (cutL (flat 1 T).length (some ((i * 1 : Nat) : Int)) none) none (some 1))) (0 + 1)) (List.take (mulN (cutL 2 none none) (0 + 1)) (List.drop (mulN (loN none) (0 + 1)) [ra, rb]))) = flat 1 (U.set i (ra, rb)) := fun U i h1 h2 ra rb => by
    rw [hl]; exact setX1 h1 h2 ra rb
  have hei : ∀ i, i < n → IntKind.i64.wrap ((i : Int) * 1) = ((i * 1 : Nat) : Int) := fun i hi => by rw [wrap64 (by omega) (by omega)]; omega
  refine pure_of (C := ctxDl Tryz.prog ctxDl_inlOk) ctxDl_good Tryz.func94 (c := bodyOf Tryz.f94) (by rfl) (Nat.le_of_ble_eq_true (by rfl)) 4 4 [0, 1, 2, 6, 7, 8, 9, 10, 22, 29] ?_
  conv => whnf
  refine And.intro ⟨hm, hu⟩ ?_
  conv => whnf
  refine ifB_f (by rw [hr]; rfl) ?_
  conv => whnf
  refine ifB_eq (fun h => absurd h hk) (fun h => ?_)
  conv => whnf
  rw [f1, f2, f3]
  refine And.intro ⟨by omega, by omega, by omega, by rw [hl]; exact Int.natCast_mul _ _⟩ ?_
  conv => whnf
  rw [Int.toNat_natCast, show (Int.toNat 1) = 1 from rfl, hT]
  by_cases hin : ∃ p, p < n ∧ kR T p = key
  · obtain ⟨p, hp, hpk⟩ := hin
    have hpk0 : kR T p ≠ 0 := by rw [hpk]; exact hk
    obtain ⟨f0, T1, d1, d2, d3⟩ := del_ok hOk hp hpk0
    have hE : delE 1 (flat 1 T) key = 0 := by
      unfold delE
      rw [if_neg (fun q => q.elim (fun q => q hr) hk), hrc, if_pos ⟨gR T p, nzs_mem.2 ⟨gR_mem (by omega), hpk0⟩, hpk⟩]
    have hL : delL 1 (flat 1 T) key = flat 1 T1 := by
      have := del_laid hOk hp hpk hk d2 d3
      unfold delL
      rw [hE, if_pos rfl, hrc, f2, this]; rfl
    have hLl : (delL 1 (flat 1 T) key).length = (flat 1 T).length := by rw [hL, flat_len (by decide), d2.len, hl]
    rw [findF_in hOk hp hpk hk n _ (sP.hlt n key hn0) (by rw [dist_self]; exact Nat.zero_le _) (dist_lt (sP.hlt n key hn0) hp)]
    conv => whnf
    rw [hei p hp]
    repeat (refine And.intro (by first | omega | assumption | (exact allU_getD (by assumption) _) | (simp only [cutL]; omega) | (refine And.intro ?_ ?_ <;> first | assumption | exact allU_getD (by assumption) _) | (simp only [cutL, IntKind.wrap_u64, IntKind.wrap_i64] at *; omega) | decide) ?_; conv => whnf)
    rw [hX T p hTl hp 0 0, Int.toNat_natCast, Int.toNat_natCast]
    refine TW.loopD ctxDl_good 4 (base := 9000000) (lv := [0, 1, 2, 4, 5, 15, 24, 36]) [1, 4] [56] [(56, 56)] (fun x : Nat × Nat × Nat × List R => [.v (.int .i64 x.2.1), .v (.int .i64 x.2.2.1)]) (fun x => [.fl [.u64] (flat 1 x.2.2.2)]) (fun x => delF sP n x.1 x.2.1 x.2.2.1 x.2.2.2 = some T1 ∧ (x.2.1 < n ∧ x.2.2.1 < n) ∧ x.2.2.2.length = n ∧ Nv 1 x.2.2.2) (fun x => x.1) ?_
    conv => whnf
    refine ⟨⟨(f0, p, nxt n p, T.set p (0, 0)), ⟨rfl, rfl, rfl⟩, d1, ⟨hp, by have := nxt_c n p; dsimp only; omega⟩, by dsimp only; rw [List.length_set]; exact hTl, hTv.set (fun _ => rfl) p⟩, fun ⟨f, hole, i, U⟩ ⟨hd, ⟨hho, hi⟩, hUl, hUv⟩ => ?_⟩
    replace hd : delF sP n f hole i U = some T1 := hd
    replace hho : hole < n := hho
    replace hi : i < n := hi
    replace hUl : U.length = n := hUl
    replace hUv : Nv 1 U := hUv
    cases f with
    | zero => cases hd
    | succ f =>
      have hst : delF sP n (f + 1) hole i U = if i = hole then some U else if gR U i = (0, 0) then some U else if dist n hole i ≤ dist n (sP.hm n (kR U i)) i then delF sP n f i (nxt n i) ((U.set hole (gR U i)).set i (0, 0)) else delF sP n f hole (nxt n i) U := rfl
      rw [hst] at hd
      conv => whnf
      refine ifB_ne (x := (i : Int)) (y := (hole : Int)) (fun hne => ?_) (fun hne => ?_)
      · have hne2 : ¬ i = hole := fun e => hne (by rw [e])
        rw [if_neg hne2] at hd
        conv => whnf
        repeat (refine And.intro (by omega) ?_; conv => whnf)
        have hga : ga 1 (flat 1 U) i = (gR U i).1 := ga_flat (by decide) hUl hi
        have hgb : gb 1 (flat 1 U) i = (gR U i).2 := gb_flat (by decide) hUl hi hUv
        have hUat := hUv.at (i := i) (by omega)
        unfold kR at hd
        generalize gR U i = g at *
        obtain ⟨A, B⟩ := g
        have hga' : ga (Int.toNat 1) (flat 1 ((f + 1, hole, i, U) : Nat × Nat × Nat × List R).2.2.2) (((f + 1, hole, i, U) : Nat × Nat × Nat × List R).2.2.1 : Int).toNat = A := hga
        have hgb' : gb (Int.toNat 1) (flat 1 ((f + 1, hole, i, U) : Nat × Nat × Nat × List R).2.2.2) (((f + 1, hole, i, U) : Nat × Nat × Nat × List R).2.2.1 : Int).toNat = B := hgb
        have e7 : (([0, 0].set (0 + 0 * (1 + 1) + 0) A).set (0 + 0 * (1 + 1) + (0 + 1)) B).getD (0 + 0 * (1 + 1) + 0) 0 = A := rfl
        have e8 : (([0, 0].set (0 + 0 * (1 + 1) + 0) A).set (0 + 0 * (1 + 1) + (0 + 1)) B).getD (0 + 0 * (1 + 1) + (0 + 1)) 0 = B := rfl
        rw [hga', hgb', e7, e8]
        by_cases hz : A = 0 ∧ B = 0
        · rw [if_pos (by rw [hz.1, hz.2])] at hd
          refine ifB_t (by rw [hz.1, hz.2]; rfl) ?_
          conv => whnf
          rw [hE, hLl, hL, ← (Option.some.inj hd : U = T1)]
          repeat' (first | exact trivial | exact rfl | (refine And.intro ?_ ?_) | ((conv => whnf); done) | ((conv => whnf); (first | rfl | (refine congrArg (fun b => T.v (Value.bool b)) ?_; first | rfl | exact (decide_eq_true (by omega)).symm | exact (decide_eq_false (by omega)).symm | exact decide_eq_decide.2 (by omega)) | (refine congrArg (fun b => T.v (Value.int _ b)) ?_; first | rfl | omega) | omega)) | (first | rfl | (refine congrArg (fun b => T.v (Value.bool b)) ?_; first | rfl | exact (decide_eq_true (by omega)).symm | exact (decide_eq_false (by omega)).symm | exact decide_eq_decide.2 (by omega)) | (refine congrArg (fun b => T.v (Value.int _ b)) ?_; first | rfl | omega) | omega))
        · have hz2 : ¬ (A, B) = ((0 : Int), (0 : Int)) := fun e => hz ⟨congrArg Prod.fst e, congrArg Prod.snd e⟩
          rw [if_neg hz2] at hd
          have hmA := sP.hlt n A hn0
          refine ifB_f (by by_cases h1 : A = 0 <;> by_cases h2 : B = 0 <;> simp_all) ?_
          conv => whnf
          repeat (refine And.intro (by omega) ?_; conv => whnf)
          have e9 : (([0, 0].set (0 + 0 * (1 + 1) + 0) A).set (0 + 0 * (1 + 1) + (0 + 1)) B).getD (0 + 0 * (1 + 1)) 0 = A := rfl
          have en : ((n : Int)).toNat = n := Int.toNat_natCast n
          rw [e9, en]
          generalize sP.hm n A = hA at *
          refine And.intro ⟨⟨by omega, by omega⟩, ⟨by dsimp only; omega, by dsimp only; omega⟩, by omega, by omega⟩ ?_
          conv => whnf
          refine And.intro ⟨⟨by dsimp only; omega, by dsimp only; omega⟩, ⟨by dsimp only; omega, by dsimp only; omega⟩, by omega, by omega⟩ ?_
          conv => whnf
          refine ifB_dec (fun hf => ?_) (fun hf => ?_)
          · have hf : dist n hole i ≤ dist n hA i := by
              have : ((dist n hA i : Nat) : Int) ≥ ((dist n hole i : Nat) : Int) := hf
              omega
            rw [if_pos hf] at hd
            conv => whnf
            rw [show IntKind.i64.wrap ((((f + 1, hole, i, U) : Nat × Nat × Nat × List R).2.1 : Int) * 1) = ((hole * 1 : Nat) : Int) from hei hole hho]
            have hb1 : hole * 1 + 1 ≤ (flat 1 T).length := by omega
            have hb2 : i * 1 + 1 ≤ (flat 1 T).length := by omega
            repeat (refine And.intro (by first | omega | (dsimp only [cutL]; omega)) ?_; conv => whnf)
            rw [show IntKind.i64.wrap ((((f + 1, hole, i, U) : Nat × Nat × Nat × List R).2.2.1 : Int) * 1) = ((i * 1 : Nat) : Int) from hei i hi]
            repeat (refine And.intro (by first | omega | (dsimp only [cutL]; omega)) ?_; conv => whnf)
            refine ⟨(f, i, nxt n i, (U.set hole (A, B)).set i (0, 0)), [(56, 56)], ⟨rfl, rfl, ?_⟩, ⟨hd, ⟨hi, by have := nxt_c n i; dsimp only; omega⟩, by dsimp only; rw [List.length_set, List.length_set]; exact hUl, (hUv.set hUat hole).set (fun _ => rfl) i⟩, by dsimp only; omega⟩
            show _ = ((56 : Nat), Blk.fl [.u64] (flat 1 ((U.set hole (A, B)).set i (0, 0)))) :: _
            rw [← hX (U.set hole (A, B)) i (by rw [List.length_set]; exact hUl) hi 0 0, ← hX U hole hUl hho A B]
            rfl
          · have hf : ¬ dist n hole i ≤ dist n hA i := by
              have : ¬ ((dist n hA i : Nat) : Int) ≥ ((dist n hole i : Nat) : Int) := hf
              omega
            rw [if_neg hf] at hd
            conv => whnf
            repeat (refine And.intro (by first | first | omega | assumption | (exact allU_getD (by assumption) _) | (simp only [cutL]; omega) | (refine And.intro ?_ ?_ <;> first | assumption | exact allU_getD (by assumption) _) | (simp only [cutL, IntKind.wrap_u64, IntKind.wrap_i64] at *; omega) | decide | (dsimp only; omega)) ?_; conv => whnf)
            exact ⟨(f, hole, nxt n i, U), [(56, 56)], ⟨rfl, rfl, rfl⟩, ⟨hd, ⟨hho, by have := nxt_c n i; dsimp only; omega⟩, hUl, hUv⟩, by dsimp only; omega⟩
      · have hne2 : i = hole := by omega
        rw [if_pos hne2] at hd
        have hUT : U = T1 := Option.some.inj hd
        conv => whnf
        rw [hE, hLl, hL, ← hUT]
        repeat' (first | exact trivial | exact rfl | (refine And.intro ?_ ?_) | ((conv => whnf); done) | ((conv => whnf); (first | rfl | (refine congrArg (fun b => T.v (Value.bool b)) ?_; first | rfl | exact (decide_eq_true (by omega)).symm | exact (decide_eq_false (by omega)).symm | exact decide_eq_decide.2 (by omega)) | (refine congrArg (fun b => T.v (Value.int _ b)) ?_; first | rfl | omega) | omega)) | (first | rfl | (refine congrArg (fun b => T.v (Value.bool b)) ?_; first | rfl | exact (decide_eq_true (by omega)).symm | exact (decide_eq_false (by omega)).symm | exact decide_eq_decide.2 (by omega)) | (refine congrArg (fun b => T.v (Value.int _ b)) ?_; first | rfl | omega) | omega))
  · rw [findF_out (fun j hj e => hin ⟨j, hj, e⟩) n _ (sP.hlt n key hn0)]
    have hE : delE 1 (flat 1 T) key = 12 := by
      unfold delE
      rw [if_neg (fun q => q.elim (fun q => q hr) hk), hrc, if_neg]
      rintro ⟨r, q1, q2⟩
      obtain ⟨z1, j, z2, z3⟩ := (In_nzs hTl r).2 q1
      exact hin ⟨j, z2, by unfold kR; rw [z3, q2]⟩
    have hL : delL 1 (flat 1 T) key = flat 1 T := by unfold delL; rw [hE, if_neg (by decide)]
    conv => whnf
    rw [hE, hL]
    repeat' (first | exact trivial | exact rfl | (refine And.intro ?_ ?_) | ((conv => whnf); done) | ((conv => whnf); (first | rfl | (refine congrArg (fun b => T.v (Value.bool b)) ?_; first | rfl | exact (decide_eq_true (by omega)).symm | exact (decide_eq_false (by omega)).symm | exact decide_eq_decide.2 (by omega)) | (refine congrArg (fun b => T.v (Value.int _ b)) ?_; first | rfl | omega) | omega)) | (first | rfl | (refine congrArg (fun b => T.v (Value.bool b)) ?_; first | rfl | exact (decide_eq_true (by omega)).symm | exact (decide_eq_false (by omega)).symm | exact decide_eq_decide.2 (by omega)) | (refine congrArg (fun b => T.v (Value.int _ b)) ?_; first | rfl | omega) | omega))
set_option maxHeartbeats 2000000 in
set_option maxRecDepth 100000 in
theorem del2_pure (m n : Nat) (T : List R) (key : Int) (hm : m ≤ 1000000) (hu : AllU (flat 2 T)) (hTl : T.length = n) (hTv : Nv 2 T) (hr : rightB 2 (flat 2 T) = true) (hn0 : 0 < n) (hn : n ≤ 1024) (hl : (flat 2 T).length = n * 2) (f1 : shW 2 (flat 2 T) = (flat 2 T)) (f2 : shN 2 (flat 2 T) = n) (f3 : shK 2 (flat 2 T) = 2) (hOk : Ok sP n T) (hk : key ≠ 0) : Pure Tryz.prog glM 94 [.fl [.u64] m (flat 2 T), .v (.int .i64 2), .v (.int .u64 key)] (.tup [.ow 0 1 (delL 2 (flat 2 T) key).length, .v (.int .i64 (delE 2 (flat 2 T) key))]) [(0, .fl [.u64] (delL 2 (flat 2 T) key))] := by
  have hT : recs n 2 (flat 2 T) = T := recs_flat (by decide) hTl hTv
  have hrc : rcs 2 (flat 2 T) = nzs T := by unfold rcs; rw [f2, show (Int.toNat 2) = 2 from rfl, hT]
  have hX : ∀ U i, U.length = n → i < n → ∀ ra rb : Int, spl (flat 2 U) (mulN (addN (addN 0 (loN (some ((i * 2 : Nat) : Int)))) (loN none)) (0 + 1)) (List.take (mulN (minN (cutL 2 none none) (cutL (cutL (flat 2 T).length (some ((i * 2 : Nat) : Int)) none) none (some 2))) (0 + 1)) (List.take (mulN (cutL 2 none none) (0 + 1)) (List.drop (mulN (loN none) (0 + 1)) [ra, rb]))) = flat 2 (U.set i (ra, rb)) := fun U i h1 h2 ra rb => by
    rw [hl]; exact setX2 h1 h2 ra rb
  have hei : ∀ i, i < n → IntKind.i64.wrap ((i : Int) * 2) = ((i * 2 : Nat) : Int) := fun i hi => by rw [wrap64 (by omega) (by omega)]; omega
  refine pure_of (C := ctxDl Tryz.prog ctxDl_inlOk) ctxDl_good Tryz.func94 (c := bodyOf Tryz.f94) (by rfl) (Nat.le_of_ble_eq_true (by rfl)) 4 4 [0, 1, 2, 6, 7, 8, 9, 10, 22, 29] ?_
  conv => whnf
  refine And.intro ⟨hm, hu⟩ ?_
  conv => whnf
  refine ifB_f (by rw [hr]; rfl) ?_
  conv => whnf
  refine ifB_eq (fun h => absurd h hk) (fun h => ?_)
  conv => whnf
  rw [f1, f2, f3]
  refine And.intro ⟨by omega, by omega, by omega, by rw [hl]; exact Int.natCast_mul _ _⟩ ?_
  conv => whnf
  rw [Int.toNat_natCast, show (Int.toNat 2) = 2 from rfl, hT]
  by_cases hin : ∃ p, p < n ∧ kR T p = key
  · obtain ⟨p, hp, hpk⟩ := hin
    have hpk0 : kR T p ≠ 0 := by rw [hpk]; exact hk
    obtain ⟨f0, T1, d1, d2, d3⟩ := del_ok hOk hp hpk0
    have hE : delE 2 (flat 2 T) key = 0 := by
      unfold delE
      rw [if_neg (fun q => q.elim (fun q => q hr) hk), hrc, if_pos ⟨gR T p, nzs_mem.2 ⟨gR_mem (by omega), hpk0⟩, hpk⟩]
    have hL : delL 2 (flat 2 T) key = flat 2 T1 := by
      have := del_laid hOk hp hpk hk d2 d3
      unfold delL
      rw [hE, if_pos rfl, hrc, f2, this]; rfl
    have hLl : (delL 2 (flat 2 T) key).length = (flat 2 T).length := by rw [hL, flat_len (by decide), d2.len, hl]
    rw [findF_in hOk hp hpk hk n _ (sP.hlt n key hn0) (by rw [dist_self]; exact Nat.zero_le _) (dist_lt (sP.hlt n key hn0) hp)]
    conv => whnf
    rw [hei p hp]
    repeat (refine And.intro (by first | omega | assumption | (exact allU_getD (by assumption) _) | (simp only [cutL]; omega) | (refine And.intro ?_ ?_ <;> first | assumption | exact allU_getD (by assumption) _) | (simp only [cutL, IntKind.wrap_u64, IntKind.wrap_i64] at *; omega) | decide) ?_; conv => whnf)
    rw [hX T p hTl hp 0 0, Int.toNat_natCast, Int.toNat_natCast]
    refine TW.loopD ctxDl_good 4 (base := 9000000) (lv := [0, 1, 2, 4, 5, 15, 24, 36]) [1, 4] [56] [(56, 56)] (fun x : Nat × Nat × Nat × List R => [.v (.int .i64 x.2.1), .v (.int .i64 x.2.2.1)]) (fun x => [.fl [.u64] (flat 2 x.2.2.2)]) (fun x => delF sP n x.1 x.2.1 x.2.2.1 x.2.2.2 = some T1 ∧ (x.2.1 < n ∧ x.2.2.1 < n) ∧ x.2.2.2.length = n ∧ Nv 2 x.2.2.2) (fun x => x.1) ?_
    conv => whnf
    refine ⟨⟨(f0, p, nxt n p, T.set p (0, 0)), ⟨rfl, rfl, rfl⟩, d1, ⟨hp, by have := nxt_c n p; dsimp only; omega⟩, by dsimp only; rw [List.length_set]; exact hTl, hTv.set (fun _ => rfl) p⟩, fun ⟨f, hole, i, U⟩ ⟨hd, ⟨hho, hi⟩, hUl, hUv⟩ => ?_⟩
    replace hd : delF sP n f hole i U = some T1 := hd
    replace hho : hole < n := hho
    replace hi : i < n := hi
    replace hUl : U.length = n := hUl
    replace hUv : Nv 2 U := hUv
    cases f with
    | zero => cases hd
    | succ f =>
      have hst : delF sP n (f + 1) hole i U = if i = hole then some U else if gR U i = (0, 0) then some U else if dist n hole i ≤ dist n (sP.hm n (kR U i)) i then delF sP n f i (nxt n i) ((U.set hole (gR U i)).set i (0, 0)) else delF sP n f hole (nxt n i) U := rfl
      rw [hst] at hd
      conv => whnf
      refine ifB_ne (x := (i : Int)) (y := (hole : Int)) (fun hne => ?_) (fun hne => ?_)
      · have hne2 : ¬ i = hole := fun e => hne (by rw [e])
        rw [if_neg hne2] at hd
        conv => whnf
        repeat (refine And.intro (by omega) ?_; conv => whnf)
        have hga : ga 2 (flat 2 U) i = (gR U i).1 := ga_flat (by decide) hUl hi
        have hgb : gb 2 (flat 2 U) i = (gR U i).2 := gb_flat (by decide) hUl hi hUv
        have hUat := hUv.at (i := i) (by omega)
        unfold kR at hd
        generalize gR U i = g at *
        obtain ⟨A, B⟩ := g
        have hga' : ga (Int.toNat 2) (flat 2 ((f + 1, hole, i, U) : Nat × Nat × Nat × List R).2.2.2) (((f + 1, hole, i, U) : Nat × Nat × Nat × List R).2.2.1 : Int).toNat = A := hga
        have hgb' : gb (Int.toNat 2) (flat 2 ((f + 1, hole, i, U) : Nat × Nat × Nat × List R).2.2.2) (((f + 1, hole, i, U) : Nat × Nat × Nat × List R).2.2.1 : Int).toNat = B := hgb
        have e7 : (([0, 0].set (0 + 0 * (1 + 1) + 0) A).set (0 + 0 * (1 + 1) + (0 + 1)) B).getD (0 + 0 * (1 + 1) + 0) 0 = A := rfl
        have e8 : (([0, 0].set (0 + 0 * (1 + 1) + 0) A).set (0 + 0 * (1 + 1) + (0 + 1)) B).getD (0 + 0 * (1 + 1) + (0 + 1)) 0 = B := rfl
        rw [hga', hgb', e7, e8]
        by_cases hz : A = 0 ∧ B = 0
        · rw [if_pos (by rw [hz.1, hz.2])] at hd
          refine ifB_t (by rw [hz.1, hz.2]; rfl) ?_
          conv => whnf
          rw [hE, hLl, hL, ← (Option.some.inj hd : U = T1)]
          repeat' (first | exact trivial | exact rfl | (refine And.intro ?_ ?_) | ((conv => whnf); done) | ((conv => whnf); (first | rfl | (refine congrArg (fun b => T.v (Value.bool b)) ?_; first | rfl | exact (decide_eq_true (by omega)).symm | exact (decide_eq_false (by omega)).symm | exact decide_eq_decide.2 (by omega)) | (refine congrArg (fun b => T.v (Value.int _ b)) ?_; first | rfl | omega) | omega)) | (first | rfl | (refine congrArg (fun b => T.v (Value.bool b)) ?_; first | rfl | exact (decide_eq_true (by omega)).symm | exact (decide_eq_false (by omega)).symm | exact decide_eq_decide.2 (by omega)) | (refine congrArg (fun b => T.v (Value.int _ b)) ?_; first | rfl | omega) | omega))
        · have hz2 : ¬ (A, B) = ((0 : Int), (0 : Int)) := fun e => hz ⟨congrArg Prod.fst e, congrArg Prod.snd e⟩
          rw [if_neg hz2] at hd
          have hmA := sP.hlt n A hn0
          refine ifB_f (by by_cases h1 : A = 0 <;> by_cases h2 : B = 0 <;> simp_all) ?_
          conv => whnf
          repeat (refine And.intro (by omega) ?_; conv => whnf)
          have e9 : (([0, 0].set (0 + 0 * (1 + 1) + 0) A).set (0 + 0 * (1 + 1) + (0 + 1)) B).getD (0 + 0 * (1 + 1)) 0 = A := rfl
          have en : ((n : Int)).toNat = n := Int.toNat_natCast n
          rw [e9, en]
          generalize sP.hm n A = hA at *
          refine And.intro ⟨⟨by omega, by omega⟩, ⟨by dsimp only; omega, by dsimp only; omega⟩, by omega, by omega⟩ ?_
          conv => whnf
          refine And.intro ⟨⟨by dsimp only; omega, by dsimp only; omega⟩, ⟨by dsimp only; omega, by dsimp only; omega⟩, by omega, by omega⟩ ?_
          conv => whnf
          refine ifB_dec (fun hf => ?_) (fun hf => ?_)
          · have hf : dist n hole i ≤ dist n hA i := by
              have : ((dist n hA i : Nat) : Int) ≥ ((dist n hole i : Nat) : Int) := hf
              omega
            rw [if_pos hf] at hd
            conv => whnf
            rw [show IntKind.i64.wrap ((((f + 1, hole, i, U) : Nat × Nat × Nat × List R).2.1 : Int) * 2) = ((hole * 2 : Nat) : Int) from hei hole hho]
            have hb1 : hole * 2 + 2 ≤ (flat 2 T).length := by omega
            have hb2 : i * 2 + 2 ≤ (flat 2 T).length := by omega
            repeat (refine And.intro (by first | omega | (dsimp only [cutL]; omega)) ?_; conv => whnf)
            rw [show IntKind.i64.wrap ((((f + 1, hole, i, U) : Nat × Nat × Nat × List R).2.2.1 : Int) * 2) = ((i * 2 : Nat) : Int) from hei i hi]
            repeat (refine And.intro (by first | omega | (dsimp only [cutL]; omega)) ?_; conv => whnf)
            refine ⟨(f, i, nxt n i, (U.set hole (A, B)).set i (0, 0)), [(56, 56)], ⟨rfl, rfl, ?_⟩, ⟨hd, ⟨hi, by have := nxt_c n i; dsimp only; omega⟩, by dsimp only; rw [List.length_set, List.length_set]; exact hUl, (hUv.set hUat hole).set (fun _ => rfl) i⟩, by dsimp only; omega⟩
            show _ = ((56 : Nat), Blk.fl [.u64] (flat 2 ((U.set hole (A, B)).set i (0, 0)))) :: _
            rw [← hX (U.set hole (A, B)) i (by rw [List.length_set]; exact hUl) hi 0 0, ← hX U hole hUl hho A B]
            rfl
          · have hf : ¬ dist n hole i ≤ dist n hA i := by
              have : ¬ ((dist n hA i : Nat) : Int) ≥ ((dist n hole i : Nat) : Int) := hf
              omega
            rw [if_neg hf] at hd
            conv => whnf
            repeat (refine And.intro (by first | first | omega | assumption | (exact allU_getD (by assumption) _) | (simp only [cutL]; omega) | (refine And.intro ?_ ?_ <;> first | assumption | exact allU_getD (by assumption) _) | (simp only [cutL, IntKind.wrap_u64, IntKind.wrap_i64] at *; omega) | decide | (dsimp only; omega)) ?_; conv => whnf)
            exact ⟨(f, hole, nxt n i, U), [(56, 56)], ⟨rfl, rfl, rfl⟩, ⟨hd, ⟨hho, by have := nxt_c n i; dsimp only; omega⟩, hUl, hUv⟩, by dsimp only; omega⟩
      · have hne2 : i = hole := by omega
        rw [if_pos hne2] at hd
        have hUT : U = T1 := Option.some.inj hd
        conv => whnf
        rw [hE, hLl, hL, ← hUT]
        repeat' (first | exact trivial | exact rfl | (refine And.intro ?_ ?_) | ((conv => whnf); done) | ((conv => whnf); (first | rfl | (refine congrArg (fun b => T.v (Value.bool b)) ?_; first | rfl | exact (decide_eq_true (by omega)).symm | exact (decide_eq_false (by omega)).symm | exact decide_eq_decide.2 (by omega)) | (refine congrArg (fun b => T.v (Value.int _ b)) ?_; first | rfl | omega) | omega)) | (first | rfl | (refine congrArg (fun b => T.v (Value.bool b)) ?_; first | rfl | exact (decide_eq_true (by omega)).symm | exact (decide_eq_false (by omega)).symm | exact decide_eq_decide.2 (by omega)) | (refine congrArg (fun b => T.v (Value.int _ b)) ?_; first | rfl | omega) | omega))
  · rw [findF_out (fun j hj e => hin ⟨j, hj, e⟩) n _ (sP.hlt n key hn0)]
    have hE : delE 2 (flat 2 T) key = 12 := by
      unfold delE
      rw [if_neg (fun q => q.elim (fun q => q hr) hk), hrc, if_neg]
      rintro ⟨r, q1, q2⟩
      obtain ⟨z1, j, z2, z3⟩ := (In_nzs hTl r).2 q1
      exact hin ⟨j, z2, by unfold kR; rw [z3, q2]⟩
    have hL : delL 2 (flat 2 T) key = flat 2 T := by unfold delL; rw [hE, if_neg (by decide)]
    conv => whnf
    rw [hE, hL]
    repeat' (first | exact trivial | exact rfl | (refine And.intro ?_ ?_) | ((conv => whnf); done) | ((conv => whnf); (first | rfl | (refine congrArg (fun b => T.v (Value.bool b)) ?_; first | rfl | exact (decide_eq_true (by omega)).symm | exact (decide_eq_false (by omega)).symm | exact decide_eq_decide.2 (by omega)) | (refine congrArg (fun b => T.v (Value.int _ b)) ?_; first | rfl | omega) | omega)) | (first | rfl | (refine congrArg (fun b => T.v (Value.bool b)) ?_; first | rfl | exact (decide_eq_true (by omega)).symm | exact (decide_eq_false (by omega)).symm | exact decide_eq_decide.2 (by omega)) | (refine congrArg (fun b => T.v (Value.int _ b)) ?_; first | rfl | omega) | omega))
theorem delE_no {w : Int} {ws : List Int} {key : Int} (h : ¬ rightB w ws = true ∨ key = 0) : delE w ws key = 1 ∧ delL w ws key = ws := by
  have e : delE w ws key = 1 := by unfold delE; rw [if_pos h]
  exact ⟨e, by unfold delL; rw [e, if_neg (by decide)]⟩
set_option maxRecDepth 100000 in
theorem delX_pure (m : Nat) (ws : List Int) (w key : Int) (hm : m ≤ 1000000) (hu : AllU ws) (h : ¬ rightB w ws = true ∨ key = 0) : Pure Tryz.prog glM 94 [.fl [.u64] m ws, .v (.int .i64 w), .v (.int .u64 key)] (.tup [.ow 0 1 (delL w ws key).length, .v (.int .i64 (delE w ws key))]) [(0, .fl [.u64] (delL w ws key))] := by
  refine pure_wf fun hw => ?_
  obtain ⟨⟨w1, w2⟩, -⟩ := hw
  simp only [List.length_cons, List.length_nil, Nat.zero_add, Nat.mul_one] at w1
  obtain ⟨e1, e2⟩ := delE_no h
  rw [e1, e2, w1]
  refine pure_of (C := ctxDl Tryz.prog ctxDl_inlOk) ctxDl_good Tryz.func94 (c := bodyOf Tryz.f94) (by rfl) (Nat.le_of_ble_eq_true (by rfl)) 4 4 [0, 1, 2, 6, 7, 8, 9, 10, 22, 29] ?_
  conv => whnf
  refine And.intro ⟨hm, hu⟩ ?_
  conv => whnf
  by_cases hr : rightB w ws = true
  · refine ifB_f (by rw [hr]; rfl) ?_
    conv => whnf
    refine ifB_eq (fun hk => ?_) (fun hk => h.elim (fun q => absurd hr q) (fun q => absurd q hk))
    conv => whnf
    repeat (refine And.intro (by omega) ?_; conv => whnf)
    repeat' (first | exact trivial | exact rfl | (refine And.intro ?_ ?_) | ((conv => whnf); done) | ((conv => whnf); (first | rfl | (refine congrArg (fun b => T.v (Value.bool b)) ?_; first | rfl | exact (decide_eq_true (by omega)).symm | exact (decide_eq_false (by omega)).symm | exact decide_eq_decide.2 (by omega)) | (refine congrArg (fun b => T.v (Value.int _ b)) ?_; first | rfl | omega) | omega)) | (first | rfl | (refine congrArg (fun b => T.v (Value.bool b)) ?_; first | rfl | exact (decide_eq_true (by omega)).symm | exact (decide_eq_false (by omega)).symm | exact decide_eq_decide.2 (by omega)) | (refine congrArg (fun b => T.v (Value.int _ b)) ?_; first | rfl | omega) | omega))
  · refine ifB_t (by rw [Bool.eq_false_iff.2 hr]; rfl) ?_
    conv => whnf
    repeat (refine And.intro (by omega) ?_; conv => whnf)
    repeat' (first | exact trivial | exact rfl | (refine And.intro ?_ ?_) | ((conv => whnf); done) | ((conv => whnf); (first | rfl | (refine congrArg (fun b => T.v (Value.bool b)) ?_; first | rfl | exact (decide_eq_true (by omega)).symm | exact (decide_eq_false (by omega)).symm | exact decide_eq_decide.2 (by omega)) | (refine congrArg (fun b => T.v (Value.int _ b)) ?_; first | rfl | omega) | omega)) | (first | rfl | (refine congrArg (fun b => T.v (Value.bool b)) ?_; first | rfl | exact (decide_eq_true (by omega)).symm | exact (decide_eq_false (by omega)).symm | exact decide_eq_decide.2 (by omega)) | (refine congrArg (fun b => T.v (Value.int _ b)) ?_; first | rfl | omega) | omega))
theorem del_pure (m : Nat) (ws : List Int) (w key : Int) (hm : m ≤ 1000000) (hu : AllU ws) : Pure Tryz.prog glM 94 [.fl [.u64] m ws, .v (.int .i64 w), .v (.int .u64 key)] (.tup [.ow 0 1 (delL w ws key).length, .v (.int .i64 (delE w ws key))]) [(0, .fl [.u64] (delL w ws key))] := by
  by_cases h : ¬ rightB w ws = true ∨ key = 0
  · exact delX_pure m ws w key hm hu h
  · have hr : rightB w ws = true := Classical.byContradiction fun q => h (.inl q)
    obtain ⟨n, v, hv, rfl, ⟨hn0, hn⟩, hl, f1, f2, f3, f4⟩ := ok_facts ((rightB_iff w ws).1 hr).1
    have hTl := recs_len n v ws
    have hTv := recs_nv n v ws
    have hf : flat v (recs n v ws) = ws := flat_recs hv hl
    have hOk := f4.1 hr
    generalize recs n v ws = T at *
    subst hf
    have hk : key ≠ 0 := fun q => h (.inr q)
    rcases hv with rfl | rfl
    · exact del1_pure m n T key hm hu hTl hTv hr hn0 hn hl f1 f2 f3 hOk hk
    · exact del2_pure m n T key hm hu hTl hTv hr hn0 hn hl f1 f2 f3 hOk hk

noncomputable def eDel : Entry := ⟨94, 4, fun l => match l with | [.fl [.u64] m ws, .v (.int .i64 w), .v (.int .u64 key)] => some (some (m ≤ 1000000 ∧ AllU ws), .tup [.ow 0 1 (delL w ws key).length, .v (.int .i64 (delE w ws key))], [(0, .fl [.u64] (delL w ws key))]) | _ => none⟩
theorem eDel_ok : eDel.ok Tryz.prog glM := ⟨Am.enters_of Tryz.func94 (by kernel_rfl) (by kernel_rfl), by
  intro args c t bs h hc
  simp only [eDel] at h
  split at h <;> cases h
  replace hc := hc _ rfl
  exact del_pure _ _ _ _ hc.1 hc.2⟩
end Go.Proofs.YtnplgklnkcjmnaaGreatDoor.PrT
namespace Go.Proofs.YtnplgklnkcjmnaaGreatDoor.PrT
open Go.RowKit Go.Proofs.YtnplgklnkcjmnaaGreatDoor.Am Go.Proofs.YtnplgklnkcjmnaaGreatDoor
set_option linter.unusedVariables false
set_option linter.unusedSimpArgs false


theorem take_two {xs ys : List Int} {j : Nat} (h1 : j + 1 < xs.length) (h2 : j + 1 < ys.length) (ht : xs.take j = ys.take j) (ha : xs.getD j 0 = ys.getD j 0) (hb : xs.getD (j + 1) 0 = ys.getD (j + 1) 0) : xs.take (j + 2) = ys.take (j + 2) :=
  take_same (by omega) (by omega) (take_same (by omega) (by omega) ht ha) hb
theorem ne2 {a b c d : Int} (h1 : a = c) (h2 : b = d) : (!(a == c && (b == d && true))) = false := by subst h1; subst h2; simp
theorem ne2t {a b c d : Int} (h : ¬ (a = c ∧ b = d)) : (!(a == c && (b == d && true))) = true := by
  by_cases h1 : a = c
  · have h2 : ¬ b = d := fun h2 => h ⟨h1, h2⟩
    simp [h2]
  · simp [h1]
set_option maxRecDepth 100000 in
theorem rrecs_pure (n m : Nat) (xs ys : List Int) : Pure Tryz.prog glR 18 [.fl [.u64, .u64] n xs, .fl [.u64, .u64] m ys] (.v (.bool (decide (xs = ys)))) := by
  refine pure_wf fun hw => ?_
  obtain ⟨⟨w1, w2⟩, ⟨w3, w4⟩, -⟩ := hw
  simp only [List.length_cons, List.length_nil, Nat.zero_add, Nat.mul_one] at w1 w3
  refine pure_of (C := ctx0 Tryz.prog) ctx0_good Tryz.func18 (c := bodyOf Tryz.f18) (by rfl) (Nat.le_of_ble_eq_true (by rfl)) 4 0 [0, 1, 4, 5, 10, 14, 25] ?_
  conv => whnf
  repeat' (first | (refine ifB_t (by assumption) ?_; conv => whnf) | (refine ifB_f (by assumption) ?_; conv => whnf) | (refine ifB_dec (fun h => ?_) (fun h => ?_) <;> (first | (exfalso; omega) | (conv => whnf))) | (refine ifB_eq (fun h => ?_) (fun h => ?_) <;> (first | (exfalso; omega) | (conv => whnf))) | (refine ifB_ne (fun h => ?_) (fun h => ?_) <;> (first | (exfalso; omega) | (conv => whnf))) | (refine ifB_not ?_; conv => whnf) | (refine ifB_and ?_; conv => whnf) | (refine ifB_or ?_; conv => whnf) | (refine And.intro ?_ ?_; (first | omega | assumption | (exact allU_getD (by assumption) _) | (simp only [cutL]; omega) | (refine And.intro ?_ ?_ <;> first | assumption | exact allU_getD (by assumption) _) | (simp only [cutL, IntKind.wrap_u64, IntKind.wrap_i64] at *; omega) | decide); conv => whnf))
  · exact congrArg (fun b => T.v (Value.bool b)) (decide_eq_false (fun e => by subst e; omega)).symm
  · refine TW.loopD ctx0_good 0 (base := 0) (lv := [0, 1, 4, 5, 10, 14, 25]) [5] [] [] (fun j : Nat => [.v (.int .i64 j)]) (fun _ => []) (fun j => j ≤ n ∧ xs.take (j * 2) = ys.take (j * 2)) (fun j => n - j) ?_
    conv => whnf
    refine ⟨⟨0, ⟨rfl, rfl, rfl⟩, by omega, rfl⟩, fun j ⟨hj, ht⟩ => ?_⟩
    conv => whnf
    refine ifB_dec (fun h => ?_) (fun h => ?_)
    · conv => whnf
      repeat (refine And.intro (by omega) ?_; conv => whnf)
      have E1 : 0 + (j : Int).toNat * (1 + 1) + 0 = j * 2 := by omega
      have E2 : 0 + (j : Int).toNat * (1 + 1) + (0 + 1) = j * 2 + 1 := by omega
      rw [E1, E2]
      by_cases h1 : xs.getD (j * 2) 0 = ys.getD (j * 2) 0
      · by_cases h2 : xs.getD (j * 2 + 1) 0 = ys.getD (j * 2 + 1) 0
        · refine ifB_f (ne2 h1 h2) ?_
          conv => whnf
          rw [wsucc (n := n) (by omega) w2]
          exact ⟨j + 1, [], ⟨rfl, rfl, rfl⟩, ⟨by omega, by rw [show (j + 1) * 2 = j * 2 + 2 by omega]; exact take_two (by omega) (by omega) ht h1 h2⟩, by (try dsimp only); omega⟩
        · refine ifB_t (ne2t fun h => h2 h.2) ?_
          conv => whnf
          exact congrArg (fun b => T.v (Value.bool b)) (decide_eq_false (fun e => by subst e; exact h2 rfl)).symm
      · refine ifB_t (ne2t fun h => h1 h.1) ?_
        conv => whnf
        exact congrArg (fun b => T.v (Value.bool b)) (decide_eq_false (fun e => by subst e; exact h1 rfl)).symm
    · conv => whnf
      have e : j = n := by omega
      rw [e, List.take_of_length_le (by omega), List.take_of_length_le (by omega)] at ht
      exact congrArg (fun b => T.v (Value.bool b)) (decide_eq_true ht).symm
noncomputable def eRRecs : Entry := ⟨18, 3, fun l => match l with | [.fl [.u64, .u64] n xs, .fl [.u64, .u64] m ys] => some (none, .v (.bool (decide (xs = ys))), []) | _ => none⟩
theorem eRRecs_ok : eRRecs.ok Tryz.prog glR := ⟨Am.enters_of Tryz.func18 (by kernel_rfl) (by kernel_rfl), by
  intro args c t bs h hc
  simp only [eRRecs] at h
  split at h <;> cases h
  exact rrecs_pure _ _ _ _⟩
/-! ### others -/
theorem recs2_get {m j : Nat} {xs : List Int} (h : j < m) : gR (recs m 2 xs) j = (xs.getD (j * 2) 0, xs.getD (j * 2 + 1) 0) := by rw [recs_get xs h]; rfl
attribute [local irreducible] oth recs
/-! ### those that go first, first -/
noncomputable def ctxAh (P : Program) : Ctx := ctx P glR [eRBf] [] (noEq P) [] (fun _ h => by cases h)
theorem ctxAh_good : (ctxAh Tryz.prog).good := ctx_good (by kernel_rfl) (AllOk.mem ⟨eRBf_ok, trivial⟩) glR_two
theorem insA_step (p : R → R → Bool) (out : List R) (x : R) (a : Nat) : insA p out x (a + 1) = if p x (gR out a) = true then insA p out x a else a + 1 := rfl
theorem flat_cut {w : Nat} (hw : w = 1 ∨ w = 2) (U : List R) {a : Nat} (ha : a ≤ U.length) : (flat w U).take (a * w) = flat w (U.take a) ∧ (flat w U).drop (a * w) = flat w (U.drop a) := by
  have e : flat w U = flat w (U.take a) ++ flat w (U.drop a) := by rw [← flat_append, List.take_append_drop]
  have l : (flat w (U.take a)).length = a * w := by rw [flat_len hw, List.length_take, Nat.min_eq_left ha]
  rw [e, ← l]
  exact ⟨List.take_left, List.drop_left⟩
theorem ins_row (U : List R) (x : R) (a : Nat) (ha : a ≤ U.length) : List.take (mulN (cutL U.length none (some (a : Int))) (1 + 1)) (List.drop (mulN (addN 0 (loN none)) (1 + 1)) (flat 2 U)) ++ [x.1, x.2] ++ List.take (mulN (cutL U.length (some (a : Int)) none) (1 + 1)) (List.drop (mulN (addN 0 (loN (some (a : Int)))) (1 + 1)) (flat 2 U)) = flat 2 (U.take a ++ x :: U.drop a) := by
  obtain ⟨c1, c2⟩ := flat_cut (.inr rfl) U ha
  rw [mulN_eq, mulN_eq, mulN_eq, mulN_eq, addN_eq, addN_eq, flat_append, flat_cons]
  show List.take (a * 2) (List.drop ((0 + 0) * 2) (flat 2 U)) ++ [x.1, x.2] ++ List.take ((U.length - a) * 2) (List.drop ((0 + a) * 2) (flat 2 U)) = _
  rw [show (0 + 0) * 2 = 0 from rfl, List.drop_zero, c1, Nat.zero_add, c2, List.append_assoc]
  congr 1
  have l2 : (flat 2 (U.drop a)).length = (U.length - a) * 2 := by rw [flat_len (.inr rfl), List.length_drop]
  rw [List.take_of_length_le (by omega)]; rfl
attribute [local irreducible] sortI insL insA
set_option maxHeartbeats 1000000 in
set_option maxRecDepth 100000 in
theorem ahead_pure (m : Nat) (xs : List Int) (hm : m ≤ 3000) : Pure Tryz.prog glR 135 [.fl [.u64, .u64] m xs] (.ow 0 2 m) [(0, .fl [.u64, .u64] (flat 2 (sortI (byW sP) (recs m 2 xs))))] := by
  refine pure_wf fun hw => ?_
  obtain ⟨⟨w1, w2⟩, -⟩ := hw
  simp only [List.length_cons, List.length_nil, Nat.zero_add, Nat.mul_one] at w1
  have hLl := recs_len m 2 xs
  have hLg : ∀ j, j < m → gR (recs m 2 xs) j = (xs.getD (j * 2) 0, xs.getD (j * 2 + 1) 0) := fun j hj => recs2_get hj
  generalize recs m 2 xs = L at *
  refine pure_of (C := ctxAh Tryz.prog) ctxAh_good Tryz.func135 (c := bodyOf Tryz.f135) (by rfl) (Nat.le_of_ble_eq_true (by rfl)) 4 0 [0, 2, 3, 4, 5, 9, 29] ?_
  conv => whnf
  refine TW.nilOwn 3 5000 2 (.fl [.u64, .u64] []) rfl rfl (.inr ⟨_, _, rfl⟩) (by decide) ?_
  refine TW.loopD ctxAh_good 0 (base := 0) (lv := [0, 2, 3, 4, 5, 9, 29]) [3, 4] [5000] [(5000, 5000)] (fun x : Nat × List R => [.ow 5000 2 x.2.length, .v (.int .i64 x.1)]) (fun x => [.fl [.u64, .u64] (flat 2 x.2)]) (fun x => x.1 ≤ m ∧ x.2 = sortI (byW sP) (L.take x.1) ∧ x.2.length = x.1) (fun x => m - x.1) ?_
  conv => whnf
  refine ⟨⟨(0, []), ⟨rfl, rfl, rfl⟩, Nat.zero_le _, by unfold sortI; rfl, rfl⟩, fun ⟨j, U⟩ ⟨hj, hU, hUl⟩ => ?_⟩
  replace hj : j ≤ m := hj
  replace hU : U = sortI (byW sP) (L.take j) := hU
  replace hUl : U.length = j := hUl
  conv => whnf
  refine ifB_dec (fun h => ?_) (fun h => ?_)
  · replace h : (j : Int) < m := h
    have hLj := hLg j (by omega)
    have hLs : L.take (j + 1) = L.take j ++ [gR L j] := take_snocR (by omega)
    conv => whnf
    refine TW.loopD ctxAh_good 0 (base := 0) (lv := [0, 2, 3, 4, 5, 9, 29]) [5] [] [] (fun a : Nat => [.v (.int .i64 a)]) (fun a => []) (fun a => a ≤ j ∧ insA (byW sP) U (gR L j) a = insA (byW sP) U (gR L j) U.length) (fun a => a) ?_
    conv => whnf
    refine ⟨⟨U.length, ⟨rfl, rfl, rfl⟩, Nat.le_of_eq hUl, rfl⟩, fun a ⟨ha, hI⟩ => ?_⟩
    conv => whnf
    refine ifB_dec (fun h0 => ?_) (fun h0 => ?_)
    · obtain ⟨b, rfl⟩ : ∃ b, a = b + 1 := ⟨a - 1, by omega⟩
      have eb : IntKind.i64.wrap (((b + 1 : Nat) : Int) - 1) = (b : Int) := by rw [wrap64 (by omega) (by omega)]; omega
      conv => whnf
      repeat (refine And.intro (by first | omega | (dsimp only; omega)) ?_; conv => whnf)
      have e1 : xs.getD (0 + (((j, U) : Nat × List R).1 : Int).toNat * (1 + 1)) 0 = (gR L j).1 := by
        rw [hLj, show 0 + (((j, U) : Nat × List R).1 : Int).toNat * (1 + 1) = j * 2 by dsimp only; omega]
      have e2 : (flat 2 ((j, U) : Nat × List R).2).getD (0 + addN 0 (IntKind.i64.wrap (((b + 1 : Nat) : Int) - 1)).toNat * (1 + 1)) 0 = (gR U b).1 := by
        rw [eb, addN_eq, show 0 + (0 + (b : Int).toNat) * (1 + 1) = b * 2 by omega]
        exact flat_key (.inr rfl) U (by omega)
      rw [e1, e2]
      have hst := insA_step (byW sP) U (gR L j) b
      refine ifB_mk (fun hb => ?_) (fun hb => ?_)
      · replace hb : byW sP (gR L j) (gR U b) = true := hb
        rw [if_pos hb] at hst
        conv => whnf
        rw [eb]
        exact ⟨b, [], ⟨rfl, rfl, rfl⟩, ⟨(by omega : b ≤ j), hst.symm.trans hI⟩, by dsimp only; omega⟩
      · replace hb : byW sP (gR L j) (gR U b) = false := hb
        rw [hb, if_neg (by decide)] at hst
        rw [hst] at hI
        conv => whnf
        repeat (refine And.intro (by first | omega | (show (b + 1) * 16 ≤ 140737488355328; omega) | (dsimp only [cutL]; omega)) ?_; conv => whnf)
        have E1 : 0 + (((j, U) : Nat × List R).1 : Int).toNat * (1 + 1) + 0 = j * 2 := by dsimp only; omega
        have E2 : 0 + (((j, U) : Nat × List R).1 : Int).toNat * (1 + 1) + (0 + 1) = j * 2 + 1 := by dsimp only; omega
        have hins : insL (byW sP) U (gR L j) = U.take (b + 1) ++ gR L j :: U.drop (b + 1) := by unfold insL; rw [← hI]
        have hcut : U.length + 1 = cutL ((j, U) : Nat × List R).2.length none (some ((b + 1 : Nat) : Int)) + 1 + cutL ((j, U) : Nat × List R).2.length (some ((b + 1 : Nat) : Int)) none := by
          show U.length + 1 = (b + 1) + 1 + (U.length - (b + 1)); omega
        rw [wsucc (j := j) (n := m) (by omega) w2]
        refine ⟨(j + 1, insL (byW sP) U (gR L j)), [(180, 5000)], ⟨rfl, ?_, ?_⟩, ⟨(by omega : j + 1 ≤ m), ?_, by dsimp only; rw [insL_len, hUl]⟩, by dsimp only; omega⟩
        · show _ = (3, Am.T.ow 5000 2 (insL (byW sP) U (gR L j)).length) :: _
          rw [insL_len, hcut]; rfl
        · show _ = (5000, Blk.fl [.u64, .u64] (flat 2 (insL (byW sP) U (gR L j)))) :: _
          rw [hins, ← ins_row U (gR L j) (b + 1) (by omega), hLj, ← E2, ← E1]; rfl
        · dsimp only
          rw [hLs, sortI_snoc, hU]
    · obtain rfl : a = 0 := by omega
      replace hI : 0 = insA (byW sP) U (gR L j) U.length := by rw [← hI]; unfold insA; rfl
      conv => whnf
      repeat (refine And.intro (by first | omega | (show 0 * 16 ≤ 140737488355328; omega) | (dsimp only [cutL]; omega)) ?_; conv => whnf)
      have E1 : 0 + (((j, U) : Nat × List R).1 : Int).toNat * (1 + 1) + 0 = j * 2 := by dsimp only; omega
      have E2 : 0 + (((j, U) : Nat × List R).1 : Int).toNat * (1 + 1) + (0 + 1) = j * 2 + 1 := by dsimp only; omega
      have hins : insL (byW sP) U (gR L j) = U.take (0) ++ gR L j :: U.drop (0) := by unfold insL; rw [← hI]
      have hcut : U.length + 1 = cutL ((j, U) : Nat × List R).2.length none (some ((0 : Nat) : Int)) + 1 + cutL ((j, U) : Nat × List R).2.length (some ((0 : Nat) : Int)) none := by
        show U.length + 1 = (0) + 1 + (U.length - (0)); omega
      rw [wsucc (j := j) (n := m) (by omega) w2]
      refine ⟨(j + 1, insL (byW sP) U (gR L j)), [(180, 5000)], ⟨rfl, ?_, ?_⟩, ⟨(by omega : j + 1 ≤ m), ?_, by dsimp only; rw [insL_len, hUl]⟩, by dsimp only; omega⟩
      · show _ = (3, Am.T.ow 5000 2 (insL (byW sP) U (gR L j)).length) :: _
        rw [insL_len, hcut]; rfl
      · show _ = (5000, Blk.fl [.u64, .u64] (flat 2 (insL (byW sP) U (gR L j)))) :: _
        rw [hins, ← ins_row U (gR L j) (0) (by omega), hLj, ← E2, ← E1]; rfl
      · dsimp only
        rw [hLs, sortI_snoc, hU]
  · replace h : ¬ (j : Int) < m := h
    have hjm : j = m := by omega
    subst hjm
    rw [List.take_of_length_le (by omega)] at hU
    subst hU
    conv => whnf
    rw [hUl]
    repeat' (first | exact trivial | exact rfl | (refine And.intro ?_ ?_) | ((conv => whnf); done) | ((conv => whnf); (first | rfl | (refine congrArg (fun b => T.v (Value.bool b)) ?_; first | rfl | exact (decide_eq_true (by omega)).symm | exact (decide_eq_false (by omega)).symm | exact decide_eq_decide.2 (by omega)) | (refine congrArg (fun b => T.v (Value.int _ b)) ?_; first | rfl | omega) | omega)) | (first | rfl | (refine congrArg (fun b => T.v (Value.bool b)) ?_; first | rfl | exact (decide_eq_true (by omega)).symm | exact (decide_eq_false (by omega)).symm | exact decide_eq_decide.2 (by omega)) | (refine congrArg (fun b => T.v (Value.int _ b)) ?_; first | rfl | omega) | omega))
end Go.Proofs.YtnplgklnkcjmnaaGreatDoor.PrT
namespace Go.Proofs.YtnplgklnkcjmnaaGreatDoor.PrT
open Go.RowKit Go.Proofs.YtnplgklnkcjmnaaGreatDoor.Am Go.Proofs.YtnplgklnkcjmnaaGreatDoor
set_option linter.unusedVariables false
set_option linter.unusedSimpArgs false


attribute [local irreducible] sortI insL insA nzs recs
end Go.Proofs.YtnplgklnkcjmnaaGreatDoor.PrT
namespace Go.Proofs.YtnplgklnkcjmnaaGreatDoor.PrT
open Go.RowKit Go.Proofs.YtnplgklnkcjmnaaGreatDoor.Am Go.Proofs.YtnplgklnkcjmnaaGreatDoor
set_option linter.unusedVariables false
set_option linter.unusedSimpArgs false


/-- What is laid of the first ones. -/
theorem laid_pre {S : Hs} {n : Nat} {l : List R} (hr : Recs S l) (hl : l.length ≤ n) (i : Nat) (hi : i < l.length) : ∃ e, e < n ∧ kR (((sortI (byW S) l).take i).foldl (placeA S n) (List.replicate n (0, 0))) e = 0 ∧ (((sortI (byW S) l).take i).foldl (placeA S n) (List.replicate n (0, 0))).length = n := by
  have hpw : l.Pairwise fun a b => -S.wt a.1 ≠ -S.wt b.1 := by
    refine List.Pairwise.imp_of_mem ?_ hr.nd
    intro a b ha hb hne e
    exact hne (S.inj _ _ (hr.u a ha) (hr.u b hb) (by omega))
  have hs := sortI_sorted (p := byW S) (f := fun r => -S.wt r.1) (fun a b => by
    unfold byW; rw [S.hbf]; congr 1; exact propext ⟨fun h => by omega, fun h => by omega⟩) hpw
  have hs2 := hs.sublist (List.take_sublist i _)
  have hr2 : Recs S ((sortI (byW S) l).take i) := hr.of_mem (fun x hx => (sortI_mem _ l x).1 (List.mem_of_mem_take hx)) (hs2.imp fun h e => by rw [e] at h; omega)
  have hlen : ((sortI (byW S) l).take i).length = i := by rw [List.length_take, sortI_len]; omega
  obtain ⟨h1, h2⟩ := fold_place ((sortI (byW S) l).take i) [] _ (Ok.nil S n) (fun x => ⟨fun h => absurd h In.nil, fun h => by cases h⟩) (by simpa using hr2) (by rw [hlen]; simp; omega) (by
    show List.Pairwise _ ((sortI (byW S) l).take i)
    exact hs2.imp fun h => by omega)
  obtain ⟨e, he, he0⟩ := h1.free (l := (sortI (byW S) l).take i) (by omega) (fun x hx => by have := (h2 x).1 hx; rwa [List.nil_append] at this)
  exact ⟨e, he, he0, h1.len⟩
theorem flat_put1 {T : List R} {i : Nat} (h : i < T.length) (r : R) : (flat 1 T).set (i * 1) r.1 = flat 1 (T.set i r) := by
  have hl := flat_len (w := 1) (.inl rfl) T
  rw [flat_set (.inl rfl) T h, List.set_eq_take_append_cons_drop, if_pos (by omega)]; rfl
theorem flat_put2 {T : List R} {i : Nat} (h : i < T.length) (r : R) : ((flat 2 T).set (i * 2) r.1).set (i * 2 + 1) r.2 = flat 2 (T.set i r) := by
  have hl := flat_len (w := 2) (.inr rfl) T
  rw [flat_set (.inr rfl) T h, List.set_eq_take_append_cons_drop (i := i * 2), if_pos (by omega), List.set_append_right _ _ (by rw [List.length_take]; omega), List.length_take, Nat.min_eq_left (by omega), show i * 2 + 1 - i * 2 = 0 + 1 by omega]
  congr 1
  rw [List.set_cons_succ]
  show r.1 :: (List.drop (i * 2 + 1) (flat 2 T)).set 0 r.2 = r.1 :: r.2 :: List.drop (i * 2 + 2) (flat 2 T)
  congr 1
  rw [List.drop_eq_getElem_cons (by omega)]; rfl
theorem placeF_succ (n f i : Nat) (T : List R) (r : R) : placeF n (f + 1) i T r = if kR T i = 0 then T.set i r else placeF n f (nxt n i) T r := rfl
theorem tmod_nxt {n i : Nat} (hi : i < n) : ((i + 1 : Nat) : Int).tmod n = ((nxt n i : Nat) : Int) := by
  rw [Int.tmod_eq_emod_of_nonneg (by omega), ← Int.natCast_emod]
  have : (i + 1) % n = nxt n i := by
    unfold nxt; split
    · rename_i h; rw [h]; exact Nat.mod_self n
    · exact Nat.mod_eq_of_lt (by omega)
  rw [this]
noncomputable def eAhead : Entry := ⟨135, 4, fun l => match l with | [.fl [.u64, .u64] m xs] => some (some (m ≤ 3000), .ow 0 2 m, [(0, .fl [.u64, .u64] (flat 2 (sortI (byW sP) (recs m 2 xs))))]) | _ => none⟩
theorem eAhead_ok : eAhead.ok Tryz.prog glR := ⟨Am.enters_of Tryz.func135 (by kernel_rfl) (by kernel_rfl), by
  intro args c t bs h hc
  simp only [eAhead] at h
  split at h <;> cases h
  replace hc := hc _ rfl
  exact ahead_pure _ _ hc⟩
noncomputable def ctxLd (P : Program) : Ctx := ctx P glR [eAhead, eRSlot] [] (noEq P) [] (fun _ h => by cases h)
theorem ctxLd_good : (ctxLd Tryz.prog).good := ctx_good (by kernel_rfl) (AllOk.mem ⟨eAhead_ok, eRSlot_ok, trivial⟩) glR_two
attribute [local irreducible] sortI insL insA nzs recs placeF
set_option maxHeartbeats 1000000 in
set_option maxRecDepth 100000 in
theorem laid1_pure (n m : Nat) (xs : List Int) (hn0 : 0 < n) (hn : n ≤ 1024) (hmn : m ≤ n) (hr : Recs sP (recs m 2 xs)) : Pure Tryz.prog glR 111 [.v (.int .i64 n), .v (.int .i64 1), .fl [.u64, .u64] m xs] (.ow 0 1 (n * 1)) [(0, .fl [.u64] (flat 1 (laid sP n (recs m 2 xs))))] := by
  have hLl := recs_len m 2 xs
  have hpre := laid_pre (n := n) hr (by rw [hLl]; exact hmn)
  have hSl : (sortI (byW sP) (recs m 2 xs)).length = m := by rw [sortI_len, hLl]
  have hlaid : laid sP n (recs m 2 xs) = (sortI (byW sP) (recs m 2 xs)).foldl (placeA sP n) (List.replicate n (0, 0)) := rfl
  rw [hLl] at hpre
  rw [hlaid]
  have hem : IntKind.i64.wrap ((n : Int) * 1) = ((n * 1 : Nat) : Int) := by rw [wrap64 (by omega) (by omega)]; omega
  have hei : ∀ i, i < n → IntKind.i64.wrap ((i : Int) * 1) = ((i * 1 : Nat) : Int) := fun i hi => by rw [wrap64 (by omega) (by omega)]; omega
  refine pure_of (C := ctxLd Tryz.prog) ctxLd_good Tryz.func111 (c := bodyOf Tryz.f111) (by rfl) (Nat.le_of_ble_eq_true (by rfl)) 4 0 [0, 1, 2, 6, 7, 8, 9, 10, 20, 36, 52] ?_
  conv => whnf
  rw [hem]
  repeat (refine And.intro (by omega) ?_; conv => whnf)
  generalize sortI (byW sP) (recs m 2 xs) = L at *
  have hz : List.replicate (mulN ((n * 1 : Nat) : Int).toNat (0 + 1)) 0 = flat 1 (List.replicate n ((0 : Int), (0 : Int))) := by
    rw [mulN_eq, Int.toNat_natCast]; exact (congrArg (fun z => List.replicate z (0 : Int)) (Nat.mul_one _)).trans (flat_zero (w := 1) (by decide) n)
  have hz2 : (((n * 1 : Nat) : Int).toNat) = n * 1 := Int.toNat_natCast _
  rw [hz, hz2]
  refine TW.loopD ctxLd_good 0 (base := 0) (lv := [0, 1, 2, 6, 7, 8, 9, 10, 20, 36, 52]) [9] [56] [(56, 56)] (fun x : Nat × List R => [.v (.int .i64 x.1)]) (fun x => [.fl [.u64] (flat 1 x.2)]) (fun x => x.1 ≤ m ∧ x.2 = (L.take x.1).foldl (placeA sP n) (List.replicate n (0, 0)) ∧ x.2.length = n) (fun x => m - x.1) ?_
  conv => whnf
  refine ⟨⟨(0, List.replicate n (0, 0)), ⟨rfl, rfl, rfl⟩, Nat.zero_le _, rfl, List.length_replicate⟩, fun ⟨j, T⟩ ⟨hj, hT, hTl⟩ => ?_⟩
  replace hj : j ≤ m := hj
  replace hT : T = (L.take j).foldl (placeA sP n) (List.replicate n (0, 0)) := hT
  replace hTl : T.length = n := hTl
  conv => whnf
  refine ifB_dec (fun h => ?_) (fun h => ?_)
  · replace h : (j : Int) < m := h
    obtain ⟨e, he, he0, -⟩ := hpre j (by omega)
    rw [← hT] at he0
    have hLs : L.take (j + 1) = L.take j ++ [gR L j] := take_snocR (by omega)
    have e1 : (flat 2 L).getD (0 + addN 0 (((j, T) : Nat × List R).1 : Int).toNat * (1 + 1)) 0 = (gR L j).1 := by
      rw [addN_eq, show 0 + (0 + (((j, T) : Nat × List R).1 : Int).toNat) * (1 + 1) = j * 2 by dsimp only; omega]; exact flat_key (.inr rfl) L (by omega)
    have en : ((n : Int)).toNat = n := Int.toNat_natCast n
    have hh := sP.hlt n (gR L j).1 hn0
    conv => whnf
    repeat (refine And.intro (by first | omega | (dsimp only; omega)) ?_; conv => whnf)
    rw [e1, en]
    refine TW.loopD ctxLd_good 0 (base := 0) (lv := [0, 1, 2, 6, 7, 8, 9, 10, 20, 36, 52]) [10] [] [] (fun x : Nat × Nat => [.v (.int .i64 x.2)]) (fun x => []) (fun x => placeF n x.1 x.2 T (gR L j) = placeA sP n T (gR L j) ∧ dist n x.2 e < x.1 ∧ x.2 < n) (fun x => x.1) ?_
    conv => whnf
    refine ⟨⟨(n, sP.hm n (gR L j).1), ⟨rfl, rfl, rfl⟩, rfl, dist_lt hh he, hh⟩, fun ⟨f, q⟩ ⟨hF, hd, hq⟩ => ?_⟩
    replace hF : placeF n f q T (gR L j) = placeA sP n T (gR L j) := hF
    replace hd : dist n q e < f := hd
    replace hq : q < n := hq
    cases f with
    | zero => exact absurd hd (Nat.not_lt_zero _)
    | succ f =>
      have hst : placeF n (f + 1) q T (gR L j) = if kR T q = 0 then T.set q (gR L j) else placeF n f (nxt n q) T (gR L j) := placeF_succ ..
      rw [hst] at hF
      have eq0 : IntKind.i64.wrap ((((f + 1, q) : Nat × Nat).2 : Int) * 1) = ((q * 1 : Nat) : Int) := hei q hq
      have eq1 : IntKind.i64.wrap (((q * 1 : Nat) : Int) + 1) = ((q * 1 + 1 : Nat) : Int) := by rw [wrap64 (by omega) (by omega)]; omega
      conv => whnf
      rw [eq0]
      repeat (refine And.intro (by first | omega | (dsimp only; omega)) ?_; conv => whnf)
      have e3 : (flat 1 ((j, T) : Nat × List R).2).getD (0 + addN 0 ((q * 1 : Nat) : Int).toNat * (0 + 1)) 0 = kR T q := by
        rw [addN_eq, show 0 + (0 + ((q * 1 : Nat) : Int).toNat) * (0 + 1) = q * 1 by omega]; exact flat_key (by decide) T (by omega)
      rw [e3]
      refine ifB_ne (x := kR T q) (y := 0) (fun hk => ?_) (fun hk => ?_)
      · rw [if_neg hk] at hF
        have hqe : q ≠ e := fun z => hk (by rw [z]; exact he0)
        have em1 : IntKind.i64.wrap ((((f + 1, q) : Nat × Nat).2 : Int) + 1) = ((q + 1 : Nat) : Int) := by rw [wrap64 (by dsimp only; omega) (by dsimp only; omega)]; dsimp only; omega
        have em2 : ((q + 1 : Nat) : Int).tmod n = ((nxt n q : Nat) : Int) := tmod_nxt hq
        conv => whnf
        rw [em1]
        repeat (refine And.intro (by first | omega | (dsimp only; omega)) ?_; conv => whnf)
        rw [em2]
        refine ⟨(f, nxt n q), [], ⟨rfl, rfl, rfl⟩, ⟨hF, ?_, ?_⟩, by dsimp only; omega⟩
        · have d1 := dist_c n q e; have d2 := dist_c n (nxt n q) e; have d3 := nxt_c n q; dsimp only; omega
        · have d3 := nxt_c n q; dsimp only; omega
      · rw [if_pos (by omega)] at hF
        conv => whnf
        repeat (first | (refine And.intro (by first | omega | (dsimp only; omega)) ?_; conv => whnf) | rw [eq0])
        have e2 : (flat 2 L).getD (0 + 1 + addN 0 (((j, T) : Nat × List R).1 : Int).toNat * (1 + 1)) 0 = (gR L j).2 := by
          rw [addN_eq, show 0 + 1 + (0 + (((j, T) : Nat × List R).1 : Int).toNat) * (1 + 1) = j * 2 + 1 by dsimp only; omega]; exact flat_val L (by omega)
        have g1 : 0 + addN 0 ((q * 1 : Nat) : Int).toNat * (0 + 1) + 0 = q * 1 := by rw [addN_eq]; omega
        have g2 : 0 + addN 0 ((q * 1 + 1 : Nat) : Int).toNat * (0 + 1) + 0 = q * 1 + 1 := by rw [addN_eq]; omega
        rw [e1, g1, wsucc (j := j) (n := n) (by omega) (by omega)]
        try rw [e2, eq1, g2]
        refine ⟨(j + 1, T.set q (gR L j)), [(56, 56)], ⟨rfl, rfl, ?_⟩, ⟨(by omega : j + 1 ≤ m), ?_, by dsimp only; rw [List.length_set]; exact hTl⟩, by dsimp only; omega⟩
        · show _ = (56, Blk.fl [.u64] (flat 1 (T.set q (gR L j)))) :: _
          rw [← flat_put1 (by omega)]; rfl
        · dsimp only
          rw [hLs, List.foldl_append, ← hT, hF]; rfl
  · replace h : ¬ (j : Int) < m := h
    have hjm : j = m := by omega
    subst hjm
    rw [List.take_of_length_le (by omega)] at hT
    subst hT
    conv => whnf
    repeat' (first | exact trivial | exact rfl | (refine And.intro ?_ ?_) | ((conv => whnf); done) | ((conv => whnf); (first | rfl | (refine congrArg (fun b => T.v (Value.bool b)) ?_; first | rfl | exact (decide_eq_true (by omega)).symm | exact (decide_eq_false (by omega)).symm | exact decide_eq_decide.2 (by omega)) | (refine congrArg (fun b => T.v (Value.int _ b)) ?_; first | rfl | omega) | omega)) | (first | rfl | (refine congrArg (fun b => T.v (Value.bool b)) ?_; first | rfl | exact (decide_eq_true (by omega)).symm | exact (decide_eq_false (by omega)).symm | exact decide_eq_decide.2 (by omega)) | (refine congrArg (fun b => T.v (Value.int _ b)) ?_; first | rfl | omega) | omega))
set_option maxHeartbeats 1000000 in
set_option maxRecDepth 100000 in
theorem laid2_pure (n m : Nat) (xs : List Int) (hn0 : 0 < n) (hn : n ≤ 1024) (hmn : m ≤ n) (hr : Recs sP (recs m 2 xs)) : Pure Tryz.prog glR 111 [.v (.int .i64 n), .v (.int .i64 2), .fl [.u64, .u64] m xs] (.ow 0 1 (n * 2)) [(0, .fl [.u64] (flat 2 (laid sP n (recs m 2 xs))))] := by
  have hLl := recs_len m 2 xs
  have hpre := laid_pre (n := n) hr (by rw [hLl]; exact hmn)
  have hSl : (sortI (byW sP) (recs m 2 xs)).length = m := by rw [sortI_len, hLl]
  have hlaid : laid sP n (recs m 2 xs) = (sortI (byW sP) (recs m 2 xs)).foldl (placeA sP n) (List.replicate n (0, 0)) := rfl
  rw [hLl] at hpre
  rw [hlaid]
  have hem : IntKind.i64.wrap ((n : Int) * 2) = ((n * 2 : Nat) : Int) := by rw [wrap64 (by omega) (by omega)]; omega
  have hei : ∀ i, i < n → IntKind.i64.wrap ((i : Int) * 2) = ((i * 2 : Nat) : Int) := fun i hi => by rw [wrap64 (by omega) (by omega)]; omega
  refine pure_of (C := ctxLd Tryz.prog) ctxLd_good Tryz.func111 (c := bodyOf Tryz.f111) (by rfl) (Nat.le_of_ble_eq_true (by rfl)) 4 0 [0, 1, 2, 6, 7, 8, 9, 10, 20, 36, 52] ?_
  conv => whnf
  rw [hem]
  repeat (refine And.intro (by omega) ?_; conv => whnf)
  generalize sortI (byW sP) (recs m 2 xs) = L at *
  have hz : List.replicate (mulN ((n * 2 : Nat) : Int).toNat (0 + 1)) 0 = flat 2 (List.replicate n ((0 : Int), (0 : Int))) := by
    rw [mulN_eq, Int.toNat_natCast]; exact (congrArg (fun z => List.replicate z (0 : Int)) (Nat.mul_one _)).trans (flat_zero (w := 2) (by decide) n)
  have hz2 : (((n * 2 : Nat) : Int).toNat) = n * 2 := Int.toNat_natCast _
  rw [hz, hz2]
  refine TW.loopD ctxLd_good 0 (base := 0) (lv := [0, 1, 2, 6, 7, 8, 9, 10, 20, 36, 52]) [9] [56] [(56, 56)] (fun x : Nat × List R => [.v (.int .i64 x.1)]) (fun x => [.fl [.u64] (flat 2 x.2)]) (fun x => x.1 ≤ m ∧ x.2 = (L.take x.1).foldl (placeA sP n) (List.replicate n (0, 0)) ∧ x.2.length = n) (fun x => m - x.1) ?_
  conv => whnf
  refine ⟨⟨(0, List.replicate n (0, 0)), ⟨rfl, rfl, rfl⟩, Nat.zero_le _, rfl, List.length_replicate⟩, fun ⟨j, T⟩ ⟨hj, hT, hTl⟩ => ?_⟩
  replace hj : j ≤ m := hj
  replace hT : T = (L.take j).foldl (placeA sP n) (List.replicate n (0, 0)) := hT
  replace hTl : T.length = n := hTl
  conv => whnf
  refine ifB_dec (fun h => ?_) (fun h => ?_)
  · replace h : (j : Int) < m := h
    obtain ⟨e, he, he0, -⟩ := hpre j (by omega)
    rw [← hT] at he0
    have hLs : L.take (j + 1) = L.take j ++ [gR L j] := take_snocR (by omega)
    have e1 : (flat 2 L).getD (0 + addN 0 (((j, T) : Nat × List R).1 : Int).toNat * (1 + 1)) 0 = (gR L j).1 := by
      rw [addN_eq, show 0 + (0 + (((j, T) : Nat × List R).1 : Int).toNat) * (1 + 1) = j * 2 by dsimp only; omega]; exact flat_key (.inr rfl) L (by omega)
    have en : ((n : Int)).toNat = n := Int.toNat_natCast n
    have hh := sP.hlt n (gR L j).1 hn0
    conv => whnf
    repeat (refine And.intro (by first | omega | (dsimp only; omega)) ?_; conv => whnf)
    rw [e1, en]
    refine TW.loopD ctxLd_good 0 (base := 0) (lv := [0, 1, 2, 6, 7, 8, 9, 10, 20, 36, 52]) [10] [] [] (fun x : Nat × Nat => [.v (.int .i64 x.2)]) (fun x => []) (fun x => placeF n x.1 x.2 T (gR L j) = placeA sP n T (gR L j) ∧ dist n x.2 e < x.1 ∧ x.2 < n) (fun x => x.1) ?_
    conv => whnf
    refine ⟨⟨(n, sP.hm n (gR L j).1), ⟨rfl, rfl, rfl⟩, rfl, dist_lt hh he, hh⟩, fun ⟨f, q⟩ ⟨hF, hd, hq⟩ => ?_⟩
    replace hF : placeF n f q T (gR L j) = placeA sP n T (gR L j) := hF
    replace hd : dist n q e < f := hd
    replace hq : q < n := hq
    cases f with
    | zero => exact absurd hd (Nat.not_lt_zero _)
    | succ f =>
      have hst : placeF n (f + 1) q T (gR L j) = if kR T q = 0 then T.set q (gR L j) else placeF n f (nxt n q) T (gR L j) := placeF_succ ..
      rw [hst] at hF
      have eq0 : IntKind.i64.wrap ((((f + 1, q) : Nat × Nat).2 : Int) * 2) = ((q * 2 : Nat) : Int) := hei q hq
      have eq1 : IntKind.i64.wrap (((q * 2 : Nat) : Int) + 1) = ((q * 2 + 1 : Nat) : Int) := by rw [wrap64 (by omega) (by omega)]; omega
      conv => whnf
      rw [eq0]
      repeat (refine And.intro (by first | omega | (dsimp only; omega)) ?_; conv => whnf)
      have e3 : (flat 2 ((j, T) : Nat × List R).2).getD (0 + addN 0 ((q * 2 : Nat) : Int).toNat * (0 + 1)) 0 = kR T q := by
        rw [addN_eq, show 0 + (0 + ((q * 2 : Nat) : Int).toNat) * (0 + 1) = q * 2 by omega]; exact flat_key (by decide) T (by omega)
      rw [e3]
      refine ifB_ne (x := kR T q) (y := 0) (fun hk => ?_) (fun hk => ?_)
      · rw [if_neg hk] at hF
        have hqe : q ≠ e := fun z => hk (by rw [z]; exact he0)
        have em1 : IntKind.i64.wrap ((((f + 1, q) : Nat × Nat).2 : Int) + 1) = ((q + 1 : Nat) : Int) := by rw [wrap64 (by dsimp only; omega) (by dsimp only; omega)]; dsimp only; omega
        have em2 : ((q + 1 : Nat) : Int).tmod n = ((nxt n q : Nat) : Int) := tmod_nxt hq
        conv => whnf
        rw [em1]
        repeat (refine And.intro (by first | omega | (dsimp only; omega)) ?_; conv => whnf)
        rw [em2]
        refine ⟨(f, nxt n q), [], ⟨rfl, rfl, rfl⟩, ⟨hF, ?_, ?_⟩, by dsimp only; omega⟩
        · have d1 := dist_c n q e; have d2 := dist_c n (nxt n q) e; have d3 := nxt_c n q; dsimp only; omega
        · have d3 := nxt_c n q; dsimp only; omega
      · rw [if_pos (by omega)] at hF
        conv => whnf
        repeat (first | (refine And.intro (by first | omega | (dsimp only; omega)) ?_; conv => whnf) | rw [eq0])
        have e2 : (flat 2 L).getD (0 + 1 + addN 0 (((j, T) : Nat × List R).1 : Int).toNat * (1 + 1)) 0 = (gR L j).2 := by
          rw [addN_eq, show 0 + 1 + (0 + (((j, T) : Nat × List R).1 : Int).toNat) * (1 + 1) = j * 2 + 1 by dsimp only; omega]; exact flat_val L (by omega)
        have g1 : 0 + addN 0 ((q * 2 : Nat) : Int).toNat * (0 + 1) + 0 = q * 2 := by rw [addN_eq]; omega
        have g2 : 0 + addN 0 ((q * 2 + 1 : Nat) : Int).toNat * (0 + 1) + 0 = q * 2 + 1 := by rw [addN_eq]; omega
        rw [e1, g1, wsucc (j := j) (n := n) (by omega) (by omega)]
        try rw [e2, eq1, g2]
        refine ⟨(j + 1, T.set q (gR L j)), [(56, 56)], ⟨rfl, rfl, ?_⟩, ⟨(by omega : j + 1 ≤ m), ?_, by dsimp only; rw [List.length_set]; exact hTl⟩, by dsimp only; omega⟩
        · show _ = (56, Blk.fl [.u64] (flat 2 (T.set q (gR L j)))) :: _
          rw [← flat_put2 (by omega)]; rfl
        · dsimp only
          rw [hLs, List.foldl_append, ← hT, hF]; rfl
  · replace h : ¬ (j : Int) < m := h
    have hjm : j = m := by omega
    subst hjm
    rw [List.take_of_length_le (by omega)] at hT
    subst hT
    conv => whnf
    repeat' (first | exact trivial | exact rfl | (refine And.intro ?_ ?_) | ((conv => whnf); done) | ((conv => whnf); (first | rfl | (refine congrArg (fun b => T.v (Value.bool b)) ?_; first | rfl | exact (decide_eq_true (by omega)).symm | exact (decide_eq_false (by omega)).symm | exact decide_eq_decide.2 (by omega)) | (refine congrArg (fun b => T.v (Value.int _ b)) ?_; first | rfl | omega) | omega)) | (first | rfl | (refine congrArg (fun b => T.v (Value.bool b)) ?_; first | rfl | exact (decide_eq_true (by omega)).symm | exact (decide_eq_false (by omega)).symm | exact decide_eq_decide.2 (by omega)) | (refine congrArg (fun b => T.v (Value.int _ b)) ?_; first | rfl | omega) | omega))
noncomputable def eRLaid : Entry := ⟨111, 4, fun l => match l with | [.v (.int .i64 n), .v (.int .i64 w), .fl [.u64, .u64] m xs] => some (some ((w = 1 ∨ w = 2) ∧ (0 < n ∧ n ≤ 1024) ∧ m ≤ n ∧ Recs sP (recs m 2 xs)), .ow 0 1 (n.toNat * w.toNat), [(0, .fl [.u64] (flat w.toNat (laid sP n.toNat (recs m 2 xs))))]) | _ => none⟩
theorem eRLaid_ok : eRLaid.ok Tryz.prog glR := ⟨Am.enters_of Tryz.func111 (by kernel_rfl) (by kernel_rfl), by
  intro args c t bs h hc
  simp only [eRLaid] at h
  split at h <;> cases h
  replace hc := hc _ rfl
  exact (by obtain ⟨h1, ⟨h2, h3⟩, h4, h5⟩ := hc; obtain ⟨n, rfl⟩ := Int.eq_ofNat_of_zero_le (Int.le_of_lt h2); rcases h1 with rfl | rfl; exact laid1_pure n _ _ (by omega) (by omega) (by omega) h5; exact laid2_pure n _ _ (by omega) (by omega) (by omega) h5)⟩
end Go.Proofs.YtnplgklnkcjmnaaGreatDoor.PrT
namespace Go.Proofs.YtnplgklnkcjmnaaGreatDoor.PrT
open Go.RowKit Go.Proofs.YtnplgklnkcjmnaaGreatDoor.Am Go.Proofs.YtnplgklnkcjmnaaGreatDoor
set_option linter.unusedVariables false
set_option linter.unusedSimpArgs false


theorem pw_at {L : List R} (h : L.Pairwise fun a b => a.1 ≠ b.1) {i j : Nat} (hij : i < j) (hj : j < L.length) : kR L i ≠ kR L j := by
  have := (List.pairwise_iff_getElem.1 h) i j (by omega) hj hij
  unfold kR gR
  rw [List.getD_eq_getElem?_getD, List.getD_eq_getElem?_getD, List.getElem?_eq_getElem (by omega), List.getElem?_eq_getElem hj]
  exact this
theorem pw_of_at {L : List R} (h : ∀ i j, i < j → j < L.length → kR L i ≠ kR L j) : L.Pairwise fun a b => a.1 ≠ b.1 := by
  rw [List.pairwise_iff_getElem]
  intro i j hi hj hij
  have := h i j hij hj
  unfold kR gR at this
  rw [List.getD_eq_getElem?_getD, List.getD_eq_getElem?_getD, List.getElem?_eq_getElem hi, List.getElem?_eq_getElem hj] at this
  exact this
theorem badR_z {w : Int} {r : R} (h : r.1 = 0) : badR w r = true := by unfold badR; rw [h]; rfl
theorem badR_v {r : R} (h : r.2 ≠ 0) : badR 1 r = true := by unfold badR; simp [h]
theorem badR_ok2 {r : R} (h : r.1 ≠ 0) : badR 2 r = false := by unfold badR; simp [h]
theorem badR_ok1 {w : Int} {r : R} (h : r.1 ≠ 0) (h2 : r.2 = 0) : badR w r = false := by unfold badR; simp [h, h2]
noncomputable def ctxRB (P : Program) : Ctx := ctx P glR [eRLaid] [] (noEq P) [] (fun _ h => by cases h)
theorem ctxRB_good : (ctxRB Tryz.prog).good := ctx_good (by kernel_rfl) (AllOk.mem ⟨eRLaid_ok, trivial⟩) glR_two
attribute [local irreducible] recs laid
set_option maxHeartbeats 1000000 in
set_option maxRecDepth 100000 in
theorem rbuild1_pure (n : Nat) (m : Nat) (xs : List Int) (hn0 : 0 < n) (hn : n ≤ 1024) (hm : m ≤ 1100) (hu : ∀ r ∈ recs m 2 xs, sP.U r.1) : Pure Tryz.prog glR 74 [.v (.int .i64 n), .v (.int .i64 1), .fl [.u64, .u64] m xs] (.tup [.ow 0 1 (bldW n 1 (recs m 2 xs)).length, .v (.int .i64 (bldE n 1 (recs m 2 xs)))]) [(0, .fl [.u64] (bldW n 1 (recs m 2 xs)))] := by
  refine pure_wf fun hw => ?_
  obtain ⟨-, -, ⟨w1, w2⟩, -⟩ := hw
  simp only [List.length_cons, List.length_nil, Nat.zero_add, Nat.mul_one] at w1
  have hLl : (recs m 2 xs).length = m := recs_len _ _ _
  have hLg : ∀ j, j < m → gR (recs m 2 xs) j = (xs.getD (j * 2) 0, xs.getD (j * 2 + 1) 0) := fun j hj => recs2_get hj
  refine pure_of (C := ctxRB Tryz.prog) ctxRB_good Tryz.func74 (c := bodyOf Tryz.f74) (by rfl) (Nat.le_of_ble_eq_true (by rfl)) 4 0 [0, 1, 2, 6, 7, 8, 9, 23, 27, 47, 50, 63, 67] ?_
  conv => whnf
  repeat' (first | (refine ifB_t (by assumption) ?_; conv => whnf) | (refine ifB_f (by assumption) ?_; conv => whnf) | (refine ifB_dec (fun h => ?_) (fun h => ?_) <;> (first | (exfalso; omega) | (conv => whnf))) | (refine ifB_eq (fun h => ?_) (fun h => ?_) <;> (first | (exfalso; omega) | (conv => whnf))) | (refine ifB_ne (fun h => ?_) (fun h => ?_) <;> (first | (exfalso; omega) | (conv => whnf))) | (refine ifB_not ?_; conv => whnf) | (refine ifB_and ?_; conv => whnf) | (refine ifB_or ?_; conv => whnf) | (refine And.intro ?_ ?_; (first | omega | assumption | (exact allU_getD (by assumption) _) | (simp only [cutL]; omega) | (refine And.intro ?_ ?_ <;> first | assumption | exact allU_getD (by assumption) _) | (simp only [cutL, IntKind.wrap_u64, IntKind.wrap_i64] at *; omega) | decide); conv => whnf))
  generalize hL : recs m 2 xs = L at *
  refine TW.loopD ctxRB_good 0 (base := 0) (lv := [0, 1, 2, 6, 7, 8, 9, 23, 27, 47, 50, 63, 67]) [8] [] [] (fun j : Nat => [.v (.int .i64 j)]) (fun j => []) (fun j => j ≤ m ∧ (∀ i, i < j → badR 1 (gR L i) = false) ∧ ∀ i k, k < i → i < j → kR L k ≠ kR L i) (fun j => m - j) ?_
  conv => whnf
  refine ⟨⟨0, ⟨rfl, rfl, rfl⟩, by omega, fun i h => by omega, fun i k _ h => by omega⟩, fun j ⟨hj, hg, hd⟩ => ?_⟩
  conv => whnf
  refine ifB_dec (fun h => ?_) (fun h => ?_)
  · conv => whnf
    repeat (refine And.intro (by omega) ?_; conv => whnf)
    have hLj := hLg j (by omega)
    have hLm : gR L j ∈ L := gR_mem (by omega)
    have E0 : 0 + (j : Int).toNat * (1 + 1) = j * 2 := by omega
    have E1 : 0 + 1 + (j : Int).toNat * (1 + 1) = j * 2 + 1 := by omega
    rw [E0]
    have hkj : kR L j = xs.getD (j * 2) 0 := by unfold kR; rw [hLj]
    have bad : badR 1 (gR L j) = true → bldE n 1 L = 1 ∧ bldW n 1 L = [] := fun hb => by
      have e : bldE n 1 L = 1 := by unfold bldE; rw [if_neg (by omega), if_pos (.inl ⟨_, hLm, hb⟩)]
      exact ⟨e, by unfold bldW; rw [e, if_neg (by decide)]⟩
    refine ifB_eq (x := xs.getD (j * 2) 0) (y := 0) (fun ha => ?_) (fun ha => ?_)
    · obtain ⟨e0, e1⟩ := bad (by rw [hLj]; exact badR_z ha)
      conv => whnf
      rw [e0, e1]
      repeat' (first | exact trivial | exact rfl | (refine And.intro ?_ ?_) | ((conv => whnf); done) | ((conv => whnf); (first | rfl | (refine congrArg (fun b => T.v (Value.bool b)) ?_; first | rfl | exact (decide_eq_true (by omega)).symm | exact (decide_eq_false (by omega)).symm | exact decide_eq_decide.2 (by omega)) | (refine congrArg (fun b => T.v (Value.int _ b)) ?_; first | rfl | omega) | omega)) | (first | rfl | (refine congrArg (fun b => T.v (Value.bool b)) ?_; first | rfl | exact (decide_eq_true (by omega)).symm | exact (decide_eq_false (by omega)).symm | exact decide_eq_decide.2 (by omega)) | (refine congrArg (fun b => T.v (Value.int _ b)) ?_; first | rfl | omega) | omega))
    · conv => whnf
      repeat (refine And.intro (by omega) ?_; conv => whnf)
      try rw [E1]
      try refine ifB_ne (x := xs.getD (j * 2 + 1) 0) (y := 0) (fun hb => by
        obtain ⟨e0, e1⟩ := bad (by rw [hLj]; exact badR_v hb)
        conv => whnf
        rw [e0, e1]
        repeat' (first | exact trivial | exact rfl | (refine And.intro ?_ ?_) | ((conv => whnf); done) | ((conv => whnf); (first | rfl | (refine congrArg (fun b => T.v (Value.bool b)) ?_; first | rfl | exact (decide_eq_true (by omega)).symm | exact (decide_eq_false (by omega)).symm | exact decide_eq_decide.2 (by omega)) | (refine congrArg (fun b => T.v (Value.int _ b)) ?_; first | rfl | omega) | omega)) | (first | rfl | (refine congrArg (fun b => T.v (Value.bool b)) ?_; first | rfl | exact (decide_eq_true (by omega)).symm | exact (decide_eq_false (by omega)).symm | exact decide_eq_decide.2 (by omega)) | (refine congrArg (fun b => T.v (Value.int _ b)) ?_; first | rfl | omega) | omega))) (fun hb => ?_)
      try conv => whnf
      have good : badR 1 (gR L j) = false := by
        rw [hLj]
        first | exact badR_ok2 ha | exact badR_ok1 ha hb
      refine TW.loopD ctxRB_good 0 (base := 0) (lv := [0, 1, 2, 6, 7, 8, 9, 23, 27, 47, 50, 63, 67]) [9] [] [] (fun k : Nat => [.v (.int .i64 k)]) (fun k => []) (fun k => k ≤ j ∧ ∀ q, q < k → kR L q ≠ kR L j) (fun k => j - k) ?_
      conv => whnf
      refine ⟨⟨0, ⟨rfl, rfl, rfl⟩, Nat.zero_le _, fun q h => by omega⟩, fun k ⟨hk, hq⟩ => ?_⟩
      conv => whnf
      refine ifB_dec (fun h2 => ?_) (fun h2 => ?_)
      · replace h2 : (k : Int) < j := h2
        have hkk : kR L k = xs.getD (k * 2) 0 := by unfold kR; rw [hLg k (by omega)]
        have E2 : 0 + (k : Int).toNat * (1 + 1) = k * 2 := by omega
        conv => whnf
        repeat (refine And.intro (by omega) ?_; conv => whnf)
        rw [E0, E2, ← hkk, ← hkj]
        refine ifB_eq (x := kR L k) (y := kR L j) (fun he => ?_) (fun he => ?_)
        · have hnp : ¬ L.Pairwise fun a b => a.1 ≠ b.1 := fun q => pw_at q (i := k) (j := j) (by omega) (by omega) he
          have e : bldE n 1 L = 1 := by
            unfold bldE
            rw [if_neg (by omega), if_pos (.inr hnp)]
          have e1 : bldW n 1 L = [] := by unfold bldW; rw [e, if_neg (by decide)]
          conv => whnf
          rw [e, e1]
          repeat' (first | exact trivial | exact rfl | (refine And.intro ?_ ?_) | ((conv => whnf); done) | ((conv => whnf); (first | rfl | (refine congrArg (fun b => T.v (Value.bool b)) ?_; first | rfl | exact (decide_eq_true (by omega)).symm | exact (decide_eq_false (by omega)).symm | exact decide_eq_decide.2 (by omega)) | (refine congrArg (fun b => T.v (Value.int _ b)) ?_; first | rfl | omega) | omega)) | (first | rfl | (refine congrArg (fun b => T.v (Value.bool b)) ?_; first | rfl | exact (decide_eq_true (by omega)).symm | exact (decide_eq_false (by omega)).symm | exact decide_eq_decide.2 (by omega)) | (refine congrArg (fun b => T.v (Value.int _ b)) ?_; first | rfl | omega) | omega))
        · conv => whnf
          rw [wsucc (j := k) (n := m) (by omega) w2]
          refine ⟨k + 1, [], ⟨rfl, rfl, rfl⟩, ⟨(by omega : k + 1 ≤ j), fun q hq1 => ?_⟩, by dsimp only; omega⟩
          by_cases z : q = k
          · rw [z]; exact he
          · exact hq q (by omega)
      · replace h2 : ¬ (k : Int) < j := h2
        have hkj2 : k = j := by omega
        subst hkj2
        conv => whnf
        rw [wsucc (j := k) (n := m) (by omega) w2]
        refine ⟨k + 1, [], ⟨rfl, rfl, rfl⟩, ⟨(by omega : k + 1 ≤ m), fun i hi => ?_, fun i q h3 h4 => ?_⟩, by dsimp only; omega⟩
        · by_cases z : i = k
          · rw [z]; exact good
          · exact hg i (by omega)
        · by_cases z : i = k
          · rw [z]; exact hq q (by omega)
          · exact hd i q h3 (by omega)
  · replace h : ¬ (j : Int) < m := h
    have hjm : j = m := by omega
    subst hjm
    have hgood : ¬ ∃ r ∈ L, badR 1 r = true := by
      rintro ⟨r, hr, hb⟩
      obtain ⟨i, hi, rfl⟩ := List.getElem_of_mem hr
      have := hg i (by omega)
      unfold gR at this
      rw [List.getD_eq_getElem?_getD, List.getElem?_eq_getElem hi] at this
      rw [show ((some L[i]).getD (0, 0)) = L[i] from rfl, hb] at this
      cases this
    have hnd : L.Pairwise fun a b => a.1 ≠ b.1 := pw_of_at fun i k h1 h2 => hd k i h1 (by omega)
    conv => whnf
    refine ifB_dec (fun hf => ?_) (fun hf => ?_)
    · have e0 : bldE n 1 L = 11 := by unfold bldE; rw [if_neg (by omega), if_neg (fun q => q.elim hgood (fun q => q hnd)), if_pos (by omega)]
      have e1 : bldW n 1 L = [] := by unfold bldW; rw [e0, if_neg (by decide)]
      conv => whnf
      rw [e0, e1]
      repeat' (first | exact trivial | exact rfl | (refine And.intro ?_ ?_) | ((conv => whnf); done) | ((conv => whnf); (first | rfl | (refine congrArg (fun b => T.v (Value.bool b)) ?_; first | rfl | exact (decide_eq_true (by omega)).symm | exact (decide_eq_false (by omega)).symm | exact decide_eq_decide.2 (by omega)) | (refine congrArg (fun b => T.v (Value.int _ b)) ?_; first | rfl | omega) | omega)) | (first | rfl | (refine congrArg (fun b => T.v (Value.bool b)) ?_; first | rfl | exact (decide_eq_true (by omega)).symm | exact (decide_eq_false (by omega)).symm | exact decide_eq_decide.2 (by omega)) | (refine congrArg (fun b => T.v (Value.int _ b)) ?_; first | rfl | omega) | omega))
    · have e0 : bldE n 1 L = 0 := by unfold bldE; rw [if_neg (by omega), if_neg (fun q => q.elim hgood (fun q => q hnd)), if_neg (by omega)]
      have e1 : bldW n 1 L = flat 1 (laid sP n L) := by unfold bldW; rw [e0, if_pos rfl]; rfl
      have hrec : Recs sP L := ⟨hu, fun r hr h0 => hgood ⟨r, hr, by simp [badR, h0]⟩, hnd⟩
      have hln : (flat 1 (laid sP n L)).length = n * 1 := by rw [flat_len (by decide), (laid_ok hrec (by omega)).1.len]
      conv => whnf
      rw [hL]
      refine And.intro ⟨by omega, ⟨by omega, by omega⟩, by omega, hrec⟩ ?_
      conv => whnf
      rw [e0, e1, hln]
      repeat' (first | exact trivial | exact rfl | (refine And.intro ?_ ?_) | ((conv => whnf); done) | ((conv => whnf); (first | rfl | (refine congrArg (fun b => T.v (Value.bool b)) ?_; first | rfl | exact (decide_eq_true (by omega)).symm | exact (decide_eq_false (by omega)).symm | exact decide_eq_decide.2 (by omega)) | (refine congrArg (fun b => T.v (Value.int _ b)) ?_; first | rfl | omega) | omega)) | (first | rfl | (refine congrArg (fun b => T.v (Value.bool b)) ?_; first | rfl | exact (decide_eq_true (by omega)).symm | exact (decide_eq_false (by omega)).symm | exact decide_eq_decide.2 (by omega)) | (refine congrArg (fun b => T.v (Value.int _ b)) ?_; first | rfl | omega) | omega))
set_option maxHeartbeats 1000000 in
set_option maxRecDepth 100000 in
theorem rbuild2_pure (n : Nat) (m : Nat) (xs : List Int) (hn0 : 0 < n) (hn : n ≤ 1024) (hm : m ≤ 1100) (hu : ∀ r ∈ recs m 2 xs, sP.U r.1) : Pure Tryz.prog glR 74 [.v (.int .i64 n), .v (.int .i64 2), .fl [.u64, .u64] m xs] (.tup [.ow 0 1 (bldW n 2 (recs m 2 xs)).length, .v (.int .i64 (bldE n 2 (recs m 2 xs)))]) [(0, .fl [.u64] (bldW n 2 (recs m 2 xs)))] := by
  refine pure_wf fun hw => ?_
  obtain ⟨-, -, ⟨w1, w2⟩, -⟩ := hw
  simp only [List.length_cons, List.length_nil, Nat.zero_add, Nat.mul_one] at w1
  have hLl : (recs m 2 xs).length = m := recs_len _ _ _
  have hLg : ∀ j, j < m → gR (recs m 2 xs) j = (xs.getD (j * 2) 0, xs.getD (j * 2 + 1) 0) := fun j hj => recs2_get hj
  refine pure_of (C := ctxRB Tryz.prog) ctxRB_good Tryz.func74 (c := bodyOf Tryz.f74) (by rfl) (Nat.le_of_ble_eq_true (by rfl)) 4 0 [0, 1, 2, 6, 7, 8, 9, 23, 27, 47, 50, 63, 67] ?_
  conv => whnf
  repeat' (first | (refine ifB_t (by assumption) ?_; conv => whnf) | (refine ifB_f (by assumption) ?_; conv => whnf) | (refine ifB_dec (fun h => ?_) (fun h => ?_) <;> (first | (exfalso; omega) | (conv => whnf))) | (refine ifB_eq (fun h => ?_) (fun h => ?_) <;> (first | (exfalso; omega) | (conv => whnf))) | (refine ifB_ne (fun h => ?_) (fun h => ?_) <;> (first | (exfalso; omega) | (conv => whnf))) | (refine ifB_not ?_; conv => whnf) | (refine ifB_and ?_; conv => whnf) | (refine ifB_or ?_; conv => whnf) | (refine And.intro ?_ ?_; (first | omega | assumption | (exact allU_getD (by assumption) _) | (simp only [cutL]; omega) | (refine And.intro ?_ ?_ <;> first | assumption | exact allU_getD (by assumption) _) | (simp only [cutL, IntKind.wrap_u64, IntKind.wrap_i64] at *; omega) | decide); conv => whnf))
  generalize hL : recs m 2 xs = L at *
  refine TW.loopD ctxRB_good 0 (base := 0) (lv := [0, 1, 2, 6, 7, 8, 9, 23, 27, 47, 50, 63, 67]) [8] [] [] (fun j : Nat => [.v (.int .i64 j)]) (fun j => []) (fun j => j ≤ m ∧ (∀ i, i < j → badR 2 (gR L i) = false) ∧ ∀ i k, k < i → i < j → kR L k ≠ kR L i) (fun j => m - j) ?_
  conv => whnf
  refine ⟨⟨0, ⟨rfl, rfl, rfl⟩, by omega, fun i h => by omega, fun i k _ h => by omega⟩, fun j ⟨hj, hg, hd⟩ => ?_⟩
  conv => whnf
  refine ifB_dec (fun h => ?_) (fun h => ?_)
  · conv => whnf
    repeat (refine And.intro (by omega) ?_; conv => whnf)
    have hLj := hLg j (by omega)
    have hLm : gR L j ∈ L := gR_mem (by omega)
    have E0 : 0 + (j : Int).toNat * (1 + 1) = j * 2 := by omega
    have E1 : 0 + 1 + (j : Int).toNat * (1 + 1) = j * 2 + 1 := by omega
    rw [E0]
    have hkj : kR L j = xs.getD (j * 2) 0 := by unfold kR; rw [hLj]
    have bad : badR 2 (gR L j) = true → bldE n 2 L = 1 ∧ bldW n 2 L = [] := fun hb => by
      have e : bldE n 2 L = 1 := by unfold bldE; rw [if_neg (by omega), if_pos (.inl ⟨_, hLm, hb⟩)]
      exact ⟨e, by unfold bldW; rw [e, if_neg (by decide)]⟩
    refine ifB_eq (x := xs.getD (j * 2) 0) (y := 0) (fun ha => ?_) (fun ha => ?_)
    · obtain ⟨e0, e1⟩ := bad (by rw [hLj]; exact badR_z ha)
      conv => whnf
      rw [e0, e1]
      repeat' (first | exact trivial | exact rfl | (refine And.intro ?_ ?_) | ((conv => whnf); done) | ((conv => whnf); (first | rfl | (refine congrArg (fun b => T.v (Value.bool b)) ?_; first | rfl | exact (decide_eq_true (by omega)).symm | exact (decide_eq_false (by omega)).symm | exact decide_eq_decide.2 (by omega)) | (refine congrArg (fun b => T.v (Value.int _ b)) ?_; first | rfl | omega) | omega)) | (first | rfl | (refine congrArg (fun b => T.v (Value.bool b)) ?_; first | rfl | exact (decide_eq_true (by omega)).symm | exact (decide_eq_false (by omega)).symm | exact decide_eq_decide.2 (by omega)) | (refine congrArg (fun b => T.v (Value.int _ b)) ?_; first | rfl | omega) | omega))
    · conv => whnf
      repeat (refine And.intro (by omega) ?_; conv => whnf)
      try rw [E1]
      try refine ifB_ne (x := xs.getD (j * 2 + 1) 0) (y := 0) (fun hb => by
        obtain ⟨e0, e1⟩ := bad (by rw [hLj]; exact badR_v hb)
        conv => whnf
        rw [e0, e1]
        repeat' (first | exact trivial | exact rfl | (refine And.intro ?_ ?_) | ((conv => whnf); done) | ((conv => whnf); (first | rfl | (refine congrArg (fun b => T.v (Value.bool b)) ?_; first | rfl | exact (decide_eq_true (by omega)).symm | exact (decide_eq_false (by omega)).symm | exact decide_eq_decide.2 (by omega)) | (refine congrArg (fun b => T.v (Value.int _ b)) ?_; first | rfl | omega) | omega)) | (first | rfl | (refine congrArg (fun b => T.v (Value.bool b)) ?_; first | rfl | exact (decide_eq_true (by omega)).symm | exact (decide_eq_false (by omega)).symm | exact decide_eq_decide.2 (by omega)) | (refine congrArg (fun b => T.v (Value.int _ b)) ?_; first | rfl | omega) | omega))) (fun hb => ?_)
      try conv => whnf
      have good : badR 2 (gR L j) = false := by
        rw [hLj]
        first | exact badR_ok2 ha | exact badR_ok1 ha hb
      refine TW.loopD ctxRB_good 0 (base := 0) (lv := [0, 1, 2, 6, 7, 8, 9, 23, 27, 47, 50, 63, 67]) [9] [] [] (fun k : Nat => [.v (.int .i64 k)]) (fun k => []) (fun k => k ≤ j ∧ ∀ q, q < k → kR L q ≠ kR L j) (fun k => j - k) ?_
      conv => whnf
      refine ⟨⟨0, ⟨rfl, rfl, rfl⟩, Nat.zero_le _, fun q h => by omega⟩, fun k ⟨hk, hq⟩ => ?_⟩
      conv => whnf
      refine ifB_dec (fun h2 => ?_) (fun h2 => ?_)
      · replace h2 : (k : Int) < j := h2
        have hkk : kR L k = xs.getD (k * 2) 0 := by unfold kR; rw [hLg k (by omega)]
        have E2 : 0 + (k : Int).toNat * (1 + 1) = k * 2 := by omega
        conv => whnf
        repeat (refine And.intro (by omega) ?_; conv => whnf)
        rw [E0, E2, ← hkk, ← hkj]
        refine ifB_eq (x := kR L k) (y := kR L j) (fun he => ?_) (fun he => ?_)
        · have hnp : ¬ L.Pairwise fun a b => a.1 ≠ b.1 := fun q => pw_at q (i := k) (j := j) (by omega) (by omega) he
          have e : bldE n 2 L = 1 := by
            unfold bldE
            rw [if_neg (by omega), if_pos (.inr hnp)]
          have e1 : bldW n 2 L = [] := by unfold bldW; rw [e, if_neg (by decide)]
          conv => whnf
          rw [e, e1]
          repeat' (first | exact trivial | exact rfl | (refine And.intro ?_ ?_) | ((conv => whnf); done) | ((conv => whnf); (first | rfl | (refine congrArg (fun b => T.v (Value.bool b)) ?_; first | rfl | exact (decide_eq_true (by omega)).symm | exact (decide_eq_false (by omega)).symm | exact decide_eq_decide.2 (by omega)) | (refine congrArg (fun b => T.v (Value.int _ b)) ?_; first | rfl | omega) | omega)) | (first | rfl | (refine congrArg (fun b => T.v (Value.bool b)) ?_; first | rfl | exact (decide_eq_true (by omega)).symm | exact (decide_eq_false (by omega)).symm | exact decide_eq_decide.2 (by omega)) | (refine congrArg (fun b => T.v (Value.int _ b)) ?_; first | rfl | omega) | omega))
        · conv => whnf
          rw [wsucc (j := k) (n := m) (by omega) w2]
          refine ⟨k + 1, [], ⟨rfl, rfl, rfl⟩, ⟨(by omega : k + 1 ≤ j), fun q hq1 => ?_⟩, by dsimp only; omega⟩
          by_cases z : q = k
          · rw [z]; exact he
          · exact hq q (by omega)
      · replace h2 : ¬ (k : Int) < j := h2
        have hkj2 : k = j := by omega
        subst hkj2
        conv => whnf
        rw [wsucc (j := k) (n := m) (by omega) w2]
        refine ⟨k + 1, [], ⟨rfl, rfl, rfl⟩, ⟨(by omega : k + 1 ≤ m), fun i hi => ?_, fun i q h3 h4 => ?_⟩, by dsimp only; omega⟩
        · by_cases z : i = k
          · rw [z]; exact good
          · exact hg i (by omega)
        · by_cases z : i = k
          · rw [z]; exact hq q (by omega)
          · exact hd i q h3 (by omega)
  · replace h : ¬ (j : Int) < m := h
    have hjm : j = m := by omega
    subst hjm
    have hgood : ¬ ∃ r ∈ L, badR 2 r = true := by
      rintro ⟨r, hr, hb⟩
      obtain ⟨i, hi, rfl⟩ := List.getElem_of_mem hr
      have := hg i (by omega)
      unfold gR at this
      rw [List.getD_eq_getElem?_getD, List.getElem?_eq_getElem hi] at this
      rw [show ((some L[i]).getD (0, 0)) = L[i] from rfl, hb] at this
      cases this
    have hnd : L.Pairwise fun a b => a.1 ≠ b.1 := pw_of_at fun i k h1 h2 => hd k i h1 (by omega)
    conv => whnf
    refine ifB_dec (fun hf => ?_) (fun hf => ?_)
    · have e0 : bldE n 2 L = 11 := by unfold bldE; rw [if_neg (by omega), if_neg (fun q => q.elim hgood (fun q => q hnd)), if_pos (by omega)]
      have e1 : bldW n 2 L = [] := by unfold bldW; rw [e0, if_neg (by decide)]
      conv => whnf
      rw [e0, e1]
      repeat' (first | exact trivial | exact rfl | (refine And.intro ?_ ?_) | ((conv => whnf); done) | ((conv => whnf); (first | rfl | (refine congrArg (fun b => T.v (Value.bool b)) ?_; first | rfl | exact (decide_eq_true (by omega)).symm | exact (decide_eq_false (by omega)).symm | exact decide_eq_decide.2 (by omega)) | (refine congrArg (fun b => T.v (Value.int _ b)) ?_; first | rfl | omega) | omega)) | (first | rfl | (refine congrArg (fun b => T.v (Value.bool b)) ?_; first | rfl | exact (decide_eq_true (by omega)).symm | exact (decide_eq_false (by omega)).symm | exact decide_eq_decide.2 (by omega)) | (refine congrArg (fun b => T.v (Value.int _ b)) ?_; first | rfl | omega) | omega))
    · have e0 : bldE n 2 L = 0 := by unfold bldE; rw [if_neg (by omega), if_neg (fun q => q.elim hgood (fun q => q hnd)), if_neg (by omega)]
      have e1 : bldW n 2 L = flat 2 (laid sP n L) := by unfold bldW; rw [e0, if_pos rfl]; rfl
      have hrec : Recs sP L := ⟨hu, fun r hr h0 => hgood ⟨r, hr, by simp [badR, h0]⟩, hnd⟩
      have hln : (flat 2 (laid sP n L)).length = n * 2 := by rw [flat_len (by decide), (laid_ok hrec (by omega)).1.len]
      conv => whnf
      rw [hL]
      refine And.intro ⟨by omega, ⟨by omega, by omega⟩, by omega, hrec⟩ ?_
      conv => whnf
      rw [e0, e1, hln]
      repeat' (first | exact trivial | exact rfl | (refine And.intro ?_ ?_) | ((conv => whnf); done) | ((conv => whnf); (first | rfl | (refine congrArg (fun b => T.v (Value.bool b)) ?_; first | rfl | exact (decide_eq_true (by omega)).symm | exact (decide_eq_false (by omega)).symm | exact decide_eq_decide.2 (by omega)) | (refine congrArg (fun b => T.v (Value.int _ b)) ?_; first | rfl | omega) | omega)) | (first | rfl | (refine congrArg (fun b => T.v (Value.bool b)) ?_; first | rfl | exact (decide_eq_true (by omega)).symm | exact (decide_eq_false (by omega)).symm | exact decide_eq_decide.2 (by omega)) | (refine congrArg (fun b => T.v (Value.int _ b)) ?_; first | rfl | omega) | omega))
set_option maxRecDepth 100000 in
theorem rbuild0_pure (n w : Int) (m : Nat) (xs : List Int) (h0 : n < 1 ∨ 1024 < n ∨ (w ≠ 1 ∧ w ≠ 2)) : Pure Tryz.prog glR 74 [.v (.int .i64 n), .v (.int .i64 w), .fl [.u64, .u64] m xs] (.tup [.ow 0 1 (bldW n w (recs m 2 xs)).length, .v (.int .i64 (bldE n w (recs m 2 xs)))]) [(0, .fl [.u64] (bldW n w (recs m 2 xs)))] := by
  have e0 : bldE n w (recs m 2 xs) = 1 := by unfold bldE; rw [if_pos h0]
  have e1 : bldW n w (recs m 2 xs) = [] := by unfold bldW; rw [e0, if_neg (by decide)]
  refine pure_of (C := ctxRB Tryz.prog) ctxRB_good Tryz.func74 (c := bodyOf Tryz.f74) (by rfl) (Nat.le_of_ble_eq_true (by rfl)) 4 0 [0, 1, 2, 6, 7, 8, 9, 23, 27, 47, 50, 63, 67] ?_
  conv => whnf
  rw [e0, e1]
  repeat' (first | (refine ifB_t (by assumption) ?_; conv => whnf) | (refine ifB_f (by assumption) ?_; conv => whnf) | (refine ifB_dec (fun h => ?_) (fun h => ?_) <;> (first | (exfalso; omega) | (conv => whnf))) | (refine ifB_eq (fun h => ?_) (fun h => ?_) <;> (first | (exfalso; omega) | (conv => whnf))) | (refine ifB_ne (fun h => ?_) (fun h => ?_) <;> (first | (exfalso; omega) | (conv => whnf))) | (refine ifB_not ?_; conv => whnf) | (refine ifB_and ?_; conv => whnf) | (refine ifB_or ?_; conv => whnf) | (refine And.intro ?_ ?_; (first | omega | assumption | (exact allU_getD (by assumption) _) | (simp only [cutL]; omega) | (refine And.intro ?_ ?_ <;> first | assumption | exact allU_getD (by assumption) _) | (simp only [cutL, IntKind.wrap_u64, IntKind.wrap_i64] at *; omega) | decide); conv => whnf))
  all_goals repeat' (first | exact trivial | exact rfl | (refine And.intro ?_ ?_) | ((conv => whnf); done) | ((conv => whnf); (first | rfl | (refine congrArg (fun b => T.v (Value.bool b)) ?_; first | rfl | exact (decide_eq_true (by omega)).symm | exact (decide_eq_false (by omega)).symm | exact decide_eq_decide.2 (by omega)) | (refine congrArg (fun b => T.v (Value.int _ b)) ?_; first | rfl | omega) | omega)) | (first | rfl | (refine congrArg (fun b => T.v (Value.bool b)) ?_; first | rfl | exact (decide_eq_true (by omega)).symm | exact (decide_eq_false (by omega)).symm | exact decide_eq_decide.2 (by omega)) | (refine congrArg (fun b => T.v (Value.int _ b)) ?_; first | rfl | omega) | omega))
theorem rbuild_pure (n w : Int) (m : Nat) (xs : List Int) (hm : m ≤ 1100) (hu : ∀ r ∈ recs m 2 xs, sP.U r.1) : Pure Tryz.prog glR 74 [.v (.int .i64 n), .v (.int .i64 w), .fl [.u64, .u64] m xs] (.tup [.ow 0 1 (bldW n w (recs m 2 xs)).length, .v (.int .i64 (bldE n w (recs m 2 xs)))]) [(0, .fl [.u64] (bldW n w (recs m 2 xs)))] := by
  by_cases h0 : n < 1 ∨ 1024 < n ∨ (w ≠ 1 ∧ w ≠ 2)
  · exact rbuild0_pure n w m xs h0
  · obtain ⟨k, rfl⟩ := Int.eq_ofNat_of_zero_le (a := n) (by omega)
    have hw : w = 1 ∨ w = 2 := by omega
    rcases hw with rfl | rfl
    · exact rbuild1_pure k m xs (by omega) (by omega) hm hu
    · exact rbuild2_pure k m xs (by omega) (by omega) hm hu
noncomputable def eRBuild : Entry := ⟨74, 4, fun l => match l with
  | [.v (.int .i64 n), .v (.int .i64 w), .fl [.u64, .u64] m xs] => some (some (m ≤ 1100 ∧ ∀ r ∈ recs m 2 xs, sP.U r.1), .tup [.ow 0 1 (bldW n w (recs m 2 xs)).length, .v (.int .i64 (bldE n w (recs m 2 xs)))], [(0, .fl [.u64] (bldW n w (recs m 2 xs)))])
  | [.v (.int .i64 n), .v (.int .i64 w), .v (.slice none 0 0)] => some (none, .tup [.ow 0 1 (bldW n w []).length, .v (.int .i64 (bldE n w []))], [(0, .fl [.u64] (bldW n w []))])
  | _ => none⟩
theorem recs_none : recs 0 2 [] = [] := List.eq_nil_of_length_eq_zero (recs_len 0 2 [])
theorem eRBuild_ok : eRBuild.ok Tryz.prog glR := ⟨Am.enters_of Tryz.func74 (by kernel_rfl) (by kernel_rfl), by
  intro args c t bs h hc
  simp only [eRBuild] at h
  split at h <;> cases h
  · replace hc := hc _ rfl
    exact rbuild_pure _ _ _ _ hc.1 hc.2
  · rename_i n w
    have := rbuild_pure n w 0 [] (by omega) (fun r hr => by rw [recs_none] at hr; cases hr)
    rw [recs_none] at this
    exact pure_nilL (pre := [_, _]) (ks := [.u64, .u64]) this⟩
/-! ### right, found, listed -/
attribute [local irreducible] bldE bldW rightB sortI nzs
end Go.Proofs.YtnplgklnkcjmnaaGreatDoor.PrT
namespace Go.Proofs.YtnplgklnkcjmnaaGreatDoor.PrT
open Go.RowKit Go.Proofs.YtnplgklnkcjmnaaGreatDoor.Am Go.Proofs.YtnplgklnkcjmnaaGreatDoor
set_option linter.unusedVariables false
set_option linter.unusedSimpArgs false


attribute [local irreducible] bldE bldW rightB sortI nzs recs oth laid
theorem oth_len_le (l : List R) (key : Int) : (oth l key).length ≤ l.length := by unfold oth; exact List.length_filter_le _ _
end Go.Proofs.YtnplgklnkcjmnaaGreatDoor.PrT
namespace Go.Proofs.YtnplgklnkcjmnaaGreatDoor.PrT
open Go.RowKit Go.Proofs.YtnplgklnkcjmnaaGreatDoor.Am Go.Proofs.YtnplgklnkcjmnaaGreatDoor
set_option linter.unusedVariables false
set_option linter.unusedSimpArgs false

/-- A right table's words. -/
structure Tb (n v : Nat) (t : List Int) : Prop where
  ok : Ok sP n (recs n v t)
  len : t.length = n * v
  u : AllU t
theorem allU_flat {v : Nat} {T : List R} (h : ∀ r ∈ T, U64 r.1 ∧ U64 r.2) : AllU (flat v T) := by
  intro x hx
  unfold flat at hx
  rw [List.mem_flatMap] at hx
  obtain ⟨r, hr, hx⟩ := hx
  unfold wd at hx
  split at hx
  · rw [List.mem_singleton.1 hx]; exact (h r hr).1
  · rcases List.mem_cons.1 hx with e | hx
    · rw [e]; exact (h r hr).1
    · rw [List.mem_singleton.1 hx]; exact (h r hr).2
theorem laid_mem {n : Nat} {l : List R} (hr : Recs sP l) (hl : l.length ≤ n) {r : R} (h : r ∈ laid sP n l) : r = (0, 0) ∨ r ∈ l := by
  obtain ⟨g1, g2⟩ := laid_ok hr hl
  by_cases hk : r.1 = 0
  · obtain ⟨j, hj, rfl⟩ := List.getElem_of_mem h
    have hz := g1.zer j (by rw [← g1.len]; exact hj)
    unfold kR gR at hz
    rw [List.getD_eq_getElem?_getD, List.getElem?_eq_getElem hj] at hz
    exact .inl (hz hk)
  · exact .inr ((g2 r).1 ((In_nzs g1.len r).2 (nzs_mem.2 ⟨h, hk⟩)))
theorem laid_recs {n v : Nat} (hv : v = 1 ∨ v = 2) {l : List R} (hr : Recs sP l) (hl : l.length ≤ n) (h1 : v = 1 → ∀ r ∈ l, r.2 = 0) : recs n v (flat v (laid sP n l)) = laid sP n l := by
  refine recs_flat hv (laid_ok hr hl).1.len fun q r hm => ?_
  rcases laid_mem hr hl hm with e | e
  · rw [e]
  · exact h1 q r e
theorem tb_laid {n v : Nat} (hv : v = 1 ∨ v = 2) {l : List R} (hr : Recs sP l) (hl : l.length ≤ n) (h1 : v = 1 → ∀ r ∈ l, r.2 = 0) (h2 : ∀ r ∈ l, U64 r.2) : Tb n v (flat v (laid sP n l)) := by
  refine ⟨by rw [laid_recs hv hr hl h1]; exact (laid_ok hr hl).1, by rw [flat_len hv, (laid_ok hr hl).1.len], allU_flat fun r hm => ?_⟩
  rcases laid_mem hr hl hm with e | e
  · rw [e]; exact ⟨⟨by decide, by decide⟩, ⟨by decide, by decide⟩⟩
  · exact ⟨by have := hr.u r e; rwa [sP_U] at this, h2 r e⟩
section
variable {n v : Nat} {t : List Int}
theorem Tb.facts (h : Tb n v t) (hv : v = 1 ∨ v = 2) (hn0 : 0 < n) (hn : n ≤ 1024) : rightB v t = true ∧ shN v t = n ∧ rcs v t = nzs (recs n v t) := by
  have hdv : t.length / v = n := by rw [h.len]; exact Nat.mul_div_cancel _ (by omega)
  have hok : okN v t.length := by
    refine ⟨⟨by omega, ?_⟩, ?_, ?_⟩
    · rw [Int.toNat_natCast, h.len]; exact Nat.mul_mod_left _ _
    · rw [Int.toNat_natCast, hdv]; exact hn0
    · rw [Int.toNat_natCast, hdv]; exact hn
  obtain ⟨n', v', hv', e, hn', hl', f1, f2, f3, f4⟩ := ok_facts hok
  obtain rfl : v = v' := by omega
  have hnn : n' = n := by
    have h0 : n * v = n' * v := by rw [← h.len, hl']
    exact (Nat.eq_of_mul_eq_mul_right (by omega) h0).symm
  subst hnn
  exact ⟨f4.2 h.ok, f2, by unfold rcs; rw [f2, Int.toNat_natCast]⟩
theorem recs_u (h : AllU t) : ∀ r ∈ recs n v t, U64 r.1 ∧ U64 r.2 := by
  intro r hr
  unfold recs at hr
  obtain ⟨i, _, rfl⟩ := List.mem_map.1 hr
  refine ⟨allU_getD h _, ?_⟩
  dsimp only
  split
  · exact ⟨by decide, by decide⟩
  · exact allU_getD h _
theorem Tb.nil (hv : v = 1 ∨ v = 2) (hn0 : 0 < n) (hn : n ≤ 1024) : bldE n v [] = 0 ∧ bldW n v [] = flat v (laid sP n []) ∧ Tb n v (bldW n v []) := by
  have e0 : bldE n v [] = 0 := by
    unfold bldE
    rw [if_neg (by omega), if_neg (fun q => q.elim (fun ⟨r, hr, _⟩ => by cases hr) (fun q => q List.Pairwise.nil)), if_neg (by simp)]
  have e1 : bldW n v [] = flat v (laid sP n []) := by
    unfold bldW; rw [e0, if_pos rfl, Int.toNat_natCast, Int.toNat_natCast]
  refine ⟨e0, e1, ?_⟩
  rw [e1]
  exact tb_laid hv ⟨fun r hr => (by cases hr), fun r hr => (by cases hr), List.Pairwise.nil⟩ (Nat.zero_le _) (fun _ r hr => (by cases hr)) (fun r hr => (by cases hr))
/-- What Put makes of a right table. -/
theorem Tb.put (h : Tb n v t) (hv : v = 1 ∨ v = 2) (hn0 : 0 < n) (hn : n ≤ 1024) {key val : Int} (hku : U64 key) (hk : key ≠ 0) (hvu : U64 val) (hv1 : v = 1 → val = 0) :
    Tb n v (putL v t key val) ∧ ((putE v t key val = 11 ∧ putL v t key val = t ∧ n < (oth (nzs (recs n v t)) key).length + 1) ∨
      (putE v t key val = 0 ∧ putL v t key val = flat v (laid sP n (oth (nzs (recs n v t)) key ++ [(key, val)])) ∧ (oth (nzs (recs n v t)) key).length + 1 ≤ n ∧ recs n v (putL v t key val) = laid sP n (oth (nzs (recs n v t)) key ++ [(key, val)]))) := by
  obtain ⟨hr, f2, f3⟩ := h.facts hv hn0 hn
  have hpE := putE_right (val := val) hv hr f2 hk hv1
  have hpL := putL_right (val := val) f2 (key := key) (v := v)
  by_cases hf : n < (oth (nzs (recs n v t)) key).length + 1
  · rw [if_pos hf] at hpE
    rw [hpE, if_neg (by decide)] at hpL
    rw [hpL]
    exact ⟨h, .inl ⟨hpE, rfl, hf⟩⟩
  · rw [if_neg hf] at hpE
    rw [hpE, if_pos rfl] at hpL
    have hpr := put_recs h.ok hku hk (val := val)
    have hl : (oth (nzs (recs n v t)) key ++ [(key, val)]).length ≤ n := by simp; omega
    have hm : ∀ r ∈ oth (nzs (recs n v t)) key ++ [(key, val)], r ∈ recs n v t ∨ r = (key, val) := fun r hr => by
      rcases List.mem_append.1 hr with q | q
      · exact .inl (nzs_mem.1 (oth_mem.1 q).1).1
      · exact .inr (List.mem_singleton.1 q)
    have g1 : v = 1 → ∀ r ∈ oth (nzs (recs n v t)) key ++ [(key, val)], r.2 = 0 := fun q r hr => by
      rcases hm r hr with z | z
      · exact recs_nv n v t q r z
      · rw [z]; exact hv1 q
    rw [hpL]
    exact ⟨tb_laid hv hpr hl g1 fun r hr => by
      rcases hm r hr with z | z
      · exact (recs_u h.u r z).2
      · rw [z]; exact hvu, .inr ⟨hpE, rfl, by omega, laid_recs hv hpr hl g1⟩⟩
/-- What Del makes of a right table. -/
theorem Tb.del (h : Tb n v t) (hv : v = 1 ∨ v = 2) (hn0 : 0 < n) (hn : n ≤ 1024) {key : Int} (hk : key ≠ 0) :
    Tb n v (delL v t key) ∧ ((delE v t key = 12 ∧ delL v t key = t ∧ ¬ ∃ r ∈ nzs (recs n v t), r.1 = key) ∨
      (delE v t key = 0 ∧ (∃ r ∈ nzs (recs n v t), r.1 = key) ∧ recs n v (delL v t key) = laid sP n (oth (nzs (recs n v t)) key))) := by
  obtain ⟨hr, f2, f3⟩ := h.facts hv hn0 hn
  have hE : delE v t key = if ∃ r ∈ nzs (recs n v t), r.1 = key then 0 else 12 := by
    unfold delE; rw [if_neg (fun q => q.elim (fun q => q hr) hk), f3]
  have hL : delL v t key = if delE v t key = 0 then flat v (laid sP n (oth (nzs (recs n v t)) key)) else t := by
    unfold delL; rw [f3, f2, Int.toNat_natCast]
  by_cases hex : ∃ r ∈ nzs (recs n v t), r.1 = key
  · rw [if_pos hex] at hE
    rw [hE, if_pos rfl] at hL
    have hpr : Recs sP (oth (nzs (recs n v t)) key) := h.ok.recs.of_mem (fun x hx => (oth_mem.1 hx).1) (h.ok.recs.nd.sublist List.filter_sublist)
    have hl : (oth (nzs (recs n v t)) key).length ≤ n := by
      have := oth_len_le (nzs (recs n v t)) key; have h2 := nzs_len (recs n v t); rw [recs_len] at h2; omega
    have g1 : v = 1 → ∀ r ∈ oth (nzs (recs n v t)) key, r.2 = 0 := fun q r hr => recs_nv n v t q r (nzs_mem.1 (oth_mem.1 hr).1).1
    rw [hL]
    exact ⟨tb_laid hv hpr hl g1 fun r hr => (recs_u h.u r (nzs_mem.1 (oth_mem.1 hr).1).1).2, .inr ⟨hE, hex, laid_recs hv hpr hl g1⟩⟩
  · rw [if_neg hex] at hE
    rw [hE, if_neg (by decide)] at hL
    rw [hL]
    exact ⟨h, .inl ⟨hE, rfl, hex⟩⟩
end
/-! ### the law's own functions -/
attribute [local irreducible] putL putE bldW bldE ipick
end Go.Proofs.YtnplgklnkcjmnaaGreatDoor.PrT
