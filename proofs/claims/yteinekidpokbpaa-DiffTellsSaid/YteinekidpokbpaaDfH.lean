/- slices.Grow of nothing, and the sorted keys of a map, as the machine takes them. -/
import Derived.Test.YteinekidpokbpaaDfG
import Derived.Shelf.Spec.SlicesGrow
import Derived.Ground.Names8Prog
import Derived.Shelf.SlIterI.Nil
import Derived.Shelf.SortM.Plain
import Derived.Shelf.SortM.SortNone
import Derived.Ground.GgzProg
import Derived.Ground.SlgmProg
import Derived.Shelf.Lay
namespace Go.Proofs
open Go.Shelf
/-- slices.Grow's numbers. -/
def growR : Ren := ⟨fun _ => 33, fun t => match t with | 3 => 3 | 4 => 4 | 9 => 9 | 20 => 20 | 22 => 23 | 25 => 48 | _ => 0, fun g => g⟩
theorem Try.growL : Lays8.n4 Try.prog growR where
  mixed := by kernel_rfl
  f4 := ⟨"slices.Grow[[]whitewash/api.Write,whitewash/api.Write]", by kernel_rfl, by kernel_rfl⟩
  t0 := by kernel_rfl
  a0 := by intro w; kernel_rfl
  z0 := by intro w; kernel_rfl
  v0 := by intro w; kernel_rfl
  t3 := by kernel_rfl
  a3 := by intro w; kernel_rfl
  z3 := by intro w; kernel_rfl
  v3 := by intro w; kernel_rfl
  t4 := by kernel_rfl
  a4 := by intro w; kernel_rfl
  z4 := by intro w; kernel_rfl
  v4 := by intro w; kernel_rfl
  t9 := by kernel_rfl
  a9 := by intro w; kernel_rfl
  z9 := by intro w; kernel_rfl
  v9 := by intro w; kernel_rfl
  t20 := by kernel_rfl
  a20 := by intro w; kernel_rfl
  z20 := by intro w; kernel_rfl
  v20 := by intro w; kernel_rfl
  t22 := by kernel_rfl
  a22 := by intro w; kernel_rfl
  z22 := by intro w; kernel_rfl
  v22 := by intro w; kernel_rfl
shelf_lay_g SlLaysZI.n7 Ggz 7 at Try 30 as Try.keysL
shelf_lay_g SlLaysZI.n6 Ggz 6 at Try 29 as Try.sortedL
shelf_lay_g SlLaysM.n5 Slgm 5 at Try 35 as Try.sortL
end Go.Proofs
namespace Go.Proofs.Yteinekidpokbpaa.DfT
open Go.Shelf Go.RowKit Go.Lib Go.Sort Go.Maps Go.Proofs.Yteinekidpokbpaa.Am Go.Proofs.Yteinekidpokbpaa Go.Proofs.Yteinekidpokbpaa.PrT
set_option linter.unusedVariables false
set_option linter.unusedSimpArgs false
/-! ### slices.Grow -/
theorem infoW : (Try.prog.info? 48).map (fun i => (i.zero, i.size, i.bytes)) = some (some (.agg #[.int .i64 0, .int .u64 0]), 2, 16) := by kernel_rfl
theorem grow_no (w : World) : Calls Try.prog 33 #[.slice none 0 0, .int .i64 0] w fun e w' => e = .returned (.slice none 0 0) ∧ w' = w :=
  Any8.slices_Grow_room Try.growL none 0 0 0 w (by omega) (by omega) (by omega) (by omega)
theorem grow_yes (n : Nat) (hn : 0 < n) (hb : n ≤ 100000) (w : World) : Calls Try.prog 33 #[.slice none 0 0, .int .i64 n] w fun e w' =>
    ∃ c vs, n ≤ c ∧ c ≤ 9223372036854775807 ∧ vs.size = c * 2 ∧ e = .returned (.slice (some ⟨w.heap.size, 0, none⟩) 0 c) ∧ w' = w.drew.alloc (.cells vs 48) := by
  obtain ⟨i0, hi, hz0, hz1, hz2⟩ := info_parts infoW
  refine (Any8.slices_Grow_grow Try.growL i0 _ hi hz0 (by omega) none 0 0 n [] w (by omega) (by omega) (by rw [hz2]; omega) (by omega) (by simp) (fun _ => rfl) (fun a h => by cases h)).mono ?_
  rintro e w' ⟨rfl, rfl⟩
  refine ⟨_, _, ?_, ?_, ?_, rfl, rfl⟩
  · show n ≤ grownCap w (0 + n) 0 48
    have := grownCap_ge w (0 + n) 0 48
    omega
  · have := grownCap_le_maxLen w (0 + n) 0 48 (by unfold maxLen; omega)
    exact Nat.le_trans this (by decide)
  · have := grownCap_ge w (0 + n) 0 48
    rw [Array.size_append, Array.size_append, size_zeroCells, size_zeroCells]
    show 0 + (0 + n - 0) * 2 + (grownCap w (0 + n) 0 48 - (0 + n)) * 2 = grownCap w (0 + n) 0 48 * 2
    omega
theorem news_none {g : Mem} {k : Nat} (h : news g k = true) : g k = none := by
  unfold news at h
  simp only [Bool.and_eq_true] at h
  exact isNew_none h.1.1.1
def rGrow : Raw := ⟨33, fun key args g => match args with
  | [.v (.slice none 0 0), .v (.int .i64 n)] => some ⟨some (0 ≤ n ∧ n ≤ 100000), .ow key 2 0, [(key, .fl [.i64, .u64] [])]⟩
  | _ => none⟩
theorem rGrow_ok : rGrow.ok Try.prog := ⟨Am.enters_of Try.func33 (by kernel_rfl) (by kernel_rfl), by
  intro key args g g' h
  rfl, by
  intro key args g o w0 w O m vs hs hok hnw h ha
  simp only [rGrow] at hs
  split at hs
  · rename_i n
    cases hs
    obtain ⟨h0, h1⟩ := hok _ rfl
    obtain ⟨n, rfl⟩ := Int.eq_ofNat_of_zero_le h0
    have hk := news_none hnw
    cases ha with
    | cons a1 a2 =>
      cases a2 with
      | cons a3 a4 =>
        cases a4
        obtain rfl := a1.v_inv.1
        obtain rfl := a3.v_inv.1
        have hlk : ∀ B : Blk, lens (upd g [(key, B)]) key = some B.len? := fun B => by rw [lens_upd, if_pos rfl]
        by_cases hn : n = 0
        · subst hn
          refine (grow_no w).mono ?_
          rintro e w' ⟨rfl, hw'⟩
          rw [hw']
          have hb := Below.refl w.heap.size w
          have hn : ∀ q, (none : Option Nat) = some q → w.heap.size ≤ q := fun q e => by cases e
          have N := HR.newB (b := .fl [.i64, .u64] []) (n := none) h hb hk hn ⟨by simp, rfl⟩
          exact ⟨_, rfl, _, N, Goes.new h hb hk hn, .ow (.os0 (hlk _) (by simp) (by omega)) (.inr (hlk _))⟩
        · refine (grow_yes n (by omega) (by omega) w).mono ?_
          rintro e w' ⟨c, cs, hc1, hc2, hcs, rfl, rfl⟩
          have hb : Below w.heap.size w (w.drew.alloc (.cells cs 48)) := (show Below w.heap.size w w.drew from ⟨rfl, rfl, rfl, Nat.le_refl _, fun _ _ => rfl⟩).trans ((Below.refl _ w.drew).alloc (Nat.le_refl _) _)
          have hn2 : ∀ q, some w.heap.size = some q → w.heap.size ≤ q := fun q e => by cases e; exact Nat.le_refl _
          have hat : (w.drew.alloc (.cells cs 48)).heap[w.heap.size]? = some (.cells cs 48 (0, 0)) := (MapKept.heap_alloc w.drew _).1
          have hroom : ∀ q, q ≤ c * 2 → Room (w.drew.alloc (.cells cs 48)) w.heap.size q := fun q hq => ⟨_, hat, by show q ≤ cs.size; omega⟩
          have hfrz : NoFrz (w.drew.alloc (.cells cs 48)) w.heap.size := fun o => by unfold World.frozen?; dsimp only; rw [hat]; simp
          have N := HR.newB (b := .fl [.i64, .u64] []) (n := some w.heap.size) h hb hk hn2 ⟨by simp, hroom _ (Nat.zero_le _), hfrz, fun i x hx => by cases hx⟩
          refine ⟨_, rfl, _, N, Goes.new h hb hk hn2, .ow ?_ (.inr (hlk _))⟩
          exact TV.os (off := 0) (n := 0) (hlk _) (by unfold mk1; rw [if_pos rfl]) (by simp) ⟨Nat.zero_le _, by omega⟩ (by omega) (hroom _ (by omega))
  · cases hs⟩
/-! ### slices.Sorted of a map's keys -/
theorem sortsIn (m : Nat) : AnyZI.SortsIn Try.prog Try.sortedL_ren Fence.wide m :=
  ⟨fun blk off cap ss W hH hblk hsz => callsIn_wide.2 (AnyM.slices_Sort_int Try.sortL blk off cap ss W hH hblk hsz),
   fun p cap W => callsIn_wide.2 (AnyM.slices_Sort_int_none Try.sortL p cap W)⟩
/-- Keys of a map, sorted. -/
def srtI (es : List R) : List Int := (es.map (·.1)).mergeSort leI
theorem srtI_len (es : List R) : (srtI es).length = es.length := by unfold srtI; rw [List.length_mergeSort, List.length_map]
def noR : Value → Option (DataW Unit × List MemPlace) := fun _ => some (.nil, [])
theorem rg_key {k : TypeId} (hk : Try.prog.underlying k = some (.int .i64)) {x : MapEntry} {a : Int} (hx : x.key = .int .i64 a) (ha : I64 a) : WideElems.rd Try.prog k noR x = some (.int .i64 a, .nil) := by
  have hw : (Lit.int .i64 a).wf = true := by
    obtain ⟨h1, h2⟩ := ha
    show (decide (IntKind.i64.min ≤ a) && decide (a ≤ IntKind.i64.max)) = true
    have e1 : IntKind.i64.min = -9223372036854775808 := rfl
    have e2 : IntKind.i64.max = 9223372036854775807 := rfl
    rw [e1, e2]; simp [h1, h2]
  unfold WideElems.rd
  rw [hx, keyOf_int_mk hk hw]; rfl
theorem owns_mp {w : World} {b : Nat} {ms : Array MapEntry} {c : Nat} {es : List R} {k : TypeId} (hk : Try.prog.underlying k = some (.int .i64)) (h1 : w.heap[b]? = some (.map ms c)) (h2 : ms.toList.map (fun e => (e.key, e.val)) = es.map fun p => (Value.int .i64 p.1, mval (.some .u64) p.2)) (h3 : MapKept.Stamped ms c) (hl : es.length ≤ 100000) (hi : ∀ p ∈ es, I64 p.1) :
    ∃ D : DataW Unit, w.ownsMap Try.prog k noR b ms.size D ∧ (intKeys D).Perm (es.map (·.1)) ∧ Maps.size D = es.length := by
  have hsz : ms.size = es.length := by have := congrArg List.length h2; simpa using this
  have hkey : ∀ x ∈ ms.toList, ∃ a, x.key = .int .i64 a ∧ I64 a := fun x hx => by
    have : (x.key, x.val) ∈ ms.toList.map (fun e => (e.key, e.val)) := List.mem_map.2 ⟨x, hx, rfl⟩
    rw [h2] at this
    obtain ⟨p, hp, e⟩ := List.mem_map.1 this
    exact ⟨p.1, (congrArg Prod.fst e).symm, hi p hp⟩
  refine ⟨_, ⟨ms, c, h1, ⟨by unfold maxLen; omega, h3, fun x hx => ?_⟩, Nat.le_refl _, rfl⟩, ?_, ?_⟩
  · obtain ⟨a, e, ha⟩ := hkey x hx
    exact ⟨_, rg_key hk e ha⟩
  · show (((ms.toList.map (WideElems.rg Try.prog k noR)).foldr DataW.insert []).map fun p : Lit × DataW Unit => Go.intOf p.1).Perm _
    refine ((WideShapes.sorted_perm _).map _).trans ?_
    rw [List.map_map]
    have e : ms.toList.map ((fun p : Lit × DataW Unit => Go.intOf p.1) ∘ WideElems.rg Try.prog k noR) = es.map (·.1) := by
      have e1 : ms.toList.map ((fun p : Lit × DataW Unit => Go.intOf p.1) ∘ WideElems.rg Try.prog k noR) = ms.toList.map fun x => match x.key with | .int _ a => a | _ => 0 := by
        refine List.map_congr_left fun x hx => ?_
        obtain ⟨a, e, ha⟩ := hkey x hx
        show Go.intOf (WideElems.rg Try.prog k noR x).1 = _
        unfold WideElems.rg
        rw [rg_key hk e ha, e]; rfl
      rw [e1]
      have e2 := congrArg (List.map fun q : Value × Value => match q.1 with | .int _ a => a | _ => 0) h2
      rw [List.map_map, List.map_map] at e2
      exact e2
    rw [e]
  · show ((ms.toList.map (WideElems.rg Try.prog k noR)).foldr DataW.insert []).length = _
    rw [(WideShapes.sorted_perm _).length_eq, List.length_map, Array.length_toList, hsz]
theorem sorted_calls (w : World) (bb b : Nat) (ms : Array MapEntry) (c : Nat) (es : List R) (hbb : w.cell? ⟨bb, 0, none⟩ = some (.map (some b))) (hlt : bb < w.heap.size) (h1 : w.heap[b]? = some (.map ms c)) (h2 : ms.toList.map (fun e => (e.key, e.val)) = es.map fun p => (Value.int .i64 p.1, mval (.some .u64) p.2)) (h3 : MapKept.Stamped ms c) (hl : es.length ≤ 100000) (hi : ∀ p ∈ es, I64 p.1) :
    Calls Try.prog 29 #[.func (.func 36) #[] #[.pointer (some ⟨bb, 0, none⟩)]] w fun e w' => ∃ v, e = .returned v ∧ w'.ownsRow w.heap.size 3 1 v es.length ((srtI es).map encZ) ∧ Below w.heap.size w w' := by
  obtain ⟨D, hown, hperm, hsz⟩ := owns_mp (k := 3) (by kernel_rfl) h1 h2 h3 hl hi
  have hseq : SeqGives Fence.wide (5 - 1 - 1 - 1) Try.prog 36 #[.pointer (some ⟨bb, 0, none⟩)] encZ (fun ss => ss.Perm (intKeys D)) (Maps.size D) w :=
    AnyZI.keys_gives (ρ := Try.keysL_ren) { Try.keysL with } Fence.wide _ trivial rfl (by omega) bb b ms.size D w hlt hbb hown
  have cS := AnyZI.sorted_in Try.sortedL Fence.wide 5 trivial trivial trivial trivial rfl (by omega) (sortsIn _) (Am.enters_of Try.func35 (by kernel_rfl) (by kernel_rfl)) 36 #[.pointer (some ⟨bb, 0, none⟩)] trivial (Am.enters_of Try.func36 (by kernel_rfl) (by kernel_rfl)) _ (Maps.size D) (by unfold maxLen; omega) (by omega) w hseq
  refine (callsIn_wide (n := 5)).1 (cS.mono ?_)
  rintro e w' ⟨v, ss, rfl, hS, hrow, hnil, hb⟩
  have hp : ss.Perm (es.map (·.1)) := hS.trans hperm
  have e1 : ss.mergeSort (fun x y => decide (x ≤ y)) = srtI es := mergeSort_of_perm_i hp
  have e2 : ss.length = es.length := by rw [hp.length_eq, List.length_map]
  rw [e1, e2] at hrow
  exact ⟨v, rfl, hrow, hb⟩
/-- The sorted keys of a map. -/
def rSorted : Raw := ⟨29, fun key args g => match args with
  | [.fn (.func f) [] [.op kb b st i _]] => match Nat.beq f 36 with
    | true => match g kb with
      | some (.cs [.mp k]) => match g k with
        | some (.mp .i64 (.some .u64) es) => some ⟨some (b + i * st = 0 ∧ es.length ≤ 100000 ∧ ∀ p ∈ es, I64 p.1), .ow key 1 es.length, [(key, .fl [.i64] (srtI es))]⟩
        | _ => none
      | _ => none
    | false => none
  | _ => none⟩
theorem rSorted_ok : rSorted.ok Try.prog := ⟨Am.enters_of Try.func29 (by kernel_rfl) (by kernel_rfl), by
  intro key args g g' h
  simp only [rSorted]
  split
  · rename_i f kb b st i e
    split
    · have hA := h kb (by simp [keysTs, keysT])
      rw [hA.eq]
      split
      · rename_i k hk
        obtain ⟨d', hd⟩ := hA.cs hk
        rw [(hd k (by simp [keysTs, keysT])).eq]
      · rfl
    · rfl
  · rfl, by
  intro key args g o w0 w O m vs hs hok hnw h ha
  simp only [rSorted] at hs
  split at hs
  · rename_i f kb b st i e
    split at hs
    · rename_i hf
      have hf := Nat.eq_of_beq_eq_true hf
      subst hf
      split at hs
      · rename_i k hgk
        split at hs
        · rename_i es hge
          cases hs
          obtain ⟨h0, hl, hi⟩ := hok _ rfl
          have hk := news_none hnw
          cases ha with
          | cons a1 a2 =>
            cases a2
            cases a1 with
            | fn p1 p2 =>
              rename_i va cs
              cases p1' : va.toList with
              | cons x y => rw [p1'] at p1; cases p1
              | nil =>
                obtain rfl : va = #[] := by cases va; simpa using p1'
                cases p2' : cs.toList with
                | nil => rw [p2'] at p2; cases p2
                | cons y ys =>
                  rw [p2'] at p2
                  cases p2 with
                  | cons q1 q2 =>
                    cases q2
                    obtain rfl : cs = #[y] := by cases cs; simpa using p2'
                    have hlb : lens g kb = some (some 1) := lens_of hgk
                    have hlm : lens g k = some (some 0) := lens_of hge
                    cases q1 with
                    | opx hx => rw [hlb] at hx; cases hx
                    | op hx hm hle =>
                      rename_i l bb
                      rw [h0]
                      have hB := h.blk kb _ hgk
                      rw [hm] at hB
                      obtain ⟨us, ht, b2, b3, b4⟩ := hB
                      cases ht with
                      | cons t1 t2 =>
                        cases t2
                        obtain ⟨n, hmk, rfl⟩ := t1.mp_inv hlm
                        have hM := h.blk k _ hge
                        rw [hmk] at hM
                        obtain ⟨ms, c, m1, m2, m3⟩ := hM
                        have hcell : w.cell? ⟨bb, 0, none⟩ = some (.map (some n)) := b4 0 _ rfl
                        refine (sorted_calls w bb n ms c es hcell b2.lt m1 m2 m3 hl hi).mono ?_
                        rintro e w' ⟨v, rfl, ⟨r1, r2⟩, hb⟩
                        have hlk : ∀ B : Blk, lens (upd g [(key, B)]) key = some B.len? := fun B => by rw [lens_upd, if_pos rfl]
                        have hsl := srtI_len es
                        have hlB : (Blk.fl [IntKind.i64] (srtI es)).len? = some (es.length * 1) := by show some (srtI es).length = _; rw [hsl, Nat.mul_one]
                        rcases r2 with ⟨rfl, z⟩ | ⟨gb, cap, cur, rfl, g1, g2, g3, g4, g5, g6⟩
                        · have hs0 : srtI es = [] := List.eq_nil_of_length_eq_zero (by omega)
                          have hn : ∀ q, (none : Option Nat) = some q → w.heap.size ≤ q := fun q e => by cases e
                          have N := HR.newB (b := .fl [.i64] (srtI es)) (n := none) h hb hk hn ⟨by simp, hs0⟩
                          refine ⟨_, rfl, _, N, Goes.new h hb hk hn, ?_⟩
                          rw [z]
                          exact .ow (.os0 (hlk _) (by simp) (by omega)) (.inr (by rw [hlk, hlB, z]))
                        · have hn : ∀ q, some gb = some q → w.heap.size ≤ q := fun q e => by cases e; exact g1
                          have hroom : ∀ q, q ≤ cap → Room w' gb q := fun q hq => ⟨_, g2, by show q ≤ cur.size; omega⟩
                          have hfrz : NoFrz w' gb := fun o => by unfold World.frozen?; dsimp only; rw [g2]; simp
                          have hfl : FlatAt w' gb 0 [.i64] (srtI es) := fun i x hx => by
                            have hi2 : i < es.length := by rw [← hsl]; exact (List.getElem?_eq_some_iff.1 hx).1
                            have e1 : (cur.toList.take (es.length * 1))[i]? = some (.int .i64 x) := by rw [g6, List.getElem?_map, hx]; rfl
                            rw [List.getElem?_take_of_lt (by omega), Array.getElem?_toList] at e1
                            unfold World.cell?
                            dsimp only
                            rw [g2, Nat.zero_add]
                            simp only [Option.isSome_none, Bool.false_eq_true, if_false]
                            rw [e1]
                            unfold kc; simp [Nat.mod_one]
                          have N := HR.newB (b := .fl [.i64] (srtI es)) (n := some gb) h hb hk hn ⟨by simp, hroom _ (by rw [hsl]; exact g3), hfrz, hfl⟩
                          refine ⟨_, rfl, _, N, Goes.new h hb hk hn, .ow ?_ (.inr (by rw [hlk, hlB]))⟩
                          exact TV.os (off := 0) (hlk _) (by unfold mk1; rw [if_pos rfl]) (by rw [hsl]; omega) ⟨g3, Nat.le_trans g3 (Nat.le_trans g4 (by decide))⟩ (by omega) (hroom _ (by omega))
        · cases hs
      · cases hs
    · cases hs
  · cases hs⟩
end Go.Proofs.Yteinekidpokbpaa.DfT
