/- Texts put together: SlW. -/
import Derived.Test.YtnplgklnkcjmnaaDoorDictLastM3
import Derived.RegionTactic
import Derived.WalkSpells
import Derived.BigQuiet
import Derived.Deep.QuietTactic
namespace Go.Proofs.YtnplgklnkcjmnaaDoor
open Go.RowKit
set_option linter.unusedVariables false
set_option linter.unusedSimpArgs false

/-- Block g, of this call's own (from block base on), holds these integers first, and may be written. -/
def OwnI (k : IntKind) (w : World) (base g len : Nat) (xs : List Int) : Prop :=
  base ≤ g ∧ g < w.heap.size ∧ xs.length = len ∧ (∀ i, w.frozen? ⟨g, i, none⟩ = false) ∧ ∀ i, i < len → w.cell? ⟨g, i, none⟩ = some (.int k (xs.getD i 0))
theorem OwnI.sl {k : IntKind} {w : World} {base g len : Nat} {xs : List Int} (h : OwnI k w base g len xs) : SlI k w (some ⟨g, 0, none⟩) len xs :=
  ⟨h.2.2.1, .inr ⟨g, 0, rfl, h.2.1, fun i hi => by rw [Nat.zero_add]; exact h.2.2.2.2 i hi⟩⟩
theorem OwnI.below {k : IntKind} {w w' : World} {base g len B : Nat} {xs : List Int} (h : OwnI k w base g len xs) (hb : Below B w w') (hB : w.heap.size ≤ B) : OwnI k w' base g len xs :=
  ⟨h.1, Nat.lt_of_lt_of_le h.2.1 hb.size, h.2.2.1, fun i => (hb.frozen (p := ⟨g, i, none⟩) (Nat.lt_of_lt_of_le h.2.1 hB)).trans (h.2.2.2.1 i), fun i hi => (hb.cell (p := ⟨g, i, none⟩) (Nat.lt_of_lt_of_le h.2.1 hB)).trans (h.2.2.2.2 i hi)⟩
theorem getD_map_int {k : IntKind} (xs : List Int) (i : Nat) (h : i < xs.length) : (xs.map (Value.int k))[i]? = some (.int k (xs.getD i 0)) := by
  rw [List.getElem?_map, List.getD_eq_getElem?_getD, List.getElem?_eq_getElem h]; rfl
theorem OwnI.ofRow {k : IntKind} {w : World} {base g cap : Nat} {e : TypeId} {xs : List Int} (h : w.ownsRow base e 1 (.slice (some ⟨g, 0, none⟩) xs.length cap) xs.length (xs.map (Value.int k))) : OwnI k w base g xs.length xs := by
  refine ⟨(h.lt g rfl).1, (h.lt g rfl).2, rfl, fun i => h.frozenAt i, fun i hi => ?_⟩
  rw [h.cellAt i (by omega)]
  exact getD_map_int xs i hi

/-- What Clone leaves: a row of its own, or nil of nil. -/
def ClonePost (w : World) (xs : List Int) (e : Ending) (w' : World) : Prop :=
  ∃ g cap, e = .returned (.slice (some ⟨g, 0, none⟩) xs.length cap) ∧ xs.length ≤ cap ∧ (cap : Int) ≤ 9223372036854775807 ∧ OwnI .u64 w' w.heap.size g xs.length xs ∧ Below w.heap.size w w'
theorem info_u64 : (Tryd.prog.info? 27).map (fun i => (i.zero, i.size, i.bytes)) = some (some (.int .u64 0), 1, 8) := by kernel_rfl
@[go_sem] theorem u64s_nil (b off : Nat) (len cap : Nat) (w : World) : (binOp .eql 31 (.slice (some ⟨b, off, none⟩) len cap) (.slice none 0 0)).run Tryd.prog w = .ok (.bool false) w := by kernel_rfl
@[go_sem] theorem u64s_nilnil (w : World) : (binOp .eql 31 (.slice none 0 0) (.slice none 0 0)).run Tryd.prog w = .ok (.bool true) w := by kernel_rfl

set_option maxRecDepth 10000 in
theorem clone_any (b off len cap : Nat) (xs : List Int) (w : World) (hb : b < w.heap.size) (hl : xs.length = len) (hc : ∀ i, i < len → w.cell? ⟨b, off + i, none⟩ = some (.int .u64 (xs.getD i 0))) (h8 : len * 8 ≤ 140737488351232) :
    Calls Tryd.prog 40 #[.slice (some ⟨b, off, none⟩) len cap] w (ClonePost w xs) := by
  obtain ⟨i0, hi, hz0, hz1, hz2⟩ := info_parts info_u64
  subst hl
  have H8 : Hid _ := h8
  have HC : Hid _ := hc
  clear h8 hc
  go_enter Tryd.func40, Tryd.ntmps40
  have hown : (w.alloc (.cells #[] 27)).ownsRow w.heap.size 27 1 (.slice (some ⟨w.heap.size, 0, none⟩) 0 0) 0 [] := World.ownsRow_made w #[] 0 (Nat.le_refl _) (Nat.zero_le _) rfl
  go_wp2_with (at_builtin; go_must (refine wpList_append_own _ rfl (.tmp 5) (.tmp 6) 31 rfl w.heap.size 27 i0 (.int .u64 0) 1 8 Tryd.underlying31 hi hz0 hz1 hz2 rfl (by decide) _ 0 [] rfl hown ⟨b, off, none⟩ xs.length cap (xs.map (Value.int .u64)) rfl ?c1 ?c2 ?c3 ?c4 ?c5 ?c6 ?_))
  case c1 => simp
  case c2 =>
    intro j u hj
    have hlt : j < xs.length := by
      have := (List.getElem?_eq_some_iff.1 hj).1
      simpa using this
    rw [getD_map_int xs j hlt] at hj
    cases hj
    rw [← HC.out j hlt]
    rw [show (⟨b, off, none⟩ : Addr).add j = ⟨b, off + j, none⟩ by simp [Addr.add]]
    exact World.cell?_alloc_past _ _ _ hb
  case c3 =>
    intro u hu
    obtain ⟨x, _, rfl⟩ := List.mem_map.1 hu
    rfl
  case c4 => have := H8.out; unfold maxLen; omega
  case c5 => have := H8.out; omega
  case c6 => simp
  intro v' w1 hown1 hgrow hnil
  have hB : Below w.heap.size w w1 := (Below.one w _).grown hgrow (by simp) (by intro k hk; simp [Value.ownBlock] at hk; omega)
  rcases hown1.2 with ⟨rfl, _⟩ | ⟨g, cp, cur, rfl, h1, h2, h3, h4, _⟩
  · exact absurd rfl hnil
  · have HO : Hid (xs.length ≤ cp ∧ (cp : Int) ≤ 9223372036854775807 ∧ OwnI .u64 w1 w.heap.size g xs.length xs ∧ Below w.heap.size w w1) := ⟨h3, by unfold maxLen at h4; omega, OwnI.ofRow hown1, hB⟩
    clear hown1 hgrow hnil hB h1 h2 h3 h4
    go_wp2_with fail
    go_ret
    exact ⟨g, cp, rfl, HO.out⟩
theorem clone_nil (w : World) : Calls Tryd.prog 40 #[.slice none 0 0] w fun e w' => e = .returned (.slice none 0 0) ∧ w = w' := by
  go_enter Tryd.func40, Tryd.ntmps40
  go_wp2_with fail
  go_ret
  exact ⟨rfl, rfl⟩

/-! ### Equal -/
theorem equal_lens (a c : Option Addr) (n m cap cap2 : Nat) (w : World) (h : n ≠ m) (hn : (n : Int) ≤ 17592186043904) (hm : (m : Int) ≤ 17592186043904) :
    Calls Tryd.prog 74 #[.slice a n cap, .slice c m cap2] w fun e w' => e = .returned (.bool false) ∧ ∃ n, w' = w.drewN n := by
  have h1 : ((n : Int) != (m : Int)) = true := by rw [bne_iff_ne]; omega
  clear h
  go_enter Tryd.func74, Tryd.ntmps74
  go_wp2_with fail
  go_ret
  exact ⟨rfl, 0, rfl⟩
theorem eq_step {xs ys : List Int} {k : Nat} (hk : k < xs.length) (hk2 : k < ys.length) (h : xs.take k = ys.take k) (e : xs.getD k 0 = ys.getD k 0) : xs.take (k + 1) = ys.take (k + 1) := by
  rw [take_succ_getD hk, take_succ_getD hk2, h, e]
theorem eq_no {xs ys : List Int} {k : Nat} (e : ¬ xs.getD k 0 = ys.getD k 0) : decide (xs = ys) = false := by
  rw [decide_eq_false_iff_not]; intro h; rw [h] at e; exact e rfl

set_option maxRecDepth 10000 in
theorem equal_any (a c : Option Addr) (n cap cap2 : Nat) (xs ys : List Int) (w : World) (hx : SlI .u64 w a n xs) (hy : SlI .u64 w c n ys) (hn : (n : Int) ≤ 17592186043904) :
    Calls Tryd.prog 74 #[.slice a n cap, .slice c n cap2] w fun e w' => e = .returned (.bool (decide (xs = ys))) ∧ ∃ n, w' = w.drewN n := by
  have HX : Hid _ := hx
  have HY : Hid _ := hy
  clear hx hy
  go_enter Tryd.func74, Tryd.ntmps74
  go_wp2_with fail
  go_loopw [13] (fun i wr => ∃ k : Nat, i = .int .i64 k ∧ k ≤ n ∧ Hid (xs.take k = ys.take k) ∧ Hid (∃ q, wr = w.drewN q)) (fun i _ => (n - intOf i).toNat)
  case atStart => exact ⟨0, rfl, Nat.zero_le _, rfl, 0, rfl⟩
  case round =>
    obtain ⟨k, rfl, hk, HE, HW⟩ := hrel
    obtain ⟨q, rfl⟩ := HW.out
    by_cases hlt : (k : Int) < n
    · obtain ⟨b, off, rfl, hb, hc⟩ := HX.out.2.resolve_left (by omega)
      obtain ⟨b2, off2, rfl, hb2, hc2⟩ := HY.out.2.resolve_left (by omega)
      have hck := hc k (by omega)
      have hck2 := hc2 k (by omega)
      clear hc hc2
      have hl1 : k < xs.length := by rw [HX.out.1]; omega
      have hl2 : k < ys.length := by rw [HY.out.1]; omega
      have HS : Hid (xs.getD k 0 = ys.getD k 0 → xs.take (k + 1) = ys.take (k + 1)) := eq_step hl1 hl2 HE.out
      have HN : Hid (¬ xs.getD k 0 = ys.getD k 0 → decide (xs = ys) = false) := eq_no
      generalize xs.getD k 0 = x at *
      generalize ys.getD k 0 = y at *
      clear hl1 hl2
      by_cases hxy : x = y
      · subst hxy
        have HS' : Hid _ := HS.out rfl
        clear HS HN
        go_wp2_with fail
        go_quiet (fail)
        go_wp2_with fail
        go_roundw
        case rel => exact ⟨k + 1, by go_num, by omega, HS'.out, _, rfl⟩
        case measure => simp [intOf]; omega
      · have hne := nnot hxy
        go_wp2_with fail
        go_quiet (fail)
        go_wp2_with fail
        go_ret
        exact ⟨ret_bool (HN.out hxy).symm, by simp only [World.drewN_drewN]; exact ⟨_, rfl⟩⟩
    · have HD : Hid (decide (xs = ys) = true) := by
        show _ = _
        have := HE.out
        rw [List.take_of_length_le (by rw [HX.out.1]; omega), List.take_of_length_le (by rw [HY.out.1]; omega)] at this
        exact decide_eq_true this
      go_wp2_with fail
      go_ret
      exact ⟨ret_bool HD.out.symm, _, rfl⟩
end Go.Proofs.YtnplgklnkcjmnaaDoor
