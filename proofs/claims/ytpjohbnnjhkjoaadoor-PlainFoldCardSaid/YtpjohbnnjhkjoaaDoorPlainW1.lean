/- The walks of plain.taken and plain.Fold. -/
import Derived.Test.YtpjohbnnjhkjoaaDoorRegionW
import Derived.Test.YtpjohbnnjhkjoaaDoorFltP
namespace Go.Proofs.YtpjohbnnjhkjoaaDoor
open Go.RowKit
set_option linter.unusedVariables false
set_option linter.unusedSimpArgs false

@[go_sem] theorem nil_nil (w : World) : (binOp .eql 66 .nilFunc .nilFunc).run Tryd.prog w = .ok (.bool true) w := by kernel_rfl
@[go_sem] theorem fun_nil (g : FuncId) (w : World) : (binOp .eql 66 (.func (.func g) #[] #[]) .nilFunc).run Tryd.prog w = .ok (.bool false) w := by kernel_rfl

theorem taken1_any (x v : Int) (hv : U64 v) (w : World) : Calls Tryd.prog 52 #[.int .u64 x, .int .u64 v] w fun e w' => e = .returned (.int .u64 (iCanon v)) ∧ w = w' := by
  go_enter Tryd.func52, Tryd.ntmps52
  go_wp2_with (go_at_call 26; refine (canon_any _ hv _).mono ?_; rintro e w' ⟨rfl, rfl⟩)
  go_ret
  exact ⟨rfl, rfl⟩

/-- What a register's call makes of its word. -/
def turn (k x v : Int) : Int := if k = 2 then iCanon v else if k = 3 then iTop x v else iSum x v
theorem u64_turn {k x v : Int} (hx : U64 x) (hv : U64 v) : U64 (turn k x v) := by
  unfold turn
  split
  · exact u64_canon hv
  · split
    · exact u64_top hx hv
    · exact u64_sum hx hv

theorem taken_any (k : Int) (w : World) (f : Value) (o : Bool)
    (h : (k = 2 ∧ f = .func (.func 52) #[] #[] ∧ o = true) ∨ (k = 3 ∧ f = .func (.func 53) #[] #[] ∧ o = false) ∨ (k = 4 ∧ f = .func (.func 54) #[] #[] ∧ o = false) ∨ ((k ≠ 2 ∧ k ≠ 3 ∧ k ≠ 4) ∧ f = .nilFunc ∧ o = false)) :
    Calls Tryd.prog 28 #[.int .i64 k] w fun e w' => e = .returned (.agg #[f, .bool o]) ∧ Below w.heap.size w w' := by
  rcases h with ⟨rfl, rfl, rfl⟩ | ⟨rfl, rfl, rfl⟩ | ⟨rfl, rfl, rfl⟩ | ⟨⟨h1, h2, h3⟩, rfl, rfl⟩
  · go_enter Tryd.func28, Tryd.ntmps28
    go_wp2_with fail
    exact bodyPost_ret (v := .agg #[.func (.func 52) #[] #[], .bool true]) (by simp [results, Tryd.results28, go_sem]) rfl ⟨rfl, Below.one _ _⟩
  · go_enter Tryd.func28, Tryd.ntmps28
    go_wp2_with fail
    exact bodyPost_ret (v := .agg #[.func (.func 53) #[] #[], .bool false]) (by simp [results, Tryd.results28, go_sem]) rfl ⟨rfl, Below.one _ _⟩
  · go_enter Tryd.func28, Tryd.ntmps28
    go_wp2_with fail
    exact bodyPost_ret (v := .agg #[.func (.func 54) #[] #[], .bool false]) (by simp [results, Tryd.results28, go_sem]) rfl ⟨rfl, Below.one _ _⟩
  · have g1 := bnot h1
    have g2 := bnot h2
    have g3 := bnot h3
    clear h1 h2 h3
    go_enter Tryd.func28, Tryd.ntmps28
    go_wp2_with fail
    exact bodyPost_ret (v := .agg #[.nilFunc, .bool false]) (by simp [results, Tryd.results28, go_sem]) rfl ⟨rfl, Below.one _ _⟩

/-! ### Fold -/
def foldReg (k : Int) (vals : List Int) : Int := vals.foldl (turn k) 0
theorem foldReg_snoc (k : Int) (vals : List Int) (v : Int) : foldReg k (vals ++ [v]) = turn k (foldReg k vals) v := by
  unfold foldReg; rw [List.foldl_append]; rfl
theorem u64_foldReg (k : Int) : ∀ (vals : List Int), AllU vals → U64 (foldReg k vals) := by
  intro vals h
  unfold foldReg
  have : ∀ (l : List Int) (x : Int), U64 x → AllU l → U64 (l.foldl (turn k) x) := by
    intro l
    induction l with
    | nil => intro x hx _; exact hx
    | cons y l ih => intro x hx hl; exact ih _ (u64_turn hx (hl y (List.mem_cons_self ..))) (fun z hz => hl z (List.mem_cons_of_mem _ hz))
  exact this vals 0 (u64_of (by decide)) h

set_option maxRecDepth 10000 in
theorem fold_bad (k : Int) (h : k ≠ 2 ∧ k ≠ 3 ∧ k ≠ 4) (a : Option Addr) (len cap : Nat) (w : World) :
    Calls Tryd.prog 11 #[.int .i64 k, .slice a len cap] w fun e w' => e = .returned (.tuple #[.int .u64 0, .int .i64 1]) ∧ Below w.heap.size w w' := by
  go_enter Tryd.func11, Tryd.ntmps11
  go_wp2_with fail
  refine (taken_any k _ _ _ (Or.inr (Or.inr (Or.inr ⟨h, rfl, rfl⟩)))).mono ?_
  rintro e w1 ⟨rfl, hb⟩
  have hz := hb.size
  go_wp2_with fail
  go_ret2
  exact ⟨rfl, (hb.alloc hz _)⟩

set_option maxHeartbeats 1000000 in
set_option maxRecDepth 10000 in
theorem fold_write (a : Option Addr) (len cap : Nat) (xs : List Int) (w : World) (hs : SlI .u64 w a len xs) (hx : AllU xs) (hl : len * 8 ≤ 140737488351232) :
    Calls Tryd.prog 11 #[.int .i64 2, .slice a len cap] w fun e w' => e = .returned (.tuple #[.int .u64 (foldReg 2 xs), .int .i64 0]) ∧ Below w.heap.size w w' := by
  have hlen : Hid (xs.length = len) := hs.1
  have hl2 : (len : Int) ≤ 17592186043904 := by omega
  go_enter Tryd.func11, Tryd.ntmps11
  go_wp2_with fail
  refine (taken_any 2 _ _ _ (Or.inl ⟨rfl, rfl, rfl⟩)).mono ?_
  rintro e w1 ⟨rfl, hb⟩
  have hs1 := hs.below hb (Nat.le_refl _)
  have hz := hb.size
  go_wp2_with fail
  obtain ⟨W, hW⟩ : ∃ W, W = w1.alloc (Obj.cells #[.func (.func 52) #[] #[], .bool true] 68) := ⟨_, rfl⟩
  have hS : W.cell? ⟨w1.heap.size, 0, none⟩ = some (.func (.func 52) #[] #[]) := by rw [hW]; exact cell_new _ _ _ _ _ rfl
  have hSz : w1.heap.size < W.heap.size := by rw [hW]; simp
  have HB : Hid (Below w.heap.size w W) := by rw [hW]; exact hb.alloc hz _
  have HV : Hid (SlI .u64 W a len xs) := by rw [hW]; exact hs1.below (Below.one _ _) (Nat.le_refl _)
  rw [← hW]
  clear hW hs1 hb hs hz
  generalize w1.heap.size = S at *
  go_loopw [16, 4] (fun i v wr => ∃ k : Nat, i = .int .i64 k ∧ k ≤ len ∧ Hid (v = .int .u64 (foldReg 2 (xs.take k))) ∧ Hid (Below W.heap.size W wr)) (fun i _ _ => (len - intOf i).toNat)
  case atStart => exact ⟨0, rfl, Nat.zero_le _, rfl, Below.refl _ _⟩
  case round =>
    obtain ⟨k, rfl, hk, hv, HR⟩ := hrel
    have hu := u64_foldReg 2 (xs.take k) (fun x h => hx x (List.mem_of_mem_take h))
    have hv' := hv.out
    subst hv'
    clear hv
    have hS' : wr.cell? ⟨S, 0, none⟩ = some (.func (.func 52) #[] #[]) := (HR.out.cell (p := ⟨S, 0, none⟩) hSz).trans hS
    by_cases hlt : (k : Int) < len
    · have hkl : k < xs.length := by rw [hlen.out]; omega
      have hxk := hx.at hkl
      have HT : Hid (foldReg 2 (xs.take (k + 1)) = turn 2 (foldReg 2 (xs.take k)) (xs.getD k 0)) := by
        show _ = _
        rw [take_succ_getD hkl, foldReg_snoc]
      obtain ⟨b, off, rfl, hlt2, hc⟩ := HV.out.2.resolve_left (by omega)
      have hck := hc k (by omega)
      have hck' := (HR.out.cell (p := ⟨b, off + k, none⟩) hlt2).trans hck
      clear hc hck hS
      generalize xs.getD k 0 = x at *
      generalize foldReg 2 (xs.take k) = y at *
      go_wp2_with (first | (go_at_call 26; refine (canon_any _ (by assumption) _).mono ?_; rintro e w' ⟨rfl, rfl⟩) | (go_at_call 53; refine (max_any _ _ (by assumption) (by assumption) _).mono ?_; rintro e w' ⟨rfl, rfl⟩) | (go_at_call 54; refine (sum_any _ _ (by assumption) (by assumption) _).mono ?_; rintro e w' ⟨rfl, n, rfl⟩) | (go_at_call 52; refine (taken1_any _ _ (by assumption) _).mono ?_; rintro e w' ⟨rfl, rfl⟩))
      go_roundw
      case rel => exact ⟨k + 1, by go_num, by omega, by (show _ = _; rw [HT.out]; rfl), HR.out.trans ((quiet_below ⟨0, rfl⟩ : Below wr.heap.size wr _).mono HR.out.size)⟩
      case measure => simp [intOf]; omega
    · have e : xs.take k = xs := List.take_of_length_le (by rw [hlen.out]; omega)
      have HE : Hid (foldReg 2 (xs.take k) = foldReg 2 xs) := by show _ = _; rw [e]
      clear e
      go_wp2_with fail
      go_ret2
      exact ⟨ret_int2 HE.out rfl, HB.out.trans (HR.out.mono HB.out.size)⟩

set_option maxHeartbeats 1000000 in
set_option maxRecDepth 10000 in
theorem fold_max (a : Option Addr) (len cap : Nat) (xs : List Int) (w : World) (hs : SlI .u64 w a len xs) (hx : AllU xs) (hl : len * 8 ≤ 140737488351232) :
    Calls Tryd.prog 11 #[.int .i64 3, .slice a len cap] w fun e w' => e = .returned (.tuple #[.int .u64 (foldReg 3 xs), .int .i64 0]) ∧ Below w.heap.size w w' := by
  have hlen : Hid (xs.length = len) := hs.1
  have hl2 : (len : Int) ≤ 17592186043904 := by omega
  go_enter Tryd.func11, Tryd.ntmps11
  go_wp2_with fail
  refine (taken_any 3 _ _ _ (Or.inr (Or.inl ⟨rfl, rfl, rfl⟩))).mono ?_
  rintro e w1 ⟨rfl, hb⟩
  have hs1 := hs.below hb (Nat.le_refl _)
  have hz := hb.size
  go_wp2_with fail
  obtain ⟨W, hW⟩ : ∃ W, W = w1.alloc (Obj.cells #[.func (.func 53) #[] #[], .bool false] 68) := ⟨_, rfl⟩
  have hS : W.cell? ⟨w1.heap.size, 0, none⟩ = some (.func (.func 53) #[] #[]) := by rw [hW]; exact cell_new _ _ _ _ _ rfl
  have hSz : w1.heap.size < W.heap.size := by rw [hW]; simp
  have HB : Hid (Below w.heap.size w W) := by rw [hW]; exact hb.alloc hz _
  have HV : Hid (SlI .u64 W a len xs) := by rw [hW]; exact hs1.below (Below.one _ _) (Nat.le_refl _)
  rw [← hW]
  clear hW hs1 hb hs hz
  generalize w1.heap.size = S at *
  go_loopw [16, 4] (fun i v wr => ∃ k : Nat, i = .int .i64 k ∧ k ≤ len ∧ Hid (v = .int .u64 (foldReg 3 (xs.take k))) ∧ Hid (Below W.heap.size W wr)) (fun i _ _ => (len - intOf i).toNat)
  case atStart => exact ⟨0, rfl, Nat.zero_le _, rfl, Below.refl _ _⟩
  case round =>
    obtain ⟨k, rfl, hk, hv, HR⟩ := hrel
    have hu := u64_foldReg 3 (xs.take k) (fun x h => hx x (List.mem_of_mem_take h))
    have hv' := hv.out
    subst hv'
    clear hv
    have hS' : wr.cell? ⟨S, 0, none⟩ = some (.func (.func 53) #[] #[]) := (HR.out.cell (p := ⟨S, 0, none⟩) hSz).trans hS
    by_cases hlt : (k : Int) < len
    · have hkl : k < xs.length := by rw [hlen.out]; omega
      have hxk := hx.at hkl
      have HT : Hid (foldReg 3 (xs.take (k + 1)) = turn 3 (foldReg 3 (xs.take k)) (xs.getD k 0)) := by
        show _ = _
        rw [take_succ_getD hkl, foldReg_snoc]
      obtain ⟨b, off, rfl, hlt2, hc⟩ := HV.out.2.resolve_left (by omega)
      have hck := hc k (by omega)
      have hck' := (HR.out.cell (p := ⟨b, off + k, none⟩) hlt2).trans hck
      clear hc hck hS
      generalize xs.getD k 0 = x at *
      generalize foldReg 3 (xs.take k) = y at *
      go_wp2_with (first | (go_at_call 26; refine (canon_any _ (by assumption) _).mono ?_; rintro e w' ⟨rfl, rfl⟩) | (go_at_call 53; refine (max_any _ _ (by assumption) (by assumption) _).mono ?_; rintro e w' ⟨rfl, rfl⟩) | (go_at_call 54; refine (sum_any _ _ (by assumption) (by assumption) _).mono ?_; rintro e w' ⟨rfl, n, rfl⟩) | (go_at_call 52; refine (taken1_any _ _ (by assumption) _).mono ?_; rintro e w' ⟨rfl, rfl⟩))
      go_roundw
      case rel => exact ⟨k + 1, by go_num, by omega, by (show _ = _; rw [HT.out]; rfl), HR.out.trans ((quiet_below ⟨0, rfl⟩ : Below wr.heap.size wr _).mono HR.out.size)⟩
      case measure => simp [intOf]; omega
    · have e : xs.take k = xs := List.take_of_length_le (by rw [hlen.out]; omega)
      have HE : Hid (foldReg 3 (xs.take k) = foldReg 3 xs) := by show _ = _; rw [e]
      clear e
      go_wp2_with fail
      go_ret2
      exact ⟨ret_int2 HE.out rfl, HB.out.trans (HR.out.mono HB.out.size)⟩

set_option maxHeartbeats 1000000 in
set_option maxRecDepth 10000 in
theorem fold_sum (a : Option Addr) (len cap : Nat) (xs : List Int) (w : World) (hs : SlI .u64 w a len xs) (hx : AllU xs) (hl : len * 8 ≤ 140737488351232) :
    Calls Tryd.prog 11 #[.int .i64 4, .slice a len cap] w fun e w' => e = .returned (.tuple #[.int .u64 (foldReg 4 xs), .int .i64 0]) ∧ Below w.heap.size w w' := by
  have hlen : Hid (xs.length = len) := hs.1
  have hl2 : (len : Int) ≤ 17592186043904 := by omega
  go_enter Tryd.func11, Tryd.ntmps11
  go_wp2_with fail
  refine (taken_any 4 _ _ _ (Or.inr (Or.inr (Or.inl ⟨rfl, rfl, rfl⟩)))).mono ?_
  rintro e w1 ⟨rfl, hb⟩
  have hs1 := hs.below hb (Nat.le_refl _)
  have hz := hb.size
  go_wp2_with fail
  obtain ⟨W, hW⟩ : ∃ W, W = w1.alloc (Obj.cells #[.func (.func 54) #[] #[], .bool false] 68) := ⟨_, rfl⟩
  have hS : W.cell? ⟨w1.heap.size, 0, none⟩ = some (.func (.func 54) #[] #[]) := by rw [hW]; exact cell_new _ _ _ _ _ rfl
  have hSz : w1.heap.size < W.heap.size := by rw [hW]; simp
  have HB : Hid (Below w.heap.size w W) := by rw [hW]; exact hb.alloc hz _
  have HV : Hid (SlI .u64 W a len xs) := by rw [hW]; exact hs1.below (Below.one _ _) (Nat.le_refl _)
  rw [← hW]
  clear hW hs1 hb hs hz
  generalize w1.heap.size = S at *
  go_loopw [16, 4] (fun i v wr => ∃ k : Nat, i = .int .i64 k ∧ k ≤ len ∧ Hid (v = .int .u64 (foldReg 4 (xs.take k))) ∧ Hid (Below W.heap.size W wr)) (fun i _ _ => (len - intOf i).toNat)
  case atStart => exact ⟨0, rfl, Nat.zero_le _, rfl, Below.refl _ _⟩
  case round =>
    obtain ⟨k, rfl, hk, hv, HR⟩ := hrel
    have hu := u64_foldReg 4 (xs.take k) (fun x h => hx x (List.mem_of_mem_take h))
    have hv' := hv.out
    subst hv'
    clear hv
    have hS' : wr.cell? ⟨S, 0, none⟩ = some (.func (.func 54) #[] #[]) := (HR.out.cell (p := ⟨S, 0, none⟩) hSz).trans hS
    by_cases hlt : (k : Int) < len
    · have hkl : k < xs.length := by rw [hlen.out]; omega
      have hxk := hx.at hkl
      have HT : Hid (foldReg 4 (xs.take (k + 1)) = turn 4 (foldReg 4 (xs.take k)) (xs.getD k 0)) := by
        show _ = _
        rw [take_succ_getD hkl, foldReg_snoc]
      obtain ⟨b, off, rfl, hlt2, hc⟩ := HV.out.2.resolve_left (by omega)
      have hck := hc k (by omega)
      have hck' := (HR.out.cell (p := ⟨b, off + k, none⟩) hlt2).trans hck
      clear hc hck hS
      generalize xs.getD k 0 = x at *
      generalize foldReg 4 (xs.take k) = y at *
      go_wp2_with (first | (go_at_call 26; refine (canon_any _ (by assumption) _).mono ?_; rintro e w' ⟨rfl, rfl⟩) | (go_at_call 53; refine (max_any _ _ (by assumption) (by assumption) _).mono ?_; rintro e w' ⟨rfl, rfl⟩) | (go_at_call 54; refine (sum_any _ _ (by assumption) (by assumption) _).mono ?_; rintro e w' ⟨rfl, n, rfl⟩) | (go_at_call 52; refine (taken1_any _ _ (by assumption) _).mono ?_; rintro e w' ⟨rfl, rfl⟩))
      go_roundw
      case rel => exact ⟨k + 1, by go_num, by omega, by (show _ = _; rw [HT.out]; rfl), HR.out.trans ((quiet_below ⟨_, rfl⟩ : Below wr.heap.size wr _).mono HR.out.size)⟩
      case measure => simp [intOf]; omega
    · have e : xs.take k = xs := List.take_of_length_le (by rw [hlen.out]; omega)
      have HE : Hid (foldReg 4 (xs.take k) = foldReg 4 xs) := by show _ = _; rw [e]
      clear e
      go_wp2_with fail
      go_ret2
      exact ⟨ret_int2 HE.out rfl, HB.out.trans (HR.out.mono HB.out.size)⟩

theorem fold_any (k : Int) (hk : k = 2 ∨ k = 3 ∨ k = 4) (a : Option Addr) (len cap : Nat) (xs : List Int) (w : World) (hs : SlI .u64 w a len xs) (hx : AllU xs) (hl : len * 8 ≤ 140737488351232) :
    Calls Tryd.prog 11 #[.int .i64 k, .slice a len cap] w fun e w' => e = .returned (.tuple #[.int .u64 (foldReg k xs), .int .i64 0]) ∧ Below w.heap.size w w' := by
  rcases hk with rfl | rfl | rfl
  · exact fold_write a len cap xs w hs hx hl
  · exact fold_max a len cap xs w hs hx hl
  · exact fold_sum a len cap xs w hs hx hl
end Go.Proofs.YtpjohbnnjhkjoaaDoor
