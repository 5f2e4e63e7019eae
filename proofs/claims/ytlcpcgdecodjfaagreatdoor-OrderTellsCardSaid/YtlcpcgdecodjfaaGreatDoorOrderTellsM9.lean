/- Texts put together: InsE, DelE, RawE, OrE, OrF, OrG, OrH, OrI, OrJ, OrK, OrL, TrA, LwA, OrM, OrN, StA, KdA, KdB. -/
import Derived.Test.YtlcpcgdecodjfaaGreatDoorOrderTellsM8
import Derived.Shelf.Spec.SlicesInsertGrow
namespace Go.Proofs.YtlcpcgdecodjfaaGreatDoor
open Go.RowKit Go.Lib
set_option linter.unusedVariables false
set_option linter.unusedSimpArgs false

/-- ALL IS READ BEFORE ANYTHING IS WRITTEN, at elements of z cells. -/
theorem run_copyZ {P : Program} (w : World) (dT sT ty elem : TypeId) (z : Nat) (b o dLen dCap : Nat) (a : Addr) (sLen sCap : Nat) (cs : List Value)
    (hu : P.underlying dT = some (.slice elem)) (hs : (P.info? elem).map (·.size) = some z) (hn : cs.length = Nat.min sLen dLen * z)
    (hsrc : ∀ j v, cs[j]? = some v → w.cell? (a.add j) = some v) (hc : ∀ j, j < cs.length → (w.cell? ⟨b, o + j, none⟩).isSome = true) (hf : ∀ j, j < cs.length → w.frozen? ⟨b, o + j, none⟩ = false) (h1 : ∀ v ∈ cs, v.oneCell' = true) :
    (Builtin.copy_ #[dT, sT] ty #[.slice (some ⟨b, o, none⟩) dLen dCap, .slice (some a) sLen sCap]).run P w = .ok (goInt (Nat.min sLen dLen)) (w.setCells b o cs) := by
  have hl := run_loadCells_list (P := P) w a cs hsrc
  have hst := run_storeCells_cells (P := P) b o cs 0 w (by simpa using hc) (by simpa using hf) h1
  cases hq : P.info? elem with
  | none => simp [hq] at hs
  | some i =>
    have hi : i.size = z := by simpa [hq] using hs
    simp [Builtin.copy_, run_underlying hu, Builtin.lenOf, Builtin.firstCells, sizeOf, typeInfo, hq, hi, ← hn, hl, hst]
abbrev tE : TypeId := 87
abbrev tSE : TypeId := 83
theorem uSE : Tryz.prog.underlying tSE = some (.slice tE) := by kernel_rfl
theorem szE : (Tryz.prog.info? tE).map (·.size) = some 2 := by kernel_rfl
theorem z2E : ∀ w, (Go.sizeOf tE).run Tryz.prog w = .ok 2 w := by intro w; kernel_rfl

set_option maxHeartbeats 4000000 in
set_option maxRecDepth 100000 in
/-- THERE IS ROOM, i < len(s): in place. -/
theorem insE_shift (b off n c i vb voff m vc : Nat) (cs vs : List Value) (w : World) (hi : i < n) (hm : 0 < m) (hroom : n + m ≤ c) (hn63 : n + m ≤ 9223372036854775807) (hvb : vb ≠ b)
    (hcl : cs.length = n * 2) (hvl : vs.length = m * 2)
    (hcs : ∀ j v, cs[j]? = some v → w.cell? ⟨b, off + j, none⟩ = some v) (hsp : ∀ j, j < (n + m) * 2 → (w.cell? ⟨b, off + j, none⟩).isSome = true) (hfz : ∀ j, j < (n + m) * 2 → w.frozen? ⟨b, off + j, none⟩ = false)
    (hvs : ∀ j v, vs[j]? = some v → w.cell? ⟨vb, voff + j, none⟩ = some v) (h1c : ∀ v ∈ cs, v.oneCell' = true) (h1v : ∀ v ∈ vs, v.oneCell' = true)
    (tA tB : TypeId) (kA kB : Nat) (hsa : w.shape? vb = some (tA, kA)) (hsb : w.shape? b = some (tB, kB)) (hkB : kB ≠ 0) (hfa : w.frozen? ⟨vb, voff, none⟩ = false) (hfe : w.frozen? ⟨vb, kA, none⟩ = false) :
    Calls Tryz.prog 71 #[.slice (some ⟨b, off, none⟩) n c, .int .i64 i, .slice (some ⟨vb, voff, none⟩) m vc] w fun e w' =>
      e = .returned (.slice (some ⟨b, off, none⟩) (n + m) c) ∧ w' = (w.drew.setCells b (off + (i + m) * 2) (cs.drop (i * 2))).setCells b (off + i * 2) vs := by
  have mixed : Tryz.prog.follows .mixedOrders = true := by kernel_rfl
  have hz1 : ¬ ((m : Int) = 0) := by omega
  have hz2 : ¬ ((i : Int) = (n : Int)) := by omega
  have hov : ∀ lb cb, (callFunc 95 #[.slice (some ⟨vb, voff, none⟩) m vc, .slice (some ⟨b, off + (i + m) * 2, none⟩) lb cb]).run Tryz.prog w = .ok (.value (.bool false)) w := fun lb cb => by
    rw [run_callFunc_extern Tryz.func95 (by kernel_rfl) (by kernel_rfl) (by kernel_rfl) (e := Extern.SlicesOverlaps.overlaps #[tSE, tSE] #[4]) (by kernel_rfl),
      Lib.run_overlaps_apart w tSE 4 tE uSE 2 z2E ⟨vb, voff, none⟩ ⟨b, off + (i + m) * 2, none⟩ m vc lb cb hvb tA tB kA kB hsa hsb hkB hfa hfe]
    rfl
  have hdl : (cs.drop (i * 2)).length = (n - i) * 2 := by rw [List.length_drop, hcl]; omega
  have hw1 : IntKind.i64.wrap ((i : Int) + (m : Int)) = (i : Int) + (m : Int) := by rw [IntKind.wrap_i64]; omega
  have hb1 : (0 : Int) ≤ (i : Int) + (m : Int) := by omega
  have hin : i ≤ n := by omega
  have htn : ((i : Int) + (m : Int)).toNat = i + m := by omega
  have hb2 : ¬ (c = i + m) := by omega
  have hb3 : (i : Int) ≤ (n : Int) + (m : Int) := by omega
  have hb4 : ¬ (c = i) := by omega
  have hcp1 : ∀ ty dc sc, (Builtin.copy_ #[tSE, tSE] ty #[.slice (some ⟨b, off + (i + m) * 2, none⟩) (n + m - (i + m)) dc, .slice (some ⟨b, off + i * 2, none⟩) (n + m - i) sc]).run Tryz.prog w.drew = .ok (goInt (n - i : Nat)) (w.drew.setCells b (off + (i + m) * 2) (cs.drop (i * 2))) := fun ty dc sc => by
    have h := run_copyZ (P := Tryz.prog) w.drew tSE tSE ty tE 2 b (off + (i + m) * 2) (n + m - (i + m)) dc ⟨b, off + i * 2, none⟩ (n + m - i) sc (cs.drop (i * 2)) uSE szE (by rw [hdl]; simp only [Nat.min_def]; split <;> omega)
      (fun j v hj => by rw [Addr.add_lit, Nat.add_assoc]; exact hcs (i * 2 + j) v (by rwa [List.getElem?_drop] at hj))
      (fun j hj => by rw [Nat.add_assoc]; exact hsp _ (by omega)) (fun j hj => by rw [Nat.add_assoc]; exact hfz _ (by omega)) (fun v hv => h1c v (List.mem_of_mem_drop hv))
    rw [show Nat.min (n + m - i) (n + m - (i + m)) = n - i by simp only [Nat.min_def]; split <;> omega] at h
    exact h
  obtain ⟨W1, hW1⟩ : ∃ W1, W1 = w.drew.setCells b (off + (i + m) * 2) (cs.drop (i * 2)) := ⟨_, rfl⟩
  have hsp1 : ∀ k, k < (n + m) * 2 → (W1.cell? ⟨b, off + k, none⟩).isSome = true := fun k hk => by
    rw [hW1]
    exact isSome_setCells b _ _ _ (fun j hj => by rw [Nat.add_assoc]; exact hsp _ (by omega)) _ (hsp k hk)
  have hcp2 : ∀ (W : World), (∀ x, W.cell? x = W1.cell? x) → (∀ x, W.frozen? x = W1.frozen? x) → ∀ ty dc, (Builtin.copy_ #[tSE, tSE] ty #[.slice (some ⟨b, off + i * 2, none⟩) (n + m - i) dc, .slice (some ⟨vb, voff, none⟩) m vc]).run Tryz.prog W = .ok (goInt m) (W.setCells b (off + i * 2) vs) := fun W hWc hWf ty dc => by
    have h := run_copyZ (P := Tryz.prog) W tSE tSE ty tE 2 b (off + i * 2) (n + m - i) dc ⟨vb, voff, none⟩ m vc vs uSE szE (by rw [hvl]; simp only [Nat.min_def]; split <;> omega)
      (fun j v hj => by
        rw [Addr.add_lit, hWc, hW1, World.cell?_setCells_out b _ _ _ _ (fun h _ => absurd h hvb)]
        exact hvs j v hj)
      (fun j hj => by rw [hWc, Nat.add_assoc]; exact hsp1 _ (by omega)) (fun j hj => by rw [hWf, hW1, World.frozen?_setCells, Nat.add_assoc]; exact hfz _ (by omega)) h1v
    rw [show Nat.min m (n + m - i) = m by simp only [Nat.min_def]; split <;> omega] at h
    exact h
  rw [← hW1] at hcp1
  go_enter Tryz.func71, Tryz.ntmps71
  go_wp2_with (simp only [hov])
  go_region_law_o (refine step_copy_runI rfl _ _ tSE tSE rfl _ _ (by simp [Act.eval, Act.put]) (by simp [Act.eval, Act.put]) (hcp1 _ _ _) ?_)
  go_wp2_with (at_builtin; refine wpList_copy_runI _ rfl _ _ tSE tSE rfl _ _ rfl rfl (hcp2 _ (fun _ => rfl) (fun _ => rfl) _ _) ?_)
  go_ret
  first | exact ⟨rfl, rfl⟩ | exact ⟨rfl, by rw [hW1]⟩
set_option maxHeartbeats 4000000 in
set_option maxRecDepth 100000 in
/-- AT THE END (i = len(s)): what append makes. -/
theorem insE_end (base : Option Addr) (n c vb voff m vc : Nat) (w w1 : World) (v' : Value) (hm : 0 < m) (hnc : n ≤ c) (hnil : base = none → n = 0 ∧ c = 0)
    (hrun : (Builtin.append_ #[tSE, tSE] tSE #[.slice base n c, .slice (some ⟨vb, voff, none⟩) m vc]).run Tryz.prog w = .ok v' w1) :
    Calls Tryz.prog 71 #[.slice base n c, .int .i64 n, .slice (some ⟨vb, voff, none⟩) m vc] w fun e w' => e = .returned v' ∧ w' = w1 := by
  have mixed : Tryz.prog.follows .mixedOrders = true := by kernel_rfl
  have hz1 : ¬ ((m : Int) = 0) := by omega
  go_enter Tryz.func71, Tryz.ntmps71
  cases base with
  | none =>
    obtain ⟨rfl, rfl⟩ := hnil rfl
    go_wp2_with (at_builtin; refine Lib.wpList_append_run _ rfl _ _ _ _ rfl _ _ rfl rfl _ _ hrun ?_)
    go_ret
    exact ⟨rfl, rfl⟩
  | some a =>
    obtain ⟨ab, ao, asp⟩ := a
    go_wp2_with (at_builtin; refine Lib.wpList_append_run _ rfl _ _ _ _ rfl _ _ rfl rfl _ _ hrun ?_)
    all_goals (go_ret; exact ⟨rfl, rfl⟩)
theorem infoE : (Tryz.prog.info? tE).map (fun i => (i.zero, i.size, i.bytes)) = some (some (.agg #[.int .u64 0, .int .u64 0]), 2, 16) := by kernel_rfl
theorem uI64 : Tryz.prog.underlying 3 = some (.int .i64) := by kernel_rfl

set_option maxHeartbeats 4000000 in
set_option maxRecDepth 100000 in
/-- i < len(s), NO ROOM: A NEW ROW. -/
theorem insE_grow (b off n c i vb voff m vc : Nat) (cs vs : List Value) (w : World) (hi : i < n) (hm : 0 < m) (hnc : n ≤ c) (hroom : c < n + m) (hbig : (n + m) * 16 ≤ 140737488355328)
    (hcl : cs.length = n * 2) (hvl : vs.length = m * 2)
    (hcs : ∀ j v, cs[j]? = some v → w.cell? ⟨b, off + j, none⟩ = some v)
    (hvs : ∀ j v, vs[j]? = some v → w.cell? ⟨vb, voff + j, none⟩ = some v) (h1c : ∀ v ∈ cs, v.oneCell' = true) (h1v : ∀ v ∈ vs, v.oneCell' = true) :
    Calls Tryz.prog 71 #[.slice (some ⟨b, off, none⟩) n c, .int .i64 i, .slice (some ⟨vb, voff, none⟩) m vc] w fun e w' =>
      e = .returned (.slice (some ⟨w.heap.size, 0, none⟩) (n + m) (grownCap w (n + m) c tE)) ∧
      w' = (((w.alloc (.cells ((cs.take (i * 2)).toArray ++ Builtin.zeroCells (Value.agg #[.int .u64 0, .int .u64 0]).cells (n + m - i) ++ Builtin.zeroCells (Value.agg #[.int .u64 0, .int .u64 0]).cells (grownCap w (n + m) c tE - (n + m))) tE)).drew.setCells w.heap.size (i * 2) vs).drew).setCells w.heap.size ((i + m) * 2) (cs.drop (i * 2)) := by
  have mixed : Tryz.prog.follows .mixedOrders = true := by kernel_rfl
  obtain ⟨i0, hi0, hz0, hzs, hzb⟩ := info_parts infoE
  have hz1 : ¬ ((m : Int) = 0) := by omega
  have hz2 : ¬ ((i : Int) = (n : Int)) := by omega
  have hz3 : (c : Int) < (n : Int) + (m : Int) := by omega
  have hbw : b < w.heap.size := block_lt_of_cell (hcs 0 _ (List.getElem?_eq_getElem (by omega)))
  have hvw : vb < w.heap.size := block_lt_of_cell (hvs 0 _ (List.getElem?_eq_getElem (by omega)))
  have hkk : (n : Int) + (m : Int) - (i : Int) = ((n + m - i : Nat) : Int) := by omega
  have hik : i + (n + m - i) = n + m := by omega
  have hold : (Builtin.firstCells i0.size i (.slice (some ⟨b, off, none⟩) i c)).run Tryz.prog w.drew = .ok (cs.take (i * 2)).toArray w.drew := by
    rw [hzs]
    exact run_firstCells_some w.drew 2 i ⟨b, off, none⟩ i c (cs.take (i * 2)) (by rw [List.length_take]; omega) (fun j v hj => by
      rw [Addr.add_lit]
      rw [List.getElem?_take] at hj
      split at hj
      · exact hcs j v hj
      · cases hj)
  have hrz : ∀ ty, (Builtin.append_ #[tSE, 3] ty #[.slice (some ⟨b, off, none⟩) i c, .int .i64 ((n : Int) + (m : Int) - (i : Int))]).run Tryz.prog w =
      .ok (.slice (some ⟨w.heap.size, 0, none⟩) (n + m) (grownCap w (n + m) c tE)) (w.drew.alloc (.cells ((cs.take (i * 2)).toArray ++ Builtin.zeroCells (Value.agg #[.int .u64 0, .int .u64 0]).cells (n + m - i) ++ Builtin.zeroCells (Value.agg #[.int .u64 0, .int .u64 0]).cells (grownCap w (n + m) c tE - (n + m))) tE)) := fun ty => by
    have h := Lib.run_append_grow_zeros w tSE 3 ty tE i0 _ .i64 .i64 uSE uI64 hi0 hz0 (some ⟨b, off, none⟩) i c (cs.take (i * 2)) hold (n + m - i) (by omega) (by omega) (by omega) (by omega) (by rw [hzb]; omega) (by rw [hzb, hik]; exact growslice_fits hroom hbig)
    rw [hik] at h
    rw [hkk]
    exact h
  obtain ⟨G, hG⟩ : ∃ G, G = grownCap w (n + m) c tE := ⟨_, rfl⟩
  obtain ⟨ROW, hROW⟩ : ∃ ROW : Array Value, ROW = (cs.take (i * 2)).toArray ++ Builtin.zeroCells (Value.agg #[.int .u64 0, .int .u64 0]).cells (n + m - i) ++ Builtin.zeroCells (Value.agg #[.int .u64 0, .int .u64 0]).cells (G - (n + m)) := ⟨_, rfl⟩
  rw [← hG] at hrz ⊢
  rw [← hROW] at hrz ⊢
  have hRl : (n + m) * 2 ≤ ROW.size := by
    rw [hROW]
    simp [Builtin.zeroCells, Value.cells]
    omega
  obtain ⟨W1, hW1⟩ : ∃ W1, W1 = w.drew.alloc (.cells ROW tE) := ⟨_, rfl⟩
  rw [← hW1] at hrz
  have hN : ∀ j, j < (n + m) * 2 → (W1.cell? ⟨w.heap.size, j, none⟩).isSome = true := fun j hj => by
    rw [hW1, World.cell?_alloc_at (w := w.drew) ROW _ w.heap.size j rfl, Array.getElem?_eq_getElem (by omega)]; rfl
  have hNf : ∀ j, W1.frozen? ⟨w.heap.size, j, none⟩ = false := fun j => by rw [hW1]; exact World.frozen?_alloc_at (w := w.drew) ROW _ w.heap.size j rfl
  have hOb : ∀ j v, w.cell? ⟨b, j, none⟩ = some v → W1.cell? ⟨b, j, none⟩ = some v := fun j v h => by rw [hW1, World.cell?_alloc_past (w := w.drew) _ b j hbw]; exact h
  have hOv : ∀ j v, w.cell? ⟨vb, j, none⟩ = some v → W1.cell? ⟨vb, j, none⟩ = some v := fun j v h => by rw [hW1, World.cell?_alloc_past (w := w.drew) _ vb j hvw]; exact h
  have hcpA : ∀ (W : World), (∀ x, W.cell? x = W1.cell? x) → (∀ x, W.frozen? x = W1.frozen? x) → ∀ ty dc, (Builtin.copy_ #[tSE, tSE] ty #[.slice (some ⟨w.heap.size, i * 2, none⟩) (n + m - i) dc, .slice (some ⟨vb, voff, none⟩) m vc]).run Tryz.prog W = .ok (goInt m) (W.setCells w.heap.size (i * 2) vs) := fun W hWc hWf ty dc => by
    have h := run_copyZ (P := Tryz.prog) W tSE tSE ty tE 2 w.heap.size (i * 2) (n + m - i) dc ⟨vb, voff, none⟩ m vc vs uSE szE (by rw [hvl]; simp only [Nat.min_def]; split <;> omega)
      (fun j v hj => by rw [Addr.add_lit, hWc]; exact hOv _ v (hvs j v hj))
      (fun j hj => by rw [hWc]; exact hN _ (by omega)) (fun j hj => by rw [hWf]; exact hNf _) h1v
    rw [show Nat.min m (n + m - i) = m by simp only [Nat.min_def]; split <;> omega] at h
    exact h
  have hGn : n + m ≤ G := by rw [hG]; exact grownCap_ge w _ _ _
  have hG63 : G ≤ 9223372036854775807 := by
    have := grownCap_le_maxLen w (n + m) c tE (by unfold maxLen; omega)
    rw [← hG] at this
    unfold maxLen at this
    omega
  have hGi : ¬ (G = i) := by omega
  have hGim : ¬ (G = i + m) := by omega
  have hci : ¬ (c = i) := by omega
  have hbN : b ≠ w.heap.size := by omega
  have hdl : (cs.drop (i * 2)).length = (n - i) * 2 := by rw [List.length_drop, hcl]; omega
  have hcpB : ∀ (W : World), (∀ x, W.cell? x = (W1.setCells w.heap.size (i * 2) vs).cell? x) → (∀ x, W.frozen? x = (W1.setCells w.heap.size (i * 2) vs).frozen? x) → ∀ ty dc sc, (Builtin.copy_ #[tSE, tSE] ty #[.slice (some ⟨w.heap.size, (i + m) * 2, none⟩) (n + m - (i + m)) dc, .slice (some ⟨b, off + i * 2, none⟩) (n - i) sc]).run Tryz.prog W = .ok (goInt (n - i : Nat)) (W.setCells w.heap.size ((i + m) * 2) (cs.drop (i * 2))) := fun W hWc hWf ty dc sc => by
    have h := run_copyZ (P := Tryz.prog) W tSE tSE ty tE 2 w.heap.size ((i + m) * 2) (n + m - (i + m)) dc ⟨b, off + i * 2, none⟩ (n - i) sc (cs.drop (i * 2)) uSE szE (by rw [hdl]; simp only [Nat.min_def]; split <;> omega)
      (fun j v hj => by
        rw [Addr.add_lit, hWc, World.cell?_setCells_out _ _ _ _ _ (fun h _ => absurd h hbN), Nat.add_assoc]
        exact hOb _ v (hcs (i * 2 + j) v (by rwa [List.getElem?_drop] at hj)))
      (fun j hj => by rw [hWc]; exact isSome_setCells _ _ _ _ (fun t ht => hN _ (by omega)) _ (hN _ (by omega)))
      (fun j hj => by rw [hWf, World.frozen?_setCells]; exact hNf _) (fun v hv => h1c v (List.mem_of_mem_drop hv))
    rw [show Nat.min (n - i) (n + m - (i + m)) = n - i by simp only [Nat.min_def]; split <;> omega] at h
    exact h
  subst hW1
  have hE1 : ∀ x, ((w.alloc (.cells ROW tE)).drew).cell? x = (w.drew.alloc (.cells ROW tE)).cell? x := fun x => rfl
  have hE2 : ∀ x, ((w.alloc (.cells ROW tE)).drew).frozen? x = (w.drew.alloc (.cells ROW tE)).frozen? x := fun x => rfl
  have hF1 : ∀ x, (((w.alloc (.cells ROW tE)).drew.setCells w.heap.size (i * 2) vs).drew).cell? x = ((w.drew.alloc (.cells ROW tE)).setCells w.heap.size (i * 2) vs).cell? x := fun x => rfl
  have hF2 : ∀ x, (((w.alloc (.cells ROW tE)).drew.setCells w.heap.size (i * 2) vs).drew).frozen? x = ((w.drew.alloc (.cells ROW tE)).setCells w.heap.size (i * 2) vs).frozen? x := fun x => rfl
  have hw1 : IntKind.i64.wrap ((i : Int) + (m : Int)) = (i : Int) + (m : Int) := by rw [IntKind.wrap_i64]; omega
  have hb1 : (0 : Int) ≤ (i : Int) + (m : Int) := by omega
  have hin : i ≤ n := by omega
  have htn : ((i : Int) + (m : Int)).toNat = i + m := by omega
  have hb3 : (i : Int) ≤ (n : Int) := by omega
  clear hkk hik hold hROW hG hRl
  go_enter Tryz.func71, Tryz.ntmps71
  go_wp2_with (first
    | (at_builtin; refine Lib.wpList_append_run _ rfl _ _ _ _ rfl _ _ rfl rfl _ _ (hrz _) ?_)
    | (at_builtin; refine wpList_copy_runI _ rfl _ _ tSE tSE rfl _ _ rfl rfl (hcpA _ hE1 hE2 _ _) ?_)
    | (at_builtin; refine wpList_copy_runI _ rfl _ _ tSE tSE rfl _ _ rfl rfl (hcpB _ (fun _ => rfl) (fun _ => rfl) _ _ _) ?_))
  go_region_law_o (refine step_copy_runI rfl _ _ tSE tSE rfl (.slice (some ⟨w.heap.size, (i + m) * 2, none⟩) (n + m - (i + m)) (G - (i + m))) (.slice (some ⟨b, off + i * 2, none⟩) (n - i) (c - i)) (by simp [Act.eval, Act.put]) (by simp [Act.eval, Act.put]) (hcpB _ hF1 hF2 3 (G - (i + m)) (c - i)) ?_)
  go_wp2
  go_ret
  exact ⟨rfl, rfl⟩
end Go.Proofs.YtlcpcgdecodjfaaGreatDoor
namespace Go.Proofs.YtlcpcgdecodjfaaGreatDoor
open Go.RowKit Go.Lib
set_option linter.unusedVariables false
set_option linter.unusedSimpArgs false

theorem step_append_runI {P : Program} {ops : Array Oper} {o : Oper} {a : Act} {w : World} {K : Act → World → Prop} {Q : Exit → Act → World → Prop} {E : Prop}
    (hg : o.guard = none) (d x : Operand) (dT sT : TypeId) (hop : o.op = Op.call { callee := Callee.builtin Builtin.append, args := #[d, x], argTypes := #[dT, sT] })
    (v u : Value) (hd : a.eval d = v) (hx : a.eval x = u) {v' : Value} {w' : World} (hr : (Builtin.append_ #[dT, sT] o.type #[v, u]).run P w = .ok v' w') (hK : K (a.put o.dst v') w') :
    if Region.wanted o (yielded ops a.tmps) = true then Oper.wp P o a w K Q else E := by
  have hw : Region.wanted o (yielded ops a.tmps) = true := by simp [Region.wanted, hg]
  rw [if_pos hw]
  unfold Oper.wp
  simp [execOp, hop, resolve, invoke, builtin, hd, hx, hr, Result.andThen]
  exact hK
theorem run_clearZ {P : Program} (w : World) (t e ty : TypeId) (z : Value) (ht : P.underlying t = some (.slice e)) (hv : ∀ w, (zeroValue e).run P w = .ok z w) (h1 : ∀ v ∈ z.cells, v.oneCell' = true) (b o n c : Nat) (hn : 0 < n) (cs : List Value) (hcs : cs = (Builtin.zeroCells z.cells n).toList)
    (hc : ∀ j, j < cs.length → (w.cell? ⟨b, o + j, none⟩).isSome = true) (hf : ∀ j, j < cs.length → w.frozen? ⟨b, o + j, none⟩ = false) (hone : ∀ v ∈ cs, v.oneCell' = true) :
    (Builtin.clear_ #[t] ty #[.slice (some ⟨b, o, none⟩) n c]).run P w = .ok (.tuple #[]) (w.setCells b o cs) := by
  have hst := run_storeCells_cells (P := P) b o cs 0 w (by simpa using hc) (by simpa using hf) hone
  simp only [Nat.add_zero] at hst
  obtain ⟨m, rfl⟩ : ∃ m, n = m + 1 := ⟨n - 1, by omega⟩
  simp [Builtin.clear_, run_underlying ht, hv, ← hcs, hst]
theorem zvE : ∀ w, (zeroValue tE).run Tryz.prog w = .ok (.agg #[.int .u64 0, .int .u64 0]) w := by intro w; kernel_rfl
theorem sz2E : Am.sz? Tryz.prog tE = some 2 := by kernel_rfl
theorem mem_zeroE {n : Nat} {v : Value} (h : v ∈ (Builtin.zeroCells (Value.agg #[.int .u64 0, .int .u64 0]).cells n).toList) : v = .int .u64 0 := by
  simp only [Builtin.zeroCells, Value.cells, Array.toList_map, Array.toList_range, List.mem_map, List.mem_range] at h
  obtain ⟨i, hi, rfl⟩ := h
  have : i % 2 = 0 ∨ i % 2 = 1 := by omega
  rcases this with h | h <;> simp [h]

set_option maxHeartbeats 4000000 in
set_option maxRecDepth 100000 in
theorem delE_run (b off n c i j : Nat) (cs : List Value) (w : World) (hij : i < j) (hj : j ≤ n) (hnc : n ≤ c)
    (hcl : cs.length = n * 2) (hcs : ∀ j v, cs[j]? = some v → w.cell? ⟨b, off + j, none⟩ = some v) (hfz : ∀ j, j < n * 2 → w.frozen? ⟨b, off + j, none⟩ = false) (h1c : ∀ v ∈ cs, v.oneCell' = true) :
    Calls Tryz.prog 81 #[.slice (some ⟨b, off, none⟩) n c, .int .i64 i, .int .i64 j] w fun e w' =>
      e = .returned (.slice (some ⟨b, off, none⟩) (i + (n - j)) c) ∧ w' = (w.drew.setCells b (off + i * 2) (cs.drop (j * 2))).setCells b (off + (i + (n - j)) * 2) (Builtin.zeroCells (Value.agg #[.int .u64 0, .int .u64 0]).cells (n - (i + (n - j)))).toList := by
  have mixed : Tryz.prog.follows .mixedOrders = true := by kernel_rfl
  have hz2 : ¬ ((i : Int) = (j : Int)) := by omega
  have hsp : ∀ q, q < n * 2 → (w.cell? ⟨b, off + q, none⟩).isSome = true := fun q hq => by
    rw [hcs q _ (List.getElem?_eq_getElem (by omega))]; rfl
  have hdl : (cs.drop (j * 2)).length = (n - j) * 2 := by rw [List.length_drop, hcl]; omega
  obtain ⟨A, hA, hsrc⟩ : ∃ A : Addr, (if c = j then some (⟨b, off, none⟩ : Addr) else some ⟨b, off + j * 2, none⟩) = some A ∧ ∀ t u, (cs.drop (j * 2))[t]? = some u → w.drew.cell? (A.add t) = some u := by
    by_cases h : c = j
    · refine ⟨⟨b, off, none⟩, by simp [h], fun t u hu => ?_⟩
      have h0 : (cs.drop (j * 2)).length = 0 := by rw [hdl]; omega
      rw [List.length_eq_zero_iff.1 h0] at hu
      simp at hu
    · refine ⟨⟨b, off + j * 2, none⟩, by simp [h], fun t u hu => ?_⟩
      rw [Addr.add_lit, Nat.add_assoc]
      rw [List.getElem?_drop] at hu
      exact hcs _ u hu
  have hap : ∀ ty, (Builtin.append_ #[tSE, tSE] ty #[.slice (some ⟨b, off, none⟩) i c, .slice (some A) (n - j) (c - j)]).run Tryz.prog w.drew = .ok (.slice (some ⟨b, off, none⟩) (i + (n - j)) c) (w.drew.setCells b (off + i * 2) (cs.drop (j * 2))) := fun ty => by
    refine Am.run_append_room uSE uSE sz2E (v2 := cs.drop (j * 2)) (run_firstCells_some w.drew 2 (n - j) A (n - j) (c - j) (cs.drop (j * 2)) hdl hsrc) (by omega) ?_
    have h := run_storeCells_cells (P := Tryz.prog) b (off + i * 2) (cs.drop (j * 2)) 0 w.drew (fun q hq => by rw [Nat.add_zero, Nat.add_assoc]; exact hsp _ (by omega)) (fun q hq => by rw [Nat.add_zero, Nat.add_assoc]; exact hfz _ (by omega)) (fun v hv => h1c v (List.mem_of_mem_drop hv))
    rw [Nat.add_zero] at h
    show (storeCells ((⟨b, off, none⟩ : Addr).add (i * 2)) (cs.drop (j * 2))).run Tryz.prog w.drew = _
    rw [Addr.add_lit]
    exact h
  obtain ⟨W1, hW1⟩ : ∃ W1, W1 = w.drew.setCells b (off + i * 2) (cs.drop (j * 2)) := ⟨_, rfl⟩
  obtain ⟨Z, hZ⟩ : ∃ Z, Z = (Builtin.zeroCells (Value.agg #[.int .u64 0, .int .u64 0]).cells (n - (i + (n - j)))).toList := ⟨_, rfl⟩
  have hZl : Z.length = (n - (i + (n - j))) * 2 := by rw [hZ]; simp [Builtin.zeroCells, Value.cells]
  have hclr : ∀ ty (W : World), (∀ x, W.cell? x = W1.cell? x) → (∀ x, W.frozen? x = W1.frozen? x) → (Builtin.clear_ #[tSE] ty #[.slice (some ⟨b, off + (i + (n - j)) * 2, none⟩) (n - (i + (n - j))) (c - (i + (n - j)))]).run Tryz.prog W = .ok (.tuple #[]) (W.setCells b (off + (i + (n - j)) * 2) Z) := fun ty W hWc hWf =>
    run_clearZ (P := Tryz.prog) W tSE tE ty _ uSE zvE (by intro v hv; simp [Value.cells] at hv; rw [hv]; rfl) b (off + (i + (n - j)) * 2) _ _ (by omega) Z hZ
      (fun q hq => by rw [hWc, hW1, Nat.add_assoc]; exact isSome_setCells b _ _ _ (fun t ht => by rw [Nat.add_assoc]; exact hsp _ (by omega)) _ (hsp _ (by omega)))
      (fun q hq => by rw [hWf, hW1, World.frozen?_setCells, Nat.add_assoc]; exact hfz _ (by omega))
      (fun v hv => by rw [hZ] at hv; rw [mem_zeroE hv]; rfl)
  have hclr' := fun ty => hclr ty W1 (fun _ => rfl) (fun _ => rfl)
  rw [← hW1] at hap
  rw [← hW1, ← hZ]
  have hic : i ≤ c := by omega
  have hjc : j ≤ c := by omega
  have hb4 : ¬ (c = i + (n - j)) := by omega
  clear hclr hW1 hsrc hsp hcs hfz hZ hZl
  go_enter Tryz.func81, Tryz.ntmps81
  go_wp2_with fail
  go_region_law_o (refine step_append_runI rfl (.tmp 22) (.tmp 25) tSE tSE rfl _ _ (by simp [Act.eval, Act.put]) (by simp [Act.eval, Act.put, hA]) (hap _) ?_)
  go_wp2
  go_ret
  exact ⟨rfl, rfl⟩
end Go.Proofs.YtlcpcgdecodjfaaGreatDoor
namespace Go.Proofs.YtlcpcgdecodjfaaGreatDoor
open Go.RowKit Go.Lib Go.Proofs.YtlcpcgdecodjfaaGreatDoor.Am
set_option linter.unusedVariables false
set_option linter.unusedSimpArgs false

theorem onlyB_setCells (b : Nat) : ∀ (vs : List Value) (o : Nat) (w : World), OnlyB w (w.setCells b o vs) b
  | [], _, w => OnlyB.refl w b
  | v :: r, o, w => (OnlyB.setCell w ⟨b, o, none⟩ v rfl).trans (onlyB_setCells b r (o + 1) _)
theorem onlyB_drew (w : World) (b : Nat) : OnlyB w w.drew b := ⟨rfl, rfl, rfl, rfl, fun _ _ => rfl, fun _ h => h⟩
theorem kc2 (q : Nat) : kc [.u64, .u64] q = .u64 := by
  unfold kc
  have : q % 2 = 0 ∨ q % 2 = 1 := by omega
  rcases this with h | h <;> simp [h]
abbrev u64s (xs : List Int) : List Value := xs.map (Value.int .u64)
theorem u64s_at {xs : List Int} {j : Nat} {v : Value} (h : (u64s xs)[j]? = some v) : ∃ x, xs[j]? = some x ∧ v = .int .u64 x := by
  rw [List.getElem?_map] at h
  cases hx : xs[j]? with
  | none => rw [hx] at h; cases h
  | some x => rw [hx] at h; exact ⟨x, rfl, (Option.some.inj h).symm⟩
theorem u64s_one {xs : List Int} : ∀ v ∈ u64s xs, v.oneCell' = true := by
  intro v hv; obtain ⟨x, _, rfl⟩ := List.mem_map.1 hv; rfl
/-- A row with two words more, ahead of element i. -/
def insL (xs : List Int) (i : Nat) (r v : Int) : List Int := xs.take (i * 2) ++ r :: v :: xs.drop (i * 2)
def delL (xs : List Int) (i j : Nat) : List Int := xs.take (i * 2) ++ xs.drop (j * 2)
theorem insL_len (xs : List Int) (i : Nat) (r v : Int) : (insL xs i r v).length = xs.length + 2 := by
  unfold insL; simp only [List.length_append, List.length_take, List.length_cons, List.length_drop]; omega
theorem delL_len {xs : List Int} {i j n : Nat} (h : xs.length = n * 2) (hij : i ≤ j) (hj : j ≤ n) : (delL xs i j).length = (i + (n - j)) * 2 := by
  unfold delL; simp only [List.length_append, List.length_take, List.length_drop]; omega
theorem insL_at {xs : List Int} {i : Nat} {r v : Int} (hi : i * 2 ≤ xs.length) (q : Nat) : (insL xs i r v)[q]? = if q < i * 2 then xs[q]? else if q < (i + 1) * 2 then [r, v][q - i * 2]? else xs[q - 2]? := by
  unfold insL
  have hl : (xs.take (i * 2)).length = i * 2 := by rw [List.length_take]; omega
  rw [List.getElem?_append, hl]
  by_cases h1 : q < i * 2
  · rw [if_pos h1, if_pos h1, List.getElem?_take_of_lt h1]
  · rw [if_neg h1, if_neg h1]
    by_cases h2 : q < (i + 1) * 2
    · rw [if_pos h2]
      have : q - i * 2 = 0 ∨ q - i * 2 = 1 := by omega
      rcases this with h | h <;> rw [h] <;> rfl
    · rw [if_neg h2]
      obtain ⟨p, hp⟩ : ∃ p, q - i * 2 = p + 2 := ⟨q - i * 2 - 2, by omega⟩
      rw [hp, List.getElem?_cons_succ, List.getElem?_cons_succ, List.getElem?_drop]
      congr 1; omega
theorem delL_at {xs : List Int} {i j : Nat} (hi : i * 2 ≤ xs.length) (q : Nat) : (delL xs i j)[q]? = if q < i * 2 then xs[q]? else xs[j * 2 + (q - i * 2)]? := by
  unfold delL
  have hl : (xs.take (i * 2)).length = i * 2 := by rw [List.length_take]; omega
  rw [List.getElem?_append, hl]
  by_cases h1 : q < i * 2
  · rw [if_pos h1, if_pos h1, List.getElem?_take_of_lt h1]
  · rw [if_neg h1, if_neg h1, List.getElem?_drop]
section
variable {P : Program} {w0 w : World} {O : Env} {m : Nat → Option Nat} {g : Mem}
/-- An own slice of entries, opened. -/
theorem ow_open (h : HR w0 w O m g) {k n : Nat} {xs : List Int} {vs : Value} (hg : g k = some (.fl [.u64, .u64] xs)) (hv : TV w (Im m g) m (lens g) (.ow k 2 n) vs) :
    xs.length = n * 2 ∧ ((n = 0 ∧ ∃ a, vs = .slice a 0 0) ∨ ∃ cap b, m k = some b ∧ vs = .slice (some ⟨b, 0, none⟩) n cap ∧ (n ≤ cap ∧ n ≤ 9223372036854775807) ∧ Room w b (cap * 2) ∧ NoFrz w b ∧ FlatAt w b 0 [.u64, .u64] xs) := by
  have hl : lens g k = some (some xs.length) := by rw [lens_of hg]; rfl
  cases hv with
  | ow hh hlen =>
    have hx : xs.length = n * 2 := by
      rcases hlen with e | e
      · rw [hl] at e; cases e
      · rw [hl] at e; simpa using e
    obtain ⟨hz0, hle, h3⟩ := hh.os_inv hl
    refine ⟨hx, ?_⟩
    rcases h3 with ⟨h0, a, e⟩ | ⟨cap, b, hm, e, hcc, hr⟩
    · exact .inl ⟨h0, a, e⟩
    · have hB := h.blk k _ hg
      rw [hm] at hB
      obtain ⟨b1, b2, b3, b4⟩ := hB
      rw [Nat.zero_mul] at e
      rw [Nat.zero_add] at hr
      exact .inr ⟨cap, b, hm, e, hcc, hr, b3, b4⟩
/-- What was turned in its place is a slice under a name of its own. -/
theorem inplace (h : HR w0 w O m g) {w' : World} {k key b n n' cap : Nat} {xs xs' : List Int} (hk : g key = none) (hg : g k = some (.fl [.u64, .u64] xs)) (hm : m k = some b) (ob : OnlyB w w' b) (hl : xs'.length = n' * 2) (hcap : n' ≤ cap) (hn : n' ≤ 9223372036854775807)
    (hr : Room w b (cap * 2)) (hf : NoFrz w' b) (hfl : FlatAt w' b 0 [.u64, .u64] xs') :
    ∃ m', HR w0 w' O m' (upd g [(key, .fl [.u64, .u64] xs'), (k, .gone)]) ∧ Goes w w' (Im m g) (Im m' (upd g [(key, .fl [.u64, .u64] xs'), (k, .gone)])) m m' (lens g) (lens (upd g [(key, .fl [.u64, .u64] xs'), (k, .gone)])) ∧
      TV w' (Im m' (upd g [(key, .fl [.u64, .u64] xs'), (k, .gone)])) m' (lens (upd g [(key, .fl [.u64, .u64] xs'), (k, .gone)])) (.ow key 2 n') (.slice (some ⟨b, 0, none⟩) n' cap) := by
  have hlk : lens g k = some (some xs.length) := by rw [lens_of hg]; rfl
  have hr' : Room w' b (cap * 2) := ob.room _ hr
  have hr2 : Room w' b xs'.length := by
    obtain ⟨c, e, fz, h1, h2⟩ := hr'
    exact ⟨c, e, fz, h1, by rw [hl]; exact Nat.le_trans (Nat.mul_le_mul_right _ hcap) h2⟩
  obtain ⟨M1, M2, M3, M4⟩ := moveB h hk hlk hm ob (B := .fl [.u64, .u64] xs') (l' := xs'.length) rfl (fun G => ⟨by simp, hr2, hf, hfl⟩)
  refine ⟨_, M1, M2, ?_⟩
  have htv := TV.os (w := w') (I := Im (mk1 m key (some b)) (upd g [(key, .fl [.u64, .u64] xs'), (k, .gone)])) (off := 0) (n := n') (cap := cap) (sz := 2) M3 M4 (by omega) ⟨hcap, hn⟩ (by omega) (by rw [Nat.zero_add]; exact hr')
  rw [Nat.zero_mul] at htv
  exact .ow htv (.inr (by rw [M3, hl]))
/-- What lies in a new block is. -/
theorem anew (h : HR w0 w O m g) {w' : World} {k key n' cap : Nat} {xs xs' : List Int} (hk : g key = none) (hg : g k = some (.fl [.u64, .u64] xs)) (hb : Below w.heap.size w w') (hl : xs'.length = n' * 2) (hcap : n' ≤ cap) (hn : n' ≤ 9223372036854775807)
    (hr : Room w' w.heap.size (cap * 2)) (hf : NoFrz w' w.heap.size) (hfl : FlatAt w' w.heap.size 0 [.u64, .u64] xs') :
    ∃ m', HR w0 w' O m' (upd g [(key, .fl [.u64, .u64] xs'), (k, .gone)]) ∧ Goes w w' (Im m g) (Im m' (upd g [(key, .fl [.u64, .u64] xs'), (k, .gone)])) m m' (lens g) (lens (upd g [(key, .fl [.u64, .u64] xs'), (k, .gone)])) ∧
      TV w' (Im m' (upd g [(key, .fl [.u64, .u64] xs'), (k, .gone)])) m' (lens (upd g [(key, .fl [.u64, .u64] xs'), (k, .gone)])) (.ow key 2 n') (.slice (some ⟨w.heap.size, 0, none⟩) n' cap) := by
  have hne : key ≠ k := fun e => by subst e; rw [hk] at hg; cases hg
  have hd := h.drop k
  have hg1 : upd g [(k, Blk.gone)] key = none := by rw [upd_one, if_neg (Ne.symm hne)]; exact hk
  have hr2 : Room w' w.heap.size xs'.length := by
    obtain ⟨c, e, fz, h1, h2⟩ := hr
    exact ⟨c, e, fz, h1, by rw [hl]; exact Nat.le_trans (Nat.mul_le_mul_right _ hcap) h2⟩
  have hN := hd.newB (k := key) (n := some w.heap.size) (b := .fl [.u64, .u64] xs') hb hg1 (fun q hq => by cases hq; exact Nat.le_refl _) ⟨by simp, hr2, hf, hfl⟩
  have hG := Goes.new hd (k := key) (n := some w.heap.size) (b := .fl [.u64, .u64] xs') hb hg1 (fun q hq => by cases hq; exact Nat.le_refl _)
  rw [← upd_two] at hN hG
  refine ⟨_, hN, (Goes.drop h k).trans hG, ?_⟩
  have hlk : lens (upd g [(key, .fl [.u64, .u64] xs'), (k, .gone)]) key = some (some xs'.length) := by rw [upd_two, lens_upd, if_pos rfl]; rfl
  have htv := TV.os (w := w') (I := Im (mk1 m key (some w.heap.size)) (upd g [(key, .fl [.u64, .u64] xs'), (k, .gone)])) (off := 0) (n := n') (cap := cap) (sz := 2) hlk (show mk1 m key (some w.heap.size) key = _ by unfold mk1; rw [if_pos rfl]) (by omega) ⟨hcap, hn⟩ (by omega) (by rw [Nat.zero_add]; exact hr)
  rw [Nat.zero_mul] at htv
  exact .ow htv (.inr (by rw [hlk, hl]))
end
/-- slices.Insert(s, i, x). -/
def rInsE : Raw := ⟨71, fun key args g => match args with
  | [s, .v (.int .i64 i), .ow kx 2 1] => match g kx with
    | some (.fl [.u64, .u64] [a, b]) => match s with
      | .ow k 2 n => match g k with
        | some (.fl [.u64, .u64] xs) => match Nat.beq k kx with
          | true => none
          | false => some ⟨some (0 ≤ i ∧ i ≤ n ∧ n ≤ 1000), .ow key 2 (n + 1), [(key, .fl [.u64, .u64] (insL xs i.toNat a b)), (k, .gone)]⟩
        | _ => none
      | .v (.slice none 0 0) => some ⟨some (i = 0), .ow key 2 1, [(key, .fl [.u64, .u64] [a, b])]⟩
      | _ => none
    | _ => none
  | _ => none⟩
theorem room_fit {w : World} {b k : Nat} (h : Room w b k) (q : Nat) (hq : q < k) : (w.cell? ⟨b, q, none⟩).isSome = true := by
  obtain ⟨c, e, fz, h1, h2⟩ := h
  simp [World.cell?, h1, Array.getElem?_eq_getElem (show q < c.size by omega)]
theorem shift_cells {w : World} {b n i cap : Nat} {xs : List Int} {r v : Int} (hi : i < n) (hx : xs.length = n * 2) (hr : Room w b (cap * 2)) (hcap : n + 1 ≤ cap) (hfl : FlatAt w b 0 [.u64, .u64] xs) :
    FlatAt ((w.drew.setCells b (0 + (i + 1) * 2) ((u64s xs).drop (i * 2))).setCells b (0 + i * 2) (u64s [r, v])) b 0 [.u64, .u64] (insL xs i r v) := by
  intro q y hq
  have hql : q < (insL xs i r v).length := (List.getElem?_eq_some_iff.1 hq).1
  rw [insL_len] at hql
  rw [insL_at (by omega)] at hq
  rw [kc2, Nat.zero_add, Nat.zero_add, Nat.zero_add]
  have hdl : ((u64s xs).drop (i * 2)).length = (n - i) * 2 := by rw [List.length_drop, List.length_map, hx]; omega
  have hs0 : ∀ j, j < cap * 2 → (w.drew.cell? ⟨b, j, none⟩).isSome = true := fun j hj => room_fit hr j hj
  have hs1 : ∀ j, j < cap * 2 → ((w.drew.setCells b ((i + 1) * 2) ((u64s xs).drop (i * 2))).cell? ⟨b, j, none⟩).isSome = true := fun j hj => Go.Proofs.isSome_setCells b _ _ _ (fun t ht => hs0 _ (by omega)) _ (hs0 _ hj)
  by_cases h1 : q < i * 2
  · rw [if_pos h1] at hq
    rw [World.cell?_setCells_out b _ _ _ _ (fun _ _ => .inl (by show q < i * 2; omega)), World.cell?_setCells_out b _ _ _ _ (fun _ _ => .inl (by show q < (i + 1) * 2; omega))]
    have := hfl q y hq
    rw [kc2, Nat.zero_add] at this
    exact this
  · rw [if_neg h1] at hq
    by_cases h2 : q < (i + 1) * 2
    · rw [if_pos h2] at hq
      have hin := World.cell?_setCells_in b (u64s [r, v]) (i * 2) (w.drew.setCells b ((i + 1) * 2) ((u64s xs).drop (i * 2))) (fun j hj => hs1 _ (by simp at hj; omega)) (q - i * 2) (by simp; omega)
      rw [show i * 2 + (q - i * 2) = q by omega] at hin
      rw [hin]
      have : q - i * 2 = 0 ∨ q - i * 2 = 1 := by omega
      rcases this with h | h <;> simp only [h] at hq ⊢ <;> cases hq <;> rfl
    · rw [if_neg h2] at hq
      rw [World.cell?_setCells_out b _ _ _ _ (fun _ _ => .inr (by show i * 2 + 2 ≤ q; omega))]
      have hin := World.cell?_setCells_in b ((u64s xs).drop (i * 2)) ((i + 1) * 2) w.drew (fun j hj => hs0 _ (by omega)) (q - (i + 1) * 2) (by rw [hdl]; omega)
      rw [show (i + 1) * 2 + (q - (i + 1) * 2) = q by omega] at hin
      rw [hin, ← List.getElem?_eq_getElem, List.getElem?_drop, List.getElem?_map, show i * 2 + (q - (i + 1) * 2) = q - 2 by omega, hq]
      rfl
theorem below_only {B b : Nat} {w0 w w' : World} (hb : Below B w0 w) (h : OnlyB w w' b) (hB : B ≤ b) : Below B w0 w' :=
  hb.trans ⟨h.os, h.tape, h.output, Nat.le_of_eq h.size.symm, fun k hk => h.block k (by omega)⟩
/-- The row that Insert makes anew. -/
abbrev growRow (xs : List Int) (i k G : Nat) : Array Value := ((u64s xs).take (i * 2)).toArray ++ Builtin.zeroCells (Value.agg #[.int .u64 0, .int .u64 0]).cells k ++ Builtin.zeroCells (Value.agg #[.int .u64 0, .int .u64 0]).cells G
theorem growRow_size {xs : List Int} {i k G : Nat} (hi : i * 2 ≤ xs.length) : (growRow xs i k G).size = (i + k + G) * 2 := by
  simp [growRow, Builtin.zeroCells, Value.cells]; omega
abbrev growW (w : World) (ROW : Array Value) (i : Nat) (xs : List Int) (r v : Int) : World := (((w.alloc (.cells ROW tE)).drew.setCells w.heap.size (i * 2) (u64s [r, v])).drew).setCells w.heap.size ((i + 1) * 2) ((u64s xs).drop (i * 2))
theorem grow_facts {w : World} {n i G : Nat} {xs : List Int} {r v : Int} {ROW : Array Value} (hi : i < n) (hx : xs.length = n * 2) (hG : n + 1 ≤ G) (hsz : ROW.size = G * 2) (hrow : ∀ q, q < i * 2 → ROW[q]? = (u64s xs)[q]?) :
    Below w.heap.size w (growW w ROW i xs r v) ∧ Room (growW w ROW i xs r v) w.heap.size (G * 2) ∧ NoFrz (growW w ROW i xs r v) w.heap.size ∧ FlatAt (growW w ROW i xs r v) w.heap.size 0 [.u64, .u64] (insL xs i r v) := by
  have o1 := (onlyB_drew (w.alloc (.cells ROW tE)) w.heap.size).trans ((onlyB_setCells w.heap.size (u64s [r, v]) (i * 2) _).trans ((onlyB_drew _ w.heap.size).trans (onlyB_setCells w.heap.size ((u64s xs).drop (i * 2)) ((i + 1) * 2) _)))
  have hdl : ((u64s xs).drop (i * 2)).length = (n - i) * 2 := by rw [List.length_drop, List.length_map, hx]; omega
  have hc0 : ∀ j, (w.alloc (.cells ROW tE)).cell? ⟨w.heap.size, j, none⟩ = ROW[j]? := fun j => World.cell?_alloc_at (w := w) ROW _ w.heap.size j rfl
  have hs0 : ∀ j, j < G * 2 → ((w.alloc (.cells ROW tE)).drew.cell? ⟨w.heap.size, j, none⟩).isSome = true := fun j hj => by
    show ((w.alloc (.cells ROW tE)).cell? _).isSome = true
    rw [hc0, Array.getElem?_eq_getElem (by omega)]; rfl
  have hs1 : ∀ j, j < G * 2 → (((w.alloc (.cells ROW tE)).drew.setCells w.heap.size (i * 2) (u64s [r, v])).drew.cell? ⟨w.heap.size, j, none⟩).isSome = true := fun j hj => Go.Proofs.isSome_setCells _ _ _ _ (fun t ht => hs0 _ (by simp at ht; omega)) _ (hs0 _ hj)
  refine ⟨below_only (Below.one w _) o1 (Nat.le_refl _), o1.room _ ⟨ROW, tE, (0, 0), (by show (w.heap.push (.cells ROW tE))[w.heap.size]? = _; exact Array.getElem?_push_size), by omega⟩, fun o => ?_, fun q y hq => ?_⟩
  · rw [World.frozen?_setCells]
    show ((w.alloc (.cells ROW tE)).drew.setCells w.heap.size (i * 2) (u64s [r, v])).frozen? _ = false
    rw [World.frozen?_setCells]
    exact World.frozen?_alloc_at (w := w) ROW _ w.heap.size o rfl
  · have hql : q < (insL xs i r v).length := (List.getElem?_eq_some_iff.1 hq).1
    rw [insL_len] at hql
    rw [insL_at (by omega)] at hq
    rw [kc2, Nat.zero_add]
    by_cases h1 : q < i * 2
    · rw [if_pos h1] at hq
      rw [World.cell?_setCells_out _ _ _ _ _ (fun _ _ => .inl (by show q < (i + 1) * 2; omega))]
      show ((w.alloc (.cells ROW tE)).drew.setCells w.heap.size (i * 2) (u64s [r, v])).cell? _ = _
      rw [World.cell?_setCells_out _ _ _ _ _ (fun _ _ => .inl (by show q < i * 2; omega))]
      show (w.alloc (.cells ROW tE)).cell? _ = _
      rw [hc0, hrow q h1, List.getElem?_map, hq]; rfl
    · rw [if_neg h1] at hq
      by_cases h2 : q < (i + 1) * 2
      · rw [if_pos h2] at hq
        rw [World.cell?_setCells_out _ _ _ _ _ (fun _ _ => .inl (by show q < (i + 1) * 2; omega))]
        show ((w.alloc (.cells ROW tE)).drew.setCells w.heap.size (i * 2) (u64s [r, v])).cell? _ = _
        have hin := World.cell?_setCells_in w.heap.size (u64s [r, v]) (i * 2) (w.alloc (.cells ROW tE)).drew (fun j hj => hs0 _ (by simp at hj; omega)) (q - i * 2) (by simp; omega)
        rw [show i * 2 + (q - i * 2) = q by omega] at hin
        rw [hin]
        have : q - i * 2 = 0 ∨ q - i * 2 = 1 := by omega
        rcases this with h | h <;> simp only [h] at hq ⊢ <;> cases hq <;> rfl
      · rw [if_neg h2] at hq
        have hin := World.cell?_setCells_in w.heap.size ((u64s xs).drop (i * 2)) ((i + 1) * 2) (((w.alloc (.cells ROW tE)).drew.setCells w.heap.size (i * 2) (u64s [r, v])).drew) (fun j hj => hs1 _ (by omega)) (q - (i + 1) * 2) (by rw [hdl]; omega)
        rw [show (i + 1) * 2 + (q - (i + 1) * 2) = q by omega] at hin
        rw [hin, ← List.getElem?_eq_getElem, List.getElem?_drop, List.getElem?_map, show i * 2 + (q - (i + 1) * 2) = q - 2 by omega, hq]
        rfl
theorem zeroTE : zeroT Tryz.prog tE = some [.v (.int .u64 0), .v (.int .u64 0)] := by kernel_rfl
theorem bytesE : bytes? Tryz.prog tE = some 16 := by kernel_rfl
theorem appE_own {g : Mem} {key k kx n : Nat} {xs : List Int} {a b : Int} (hg : g k = some (.fl [.u64, .u64] xs)) (hx : g kx = some (.fl [.u64, .u64] [a, b])) :
    appendT Tryz.prog g key tSE tSE (.ow k 2 n) (.ow kx 2 1) = some ⟨some (n + 1 ≤ 1099511627776), .ow key 2 (n + 1), [(key, .fl [.u64, .u64] (xs ++ [a, b])), (k, .gone)]⟩ := by
  unfold appendT
  rw [uSE]
  simp only [sz2E, zeroTE, bytesE]
  simp only [contT, hg, hx, cellB, joinB, outUC]
  rfl
theorem appE_nil {g : Mem} {key kx : Nat} {a b : Int} (hx : g kx = some (.fl [.u64, .u64] [a, b])) :
    appendT Tryz.prog g key tSE tSE (.v (.slice none 0 0)) (.ow kx 2 1) = some ⟨some (1 * 16 ≤ 140737488355328), .ow key 2 1, [(key, .fl [.u64, .u64] [a, b])]⟩ := by
  unfold appendT
  rw [uSE]
  simp only [sz2E, zeroTE, bytesE]
  simp only [contT, hx, cellB, outUC]
  rfl
theorem insL_end {xs : List Int} {n : Nat} (a b : Int) (h : xs.length = n * 2) : insL xs n a b = xs ++ [a, b] := by
  unfold insL; rw [List.take_of_length_le (by omega), List.drop_eq_nil_of_le (by omega)]
theorem tvs3 {w : World} {I : Nat → Prop} {m : Nat → Option Nat} {L : Nat → Option (Option Nat)} {a b c : T} {vs : List Value} (h : TVs w I m L [a, b, c] vs) : ∃ x y z, vs = [x, y, z] ∧ TV w I m L a x ∧ TV w I m L b y ∧ TV w I m L c z := by
  cases h with | cons h1 h => cases h with | cons h2 h => cases h with | cons h3 h => cases h; exact ⟨_, _, _, rfl, h1, h2, h3⟩
theorem rInsE_calls : ∀ key args g o w0 w O m vs, rInsE.sp key args g = some o → o.ok → news g key = true → HR w0 w O m g → TVs w (Im m g) m (lens g) args vs →
    Calls Tryz.prog rInsE.f vs.toArray w fun e w' => ∃ v, e = .returned v ∧ ∃ m', HR w0 w' O m' (upd g o.up) ∧ Goes w w' (Im m g) (Im m' (upd g o.up)) m m' (lens g) (lens (upd g o.up)) ∧ TV w' (Im m' (upd g o.up)) m' (lens (upd g o.up)) o.t v := by
  intro key args g o w0 w O m vs hs hok hnw h ha
  have hkey : g key = none := by
    unfold news isNew at hnw
    cases e : g key with
    | none => rfl
    | some b => rw [e] at hnw; cases hnw
  simp only [rInsE] at hs
  split at hs
  · rename_i s i kx
    split at hs
    · rename_i a b hgx
      obtain ⟨v1, v2, v3, rfl, h1, h2, h3⟩ := tvs3 ha
      obtain ⟨rfl, -⟩ := h2.v_inv
      have happ : ∀ (o' : Out) (n : Nat) (v1 : Value), appendT Tryz.prog g key tSE tSE s (.ow kx 2 1) = some o' → o'.ok → TV w (Im m g) m (lens g) s v1 → (∃ base c, v1 = .slice base n c ∧ n ≤ c ∧ (base = none → n = 0 ∧ c = 0)) →
          (∀ {v3 : Value}, TV w (Im m g) m (lens g) (.ow kx 2 1) v3 → Calls Tryz.prog 71 #[v1, .int .i64 n, v3] w fun e w' => ∃ v, e = .returned v ∧ ∃ m', HR w0 w' O m' (upd g o'.up) ∧ Goes w w' (Im m g) (Im m' (upd g o'.up)) m m' (lens g) (lens (upd g o'.up)) ∧ TV w' (Im m' (upd g o'.up)) m' (lens (upd g o'.up)) o'.t v) := by
        intro o' n v1 hap hok' hv1 hb v3 hv3
        obtain ⟨base, c, rfl, hnc, hnil⟩ := hb
        obtain ⟨v', w', m', r1, r2, r3, r4⟩ := appendT_ok (P := Tryz.prog) (ty := tSE) h hkey hap hok' hv1 hv3
        obtain ⟨hxl, h3 | ⟨capx, bx, hmx, rfl, hcx, hrx, hfx, hflx⟩⟩ := ow_open h hgx hv3
        · omega
        · exact (insE_end base n c bx 0 1 capx w w' v' (by omega) hnc hnil r1).mono fun e w'' ⟨e1, e2⟩ => by subst e1; subst e2; exact ⟨v', rfl, m', r2, r3, r4⟩
      split at hs
      · rename_i k n
        split at hs
        · rename_i xs hgk
          split at hs
          · cases hs
          · rename_i hne
            cases hs
            obtain ⟨i0, i1, i2⟩ := hok _ rfl
            obtain ⟨i, rfl⟩ := Int.eq_ofNat_of_zero_le i0
            rw [Int.toNat_natCast]
            have hin : i ≤ n := by omega
            obtain ⟨hxs, hopen⟩ := ow_open h hgk h1
            by_cases hend : i = n
            · subst hend
              rw [insL_end a b hxs]
              refine happ _ i v1 (appE_own hgk hgx) (fun p hp => by cases hp; omega) h1 ?_ h3
              rcases hopen with ⟨rfl, a0, rfl⟩ | ⟨cap, b0, hm0, rfl, hcc, hr, hf, hfl⟩
              · exact ⟨_, _, rfl, Nat.le_refl _, fun _ => ⟨rfl, rfl⟩⟩
              · exact ⟨_, _, rfl, hcc.1, fun e => by cases e⟩
            · obtain ⟨cap, b0, hm0, rfl, hcc, hr, hf, hfl⟩ := hopen.resolve_left (by rintro ⟨h0, _⟩; omega)
              have a1 : i < n := by omega
              have a2 : (n + 1) * 16 ≤ 140737488355328 := by omega
              have a3 : n + 1 ≤ 9223372036854775807 := by omega
              have a4 : xs.length + 2 = (n + 1) * 2 := by omega
              have a5 : i * 2 ≤ xs.length := by omega
              have a6 : ∀ G, n + 1 ≤ G → (i + (n + 1 - i) + (G - (n + 1))) * 2 = G * 2 := by intro G hG; omega
              have a7 : ∀ k, k < (n + 1) * 2 → n + 1 ≤ cap → k < cap * 2 := by intro k h1 h2; omega
              have a8 : i * 2 ≤ (u64s xs).length := by rw [List.length_map]; exact a5
              obtain ⟨hxl, hx0 | ⟨capx, bx, hmx, rfl, hcx, hrx, hfx, hflx⟩⟩ := ow_open h hgx h3
              · omega
              have hbb : bx ≠ b0 := by
                intro e; subst e
                have := h.inj kx k _ _ _ (by rw [lens_of hgx]; rfl) (by rw [lens_of hgk]; rfl) hmx hm0
                subst this
                rw [Nat.beq_refl] at hne; cases hne
              have hcsx : ∀ j v, (u64s xs)[j]? = some v → w.cell? ⟨b0, 0 + j, none⟩ = some v := fun j v hj => by
                obtain ⟨y, hy, rfl⟩ := u64s_at hj
                rw [hfl j y hy, kc2]
              have hvsx : ∀ j v, (u64s [a, b])[j]? = some v → w.cell? ⟨bx, 0 + j, none⟩ = some v := fun j v hj => by
                obtain ⟨y, hy, rfl⟩ := u64s_at hj
                rw [hflx j y hy, kc2]
              by_cases hroom : n + 1 ≤ cap
              · obtain ⟨cx, ex, fx, hx1, hx2⟩ := hrx
                obtain ⟨cb, eb, fb, hb1, hb2⟩ := id hr
                have hsa : w.shape? bx = some (ex, cx.size) := by simp [World.shape?, hx1]
                have hsb : w.shape? b0 = some (eb, cb.size) := by simp [World.shape?, hb1]
                refine (insE_shift b0 0 n cap i bx 0 1 capx (u64s xs) (u64s [a, b]) w a1 Nat.one_pos hroom a3 hbb (by rw [List.length_map, hxs]) rfl hcsx (fun j hj => by rw [Nat.zero_add]; exact room_fit hr j (a7 j hj hroom)) (fun j hj => hf _) hvsx u64s_one u64s_one ex eb cx.size cb.size hsa hsb (fun e => by rw [e] at hb2; exact absurd (Nat.le_trans (Nat.mul_le_mul_right 2 hroom) hb2) (by rw [Nat.succ_mul]; exact Nat.not_succ_le_zero _)) (hfx _) (hfx _)).mono ?_
                rintro e w' ⟨rfl, rfl⟩
                have ob := (onlyB_drew w b0).trans ((onlyB_setCells b0 ((u64s xs).drop (i * 2)) (0 + (i + 1) * 2) _).trans (onlyB_setCells b0 (u64s [a, b]) (0 + i * 2) _))
                obtain ⟨m', q1, q2, q3⟩ := inplace h (n := n) hkey hgk hm0 ob (xs' := insL xs i a b) (n' := n + 1) (by rw [insL_len, a4]) hroom a3 hr (fun o => by rw [World.frozen?_setCells, World.frozen?_setCells]; exact hf o) (shift_cells a1 hxs hr hroom hfl)
                exact ⟨_, rfl, m', q1, q2, q3⟩
              · refine (insE_grow b0 0 n cap i bx 0 1 capx (u64s xs) (u64s [a, b]) w a1 Nat.one_pos hcc.1 (Nat.lt_of_not_le hroom) a2 (by rw [List.length_map, hxs]) rfl hcsx hvsx u64s_one u64s_one).mono ?_
                rintro e w' ⟨rfl, rfl⟩
                have hG : n + 1 ≤ grownCap w (n + 1) cap tE := grownCap_ge w _ _ _
                have hrs := growRow_size (xs := xs) (i := i) (k := n + 1 - i) (G := grownCap w (n + 1) cap tE - (n + 1)) a5
                obtain ⟨g1, g2, g3, g4⟩ := grow_facts (w := w) (r := a) (v := b) (ROW := growRow xs i (n + 1 - i) (grownCap w (n + 1) cap tE - (n + 1))) (n := n) (i := i) (G := grownCap w (n + 1) cap tE) (xs := xs) a1 hxs hG (by rw [hrs, a6 _ hG]) (fun q hq => by
                  have hl : ((u64s xs).take (i * 2)).length = i * 2 := by rw [List.length_take]; exact Nat.min_eq_left a8
                  rw [Array.getElem?_append_left (by rw [Array.size_append, List.size_toArray, hl]; exact Nat.lt_of_lt_of_le hq (Nat.le_add_right _ _)), Array.getElem?_append_left (by rw [List.size_toArray, hl]; exact hq), List.getElem?_toArray, List.getElem?_take_of_lt hq])
                obtain ⟨m', q1, q2, q3⟩ := anew h (cap := grownCap w (n + 1) cap tE) hkey hgk g1 (xs' := insL xs i a b) (n' := n + 1) (by rw [insL_len, a4]) hG a3 g2 g3 g4
                exact ⟨_, rfl, m', q1, q2, q3⟩
        · cases hs
      · cases hs
        obtain rfl := hok _ rfl
        obtain ⟨rfl, -⟩ := h1.v_inv
        exact happ _ 0 _ (appE_nil hgx) (fun p hp => by cases hp; omega) h1 ⟨_, _, rfl, Nat.le_refl _, fun _ => ⟨rfl, rfl⟩⟩ h3
      · cases hs
    · cases hs
  · cases hs
theorem rInsE_ok : rInsE.ok Tryz.prog := ⟨Am.enters_of Tryz.func71 (by kernel_rfl) (by kernel_rfl), by
  intro key args g g' h
  simp only [rInsE]
  split
  · rename_i s i kx
    have hx : g kx = g' kx := (h kx (by simp [keysTs, keysT])).eq
    rw [hx]
    split
    · split
      · rename_i k n
        have hk : g k = g' k := (h k (by simp [keysTs, keysT])).eq
        rw [hk]
      · rfl
      · rfl
    · rfl
  · rfl, rInsE_calls⟩
/-- slices.Delete(s, i, j). -/
def rDelE : Raw := ⟨81, fun key args g => match args with
  | [.ow k 2 n, .v (.int .i64 i), .v (.int .i64 j)] => match g k with
    | some (.fl [.u64, .u64] xs) => some ⟨some (0 ≤ i ∧ i < j ∧ j ≤ n ∧ n ≤ 1000), .ow key 2 (i.toNat + (n - j.toNat)), [(key, .fl [.u64, .u64] (delL xs i.toNat j.toNat)), (k, .gone)]⟩
    | _ => none
  | _ => none⟩
theorem del_cells {w : World} {b n i j : Nat} {xs : List Int} {zs : List Value} (hij : i < j) (hj : j ≤ n) (hx : xs.length = n * 2) (hfl : FlatAt w b 0 [.u64, .u64] xs) :
    FlatAt ((w.drew.setCells b (0 + i * 2) ((u64s xs).drop (j * 2))).setCells b (0 + (i + (n - j)) * 2) zs) b 0 [.u64, .u64] (delL xs i j) := by
  intro q y hq
  have hql : q < (delL xs i j).length := (List.getElem?_eq_some_iff.1 hq).1
  rw [delL_len hx (by omega) hj] at hql
  rw [delL_at (by omega)] at hq
  rw [kc2, Nat.zero_add, Nat.zero_add, Nat.zero_add]
  have hdl : ((u64s xs).drop (j * 2)).length = (n - j) * 2 := by rw [List.length_drop, List.length_map, hx]; omega
  have hs0 : ∀ t, t < xs.length → (w.drew.cell? ⟨b, t, none⟩).isSome = true := fun t ht => by
    have := hfl t _ (List.getElem?_eq_getElem ht)
    rw [Nat.zero_add] at this
    show (w.cell? _).isSome = true
    rw [this]; rfl
  rw [World.cell?_setCells_out b _ _ _ _ (fun _ _ => .inl hql)]
  by_cases h1 : q < i * 2
  · rw [if_pos h1] at hq
    rw [World.cell?_setCells_out b _ _ _ _ (fun _ _ => .inl h1)]
    have := hfl q y hq
    rw [kc2, Nat.zero_add] at this
    exact this
  · rw [if_neg h1] at hq
    have hin := World.cell?_setCells_in b ((u64s xs).drop (j * 2)) (i * 2) w.drew (fun t ht => hs0 _ (by omega)) (q - i * 2) (by rw [hdl]; omega)
    rw [show i * 2 + (q - i * 2) = q by omega] at hin
    rw [hin, ← List.getElem?_eq_getElem, List.getElem?_drop, List.getElem?_map, hq]
    rfl
theorem rDelE_calls : ∀ key args g o w0 w O m vs, rDelE.sp key args g = some o → o.ok → news g key = true → HR w0 w O m g → TVs w (Im m g) m (lens g) args vs →
    Calls Tryz.prog rDelE.f vs.toArray w fun e w' => ∃ v, e = .returned v ∧ ∃ m', HR w0 w' O m' (upd g o.up) ∧ Goes w w' (Im m g) (Im m' (upd g o.up)) m m' (lens g) (lens (upd g o.up)) ∧ TV w' (Im m' (upd g o.up)) m' (lens (upd g o.up)) o.t v := by
  intro key args g o w0 w O m vs hs hok hnw h ha
  have hkey : g key = none := by
    unfold news isNew at hnw
    cases e : g key with
    | none => rfl
    | some b => rw [e] at hnw; cases hnw
  simp only [rDelE] at hs
  split at hs
  · rename_i k n i j
    split at hs
    · rename_i xs hgk
      cases hs
      obtain ⟨v1, v2, v3, rfl, h1, h2, h3⟩ := tvs3 ha
      obtain ⟨rfl, -⟩ := h2.v_inv
      obtain ⟨rfl, -⟩ := h3.v_inv
      obtain ⟨i0, i1, i2, i3⟩ := hok _ rfl
      obtain ⟨i, rfl⟩ := Int.eq_ofNat_of_zero_le i0
      obtain ⟨j, rfl⟩ := Int.eq_ofNat_of_zero_le (a := j) (by omega)
      rw [Int.toNat_natCast, Int.toNat_natCast]
      have a1 : i < j := by omega
      have a2 : j ≤ n := by omega
      have a3 : i + (n - j) ≤ n := by omega
      obtain ⟨hxs, hopen⟩ := ow_open h hgk h1
      obtain ⟨cap, b0, hm0, rfl, hcc, hr, hf, hfl⟩ := hopen.resolve_left (by rintro ⟨h0, _⟩; omega)
      have hcsx : ∀ t v, (u64s xs)[t]? = some v → w.cell? ⟨b0, 0 + t, none⟩ = some v := fun t v ht => by
        obtain ⟨y, hy, rfl⟩ := u64s_at ht
        rw [hfl t y hy, kc2]
      refine (delE_run b0 0 n cap i j (u64s xs) w a1 a2 hcc.1 (by rw [List.length_map, hxs]) hcsx (fun t ht => hf _) u64s_one).mono ?_
      rintro e w' ⟨rfl, rfl⟩
      have ob := (onlyB_drew w b0).trans ((onlyB_setCells b0 ((u64s xs).drop (j * 2)) (0 + i * 2) _).trans (onlyB_setCells b0 (Builtin.zeroCells (Value.agg #[.int .u64 0, .int .u64 0]).cells (n - (i + (n - j)))).toList (0 + (i + (n - j)) * 2) _))
      obtain ⟨m', q1, q2, q3⟩ := inplace h (n := n) hkey hgk hm0 ob (xs' := delL xs i j) (n' := i + (n - j)) (delL_len hxs (Nat.le_of_lt a1) a2) (Nat.le_trans a3 hcc.1) (Nat.le_trans a3 hcc.2) hr (fun o => by rw [World.frozen?_setCells, World.frozen?_setCells]; exact hf o) (del_cells a1 a2 hxs hfl)
      exact ⟨_, rfl, m', q1, q2, q3⟩
    · cases hs
  · cases hs
theorem rDelE_ok : rDelE.ok Tryz.prog := ⟨Am.enters_of Tryz.func81 (by kernel_rfl) (by kernel_rfl), by
  intro key args g g' h
  simp only [rDelE]
  split
  · rename_i k n i j
    have hk : g k = g' k := (h k (by simp [keysTs, keysT])).eq
    rw [hk]
  · rfl, rDelE_calls⟩
end Go.Proofs.YtlcpcgdecodjfaaGreatDoor
namespace Go.Proofs.YtlcpcgdecodjfaaGreatDoor
open Go.RowKit Go.Proofs.YtlcpcgdecodjfaaGreatDoor.Am
set_option linter.unusedVariables false
set_option linter.unusedSimpArgs false

def eRk (rf : Int → Int) : Entry := ⟨44, 3, fun l => match l with
  | [.v (.int .u64 a)] => some (some (U64 a), .v (.int .u64 (rf a)), [])
  | _ => none⟩
noncomputable def ctxOrE0 (P : Program) (wf : Int → Int) (wb : Int → Bool) : Ctx := ctx P glM [eWd wf wb] [] (noEq P) [] (fun _ h => by cases h)
theorem ctxOrE0_good {wf : Int → Int} {wb : Int → Bool} (hwd : (eWd wf wb).ok Tryz.prog glM) : (ctxOrE0 Tryz.prog wf wb).good := ctx_good (by kernel_rfl) (AllOk.mem ⟨hwd, trivial⟩) glM_two
set_option maxRecDepth 100000 in
theorem keyO_pure (wf : Int → Int) (wb : Int → Bool) (hwd : (eWd wf wb).ok Tryz.prog glM) (most : Int) (n : Nat) (xs : List Int) (at_ : Int) (h0 : 0 ≤ at_) (h1 : at_ < n) (hu : U64 (xs.getD (at_.toNat * 2) 0)) : Pure Tryz.prog glM 39 [OT most n xs, .v (.int .i64 at_)] (.v (.int .u64 (wf (xs.getD (at_.toNat * 2) 0)))) := by
  have ex : xs.getD (0 + at_.toNat * (1 + 1)) 0 = xs.getD (at_.toNat * 2) 0 := by simp
  refine pure_of (C := ctxOrE0 Tryz.prog wf wb) (ctxOrE0_good hwd) Tryz.func39 (c := bodyOf Tryz.f39) (by rfl) (Nat.le_of_ble_eq_true (by rfl)) 4 0 [0, 1, 4, 5] ?_
  conv => whnf
  refine And.intro ⟨h0, h1⟩ ?_
  conv => whnf
  rw [ex]
  refine And.intro hu ?_
  conv => whnf
  repeat' (first | exact trivial | exact rfl | (refine And.intro ?_ ?_) | ((conv => whnf); done) | ((conv => whnf); (first | rfl | (refine congrArg (fun b => T.v (Value.bool b)) ?_; first | rfl | exact (decide_eq_true (by omega)).symm | exact (decide_eq_false (by omega)).symm | exact decide_eq_decide.2 (by omega)) | (refine congrArg (fun b => T.v (Value.int _ b)) ?_; first | rfl | omega) | omega)) | (first | rfl | (refine congrArg (fun b => T.v (Value.bool b)) ?_; first | rfl | exact (decide_eq_true (by omega)).symm | exact (decide_eq_false (by omega)).symm | exact decide_eq_decide.2 (by omega)) | (refine congrArg (fun b => T.v (Value.int _ b)) ?_; first | rfl | omega) | omega))
def eKeyO (wf : Int → Int) : Entry := ⟨39, 4, fun l => match l.map fixO with
  | [.sp [.v (.int .i64 most), .fl [.u64, .u64] n xs] 0, .v (.int .i64 at_)] => some (some (0 ≤ at_ ∧ at_ < n ∧ U64 (xs.getD (at_.toNat * 2) 0)), .v (.int .u64 (wf (xs.getD (at_.toNat * 2) 0))), [])
  | _ => none⟩
theorem eKeyO_ok {wf : Int → Int} {wb : Int → Bool} (hwd : (eWd wf wb).ok Tryz.prog glM) : (eKeyO wf).ok Tryz.prog glM := ⟨Am.enters_of Tryz.func39 (by kernel_rfl) (by kernel_rfl), by
  intro args c t bs h hc
  simp only [eKeyO] at h
  split at h <;> cases h
  rename_i heq
  obtain ⟨h1, h2, h3⟩ := hc _ rfl
  refine pure_fixO ?_
  rw [heq]
  exact keyO_pure wf wb hwd _ _ _ _ h1 h2 h3⟩
noncomputable def iPut : Inl := ⟨35, Tryz.f35, bodyOf Tryz.f35, [0, 1, 3, 4, 5, 6, 7, 8, 22, 41]⟩
theorem iPut_ok : iPut.ok Tryz.prog := Inl.mk_ok Tryz.func35 (by rfl) (by kernel_rfl) (by kernel_rfl)
noncomputable def iDel : Inl := ⟨53, Tryz.f53, bodyOf Tryz.f53, [0, 1, 3, 4, 5, 6, 7, 17]⟩
theorem iDel_ok : iDel.ok Tryz.prog := Inl.mk_ok Tryz.func53 (by rfl) (by kernel_rfl) (by kernel_rfl)
noncomputable def iNext : Inl := ⟨54, Tryz.f54, bodyOf Tryz.f54, [0, 1, 3, 4, 5, 6, 20, 29]⟩
theorem iNext_ok : iNext.ok Tryz.prog := Inl.mk_ok Tryz.func54 (by rfl) (by kernel_rfl) (by kernel_rfl)
noncomputable def iGet : Inl := ⟨52, Tryz.f52, bodyOf Tryz.f52, [0, 1, 3, 4, 5, 6, 16]⟩
theorem iGet_ok : iGet.ok Tryz.prog := Inl.mk_ok Tryz.func52 (by rfl) (by kernel_rfl) (by kernel_rfl)
noncomputable def iCount : Inl := ⟨55, Tryz.f55, bodyOf Tryz.f55, [0, 1, 4]⟩
theorem iCount_ok : iCount.ok Tryz.prog := Inl.mk_ok Tryz.func55 (by rfl) (by kernel_rfl) (by kernel_rfl)
noncomputable def iOdd : Inl := ⟨51, Tryz.f51, bodyOf Tryz.f51, [0, 2]⟩
theorem iOdd_ok : iOdd.ok Tryz.prog := Inl.mk_ok Tryz.func51 (by rfl) (by kernel_rfl) (by kernel_rfl)
noncomputable def inlE : List Inl := [iPut, iDel, iNext, iGet, iCount, iOdd, iMade]
theorem inlE_ok : InlOk Tryz.prog inlE := ⟨iPut_ok, iDel_ok, iNext_ok, iGet_ok, iCount_ok, iOdd_ok, iMade_ok, trivial⟩
theorem rawsE_ok : ∀ r ∈ [rInsE, rDelE], r.ok Tryz.prog := by
  intro r hr
  rcases List.mem_cons.1 hr with rfl | hr
  · exact rInsE_ok
  · rcases List.mem_cons.1 hr with rfl | hr
    · exact rDelE_ok
    · cases hr
noncomputable def ctxOrE (P : Program) (h : InlOk P inlE) (bf : Int → Int → Bool) (wf : Int → Int) (wb : Int → Bool) (rf : Int → Int) : Ctx := ctxR P glM [eOpenY bf wb, eFind, eRk rf, eWordsO bf, eKeyO wf, eFits] [rInsE, rDelE] [] (noEq P) inlE h.mem
theorem atO_ge {xs : List Int} {n : Nat} {r : Int} (hr : rises (rk xs n)) {i : Nat} (h : atO xs n r ≤ i) (hi : i < n) : r ≤ xs.getD (i * 2) 0 := by
  have hl : atO xs n r < (rk xs n).length := by rw [rk_len]; omega
  have h3 : r ≤ (rk xs n)[atO xs n r]'hl := of_decide_eq_true (List.findIdx_getElem (xs := rk xs n) (p := fun x => decide (r ≤ x)) (w := hl))
  have : (rk xs n)[atO xs n r]'hl = xs.getD (atO xs n r * 2) 0 := by
    have := rk_getD xs (n := n) (i := atO xs n r) (by omega)
    rw [← this, List.getD_eq_getElem?_getD, List.getElem?_eq_getElem hl]; rfl
  rw [this] at h3
  by_cases e : atO xs n r = i
  · rw [e] at h3; exact h3
  · have := rkr hr (i := atO xs n r) (j := i) (by omega) hi; omega
theorem insL_rank {xs : List Int} {n a : Nat} {r v : Int} (hl : xs.length = n * 2) (ha : a ≤ n) (i : Nat) : (insL xs a r v).getD (i * 2) 0 = if i < a then xs.getD (i * 2) 0 else if i = a then r else xs.getD ((i - 1) * 2) 0 := by
  rw [List.getD_eq_getElem?_getD, insL_at (by omega)]
  by_cases h1 : i < a
  · rw [if_pos (by omega), if_pos h1, ← List.getD_eq_getElem?_getD]
  · rw [if_neg (by omega), if_neg h1]
    by_cases h2 : i = a
    · subst h2; rw [if_pos (by omega), if_pos rfl, Nat.sub_self]; rfl
    · rw [if_neg (by omega), if_neg h2, ← List.getD_eq_getElem?_getD, show i * 2 - 2 = (i - 1) * 2 by omega]
theorem delL_rank {xs : List Int} {n a : Nat} (hl : xs.length = n * 2) (ha : a < n) (i : Nat) : (delL xs a (a + 1)).getD (i * 2) 0 = if i < a then xs.getD (i * 2) 0 else xs.getD ((i + 1) * 2) 0 := by
  rw [List.getD_eq_getElem?_getD, delL_at (by omega)]
  by_cases h1 : i < a
  · rw [if_pos (by omega), if_pos h1, ← List.getD_eq_getElem?_getD]
  · rw [if_neg (by omega), if_neg h1, ← List.getD_eq_getElem?_getD, show (a + 1) * 2 + (i * 2 - a * 2) = (i + 1) * 2 by omega]
theorem insL_rises {xs : List Int} {n : Nat} {r v : Int} (hl : xs.length = n * 2) (hr : rises (rk xs n)) (hno : isO xs n r = false) : rises (rk (insL xs (atO xs n r) r v) (n + 1)) := by
  have ha := atO_le xs n r
  have hgt : ∀ i, atO xs n r ≤ i → i < n → r < xs.getD (i * 2) 0 := by
    intro i h1 h2
    have h3 := atO_ge hr h1 h2
    by_cases e : atO xs n r = i
    · have : xs.getD (i * 2) 0 ≠ r := by
        intro h
        unfold isO at hno
        have := of_decide_eq_false hno
        exact this ⟨by omega, by rw [e]; exact h⟩
      omega
    · have h4 := atO_ge hr (Nat.le_refl (atO xs n r)) (by omega)
      have := rkr hr (i := atO xs n r) (j := i) (by omega) h2; omega
  intro i h0 h1
  rw [rk_len] at h1
  rw [rk_getD _ (by omega), rk_getD _ h1, insL_rank hl ha, insL_rank hl ha]
  by_cases c1 : i < atO xs n r
  · rw [if_pos c1, if_pos (by omega)]; exact rkr hr (by omega) (by omega)
  · rw [if_neg c1]
    by_cases c2 : i = atO xs n r
    · rw [if_pos c2, if_pos (by omega)]; exact atO_lt (n := n) (by omega)
    · rw [if_neg c2]
      by_cases c3 : i - 1 = atO xs n r
      · rw [if_neg (by omega), if_pos c3]; exact hgt _ (by omega) (by omega)
      · rw [if_neg (by omega), if_neg c3]; exact rkr hr (by omega) (by omega)
theorem delL_rises {xs : List Int} {n a : Nat} (hl : xs.length = n * 2) (hr : rises (rk xs n)) (ha : a < n) : rises (rk (delL xs a (a + 1)) (n - 1)) := by
  intro i h0 h1
  rw [rk_len] at h1
  rw [rk_getD _ (by omega), rk_getD _ h1, delL_rank hl ha, delL_rank hl ha]
  by_cases c1 : i < a
  · rw [if_pos c1, if_pos (by omega)]; exact rkr hr (by omega) (by omega)
  · rw [if_neg c1]
    by_cases c2 : i - 1 < a
    · rw [if_pos c2]; exact rkr hr (by omega) (by omega)
    · rw [if_neg c2]; exact rkr hr (by omega) (by omega)
structure OrdH (bf : Int → Int → Bool) (wf : Int → Int) (wb : Int → Bool) (rf : Int → Int) : Prop where
  bf : (eBf bf).ok Tryz.prog glM
  wd : (eWd wf wb).ok Tryz.prog glM
  rk : (eRk rf).ok Tryz.prog glM
  ru : ∀ a, U64 a → U64 (rf a)
  wr : ∀ a, U64 a → wb (rf a) = true
theorem ctxOrE_good {bf : Int → Int → Bool} {wf : Int → Int} {wb : Int → Bool} {rf : Int → Int} (h : OrdH bf wf wb rf) : (ctxOrE Tryz.prog inlE_ok bf wf wb rf).good := ctxR_good (by kernel_rfl) (AllOk.mem ⟨eOpenY_ok h.bf h.wd, eFind_ok, h.rk, eWordsO_ok h.bf, eKeyO_ok h.wd, entry_lift eFits_ok, trivial⟩) rawsE_ok glM_two
attribute [local irreducible] fitsB homeI wordsO rk atO isO unp insL delL
abbrev oArgs (p m : Int) (q : Nat) (w : List Int) (code key v : Int) : List T := [.agg [.v (.int .i64 4), .v (.int .i64 p), .v (.int .i64 m)], .fl [.u64] q w, .agg [.v (.int .i64 code), .v (.int .u64 key), .v (.int .u64 v)]]
set_option maxRecDepth 100000 in
theorem putNew_pure {bf : Int → Int → Bool} {wf : Int → Int} {wb : Int → Bool} {rf : Int → Int} (H : OrdH bf wf wb rf) (p : Int) (m q n : Nat) (w xs : List Int) (key v : Int) (hx : AllU w) (ho : OpenOk bf wb 4 p m w) (hn : (w.getD 0 0).toNat = n) (hxs : unp w n = xs) (hk : U64 key) (hv : U64 v) (hno : isO xs n (rf key) = false) (hroom : n < m) :
    Pure Tryz.prog glM 20 (oArgs p m q w 11 key v) (.tup [.ow 0 1 (2 + 4 * m), .agg [.v (.int .i64 0), .v (.int .u64 0)], .v (.int .i64 0)]) [(0, .fl [.u64] (wordsO bf m (n + 1) (insL xs (atO xs n (rf key)) (rf key) v)))] := by
  have hm1 := fits4 ho.1.1
  refine pure_of (C := ctxOrE Tryz.prog inlE_ok bf wf wb rf) (ctxOrE_good H) Tryz.func20 (c := bodyOf Tryz.f20) (by rfl) (Nat.le_of_ble_eq_true (by rfl)) 4 3 [0, 1, 2, 3, 5, 6, 7, 8, 9, 10, 11, 12, 20, 24, 25, 29, 33, 37, 41] ?_
  conv => whnf
  refine And.intro ⟨hx, ho⟩ ?_
  conv => whnf
  rw [hn, hxs]
  have hri : rises (rk xs n) := by rw [← hxs]; have := okE_rises ho.2.2.1; rw [hn] at this; exact this
  refine And.intro hk ?_
  conv => whnf
  refine And.intro ⟨by omega, hri⟩ ?_
  conv => whnf
  rw [hno]
  conv => whnf
  refine ifB_eq (fun h => ?_) (fun _ => ?_)
  · exfalso; omega
  conv => whnf
  have ha := atO_le xs n (rf key)
  refine And.intro (by omega) ?_
  conv => whnf
  have hlx : xs.length = n * 2 := by rw [← hxs]; exact unp_len w n
  rw [Int.toNat_natCast, Int.toNat_natCast]
  refine And.intro ⟨by omega, by omega, by omega, insL_rises hlx hri hno⟩ ?_
  conv => whnf
  repeat' (first | exact trivial | exact rfl | (refine And.intro ?_ ?_) | ((conv => whnf); done) | ((conv => whnf); (first | rfl | (refine congrArg (fun b => T.v (Value.bool b)) ?_; first | rfl | exact (decide_eq_true (by omega)).symm | exact (decide_eq_false (by omega)).symm | exact decide_eq_decide.2 (by omega)) | (refine congrArg (fun b => T.v (Value.int _ b)) ?_; first | rfl | omega) | omega)) | (first | rfl | (refine congrArg (fun b => T.v (Value.bool b)) ?_; first | rfl | exact (decide_eq_true (by omega)).symm | exact (decide_eq_false (by omega)).symm | exact decide_eq_decide.2 (by omega)) | (refine congrArg (fun b => T.v (Value.int _ b)) ?_; first | rfl | omega) | omega))
end Go.Proofs.YtlcpcgdecodjfaaGreatDoor
namespace Go.Proofs.YtlcpcgdecodjfaaGreatDoor
open Go.RowKit Go.Proofs.YtlcpcgdecodjfaaGreatDoor.Am
set_option linter.unusedVariables false
set_option linter.unusedSimpArgs false

/-- Where Next looks. -/
def nxO (xs : List Int) (n : Nat) (r v : Int) : Nat := if isO xs n r = true ∧ v ≠ 0 then atO xs n r + 1 else atO xs n r
def setL (xs : List Int) (a : Nat) (r v : Int) : List Int := (xs.set (a * 2) r).set (a * 2 + 1) v
theorem setL_getD {xs : List Int} {a : Nat} {r v : Int} (h : xs.getD (a * 2) 0 = r) (i : Nat) : (setL xs a r v).getD (i * 2) 0 = xs.getD (i * 2) 0 := by
  unfold setL
  have e : ∀ (l : List Int) (p q : Nat) (y : Int), p ≠ q → (l.set p y).getD q 0 = l.getD q 0 := fun l p q y h => by simp [List.getD, List.getElem?_set, h]
  rw [e _ _ _ _ (by omega)]
  by_cases hi : a = i
  · subst hi
    by_cases hl : a * 2 < xs.length
    · rw [← h]; simp [List.getD, List.getElem?_set, hl]
    · simp [List.getD, List.getElem?_set, hl]
  · exact e _ _ _ _ (by omega)
theorem setL_rk {xs : List Int} {n a : Nat} {r v : Int} (h : xs.getD (a * 2) 0 = r) : rk (setL xs a r v) n = rk xs n := by
  unfold rk
  exact List.map_congr_left fun i _ => setL_getD h i
attribute [local irreducible] fitsB homeI wordsO rk atO isO unp insL delL setL
set_option maxRecDepth 100000 in
theorem getNo_pure {bf : Int → Int → Bool} {wf : Int → Int} {wb : Int → Bool} {rf : Int → Int} (H : OrdH bf wf wb rf) (p : Int) (m q n : Nat) (w xs : List Int) (key v : Int) (hx : AllU w) (ho : OpenOk bf wb 4 p m w) (hn : (w.getD 0 0).toNat = n) (hxs : unp w n = xs) (hk : U64 key) (hv : U64 v) (his : isO xs n (rf key) = false) :
    Pure Tryz.prog glM 20 (oArgs p m q w 10 key v) (.tup [.ow 0 1 (2 + 4 * m), .agg [.v (.int .i64 12), .v (.int .u64 0)], .v (.int .i64 0)]) [(0, .fl [.u64] (wordsO bf m (n) (xs)))] := by
  have hm1 := fits4 ho.1.1
  have hnm : n ≤ m := by have := ho.2.1; omega
  refine pure_of (C := ctxOrE Tryz.prog inlE_ok bf wf wb rf) (ctxOrE_good H) Tryz.func20 (c := bodyOf Tryz.f20) (by rfl) (Nat.le_of_ble_eq_true (by rfl)) 4 3 [0, 1, 2, 3, 5, 6, 7, 8, 9, 10, 11, 12, 20, 24, 25, 29, 33, 37, 41] ?_
  conv => whnf
  refine And.intro ⟨hx, ho⟩ ?_
  conv => whnf
  rw [hn, hxs]
  have hri : rises (rk xs n) := by rw [← hxs]; have := okE_rises ho.2.2.1; rw [hn] at this; exact this
  have ha := atO_le xs n (rf key)
  have hlx : xs.length = n * 2 := by rw [← hxs]; exact unp_len w n
  refine And.intro hk ?_
  conv => whnf
  refine And.intro ⟨by omega, hri⟩ ?_
  conv => whnf
  rw [his]
  conv => whnf
  rw [Int.toNat_natCast]
  refine And.intro ⟨by omega, by omega, by omega, hri⟩ ?_
  conv => whnf
  repeat' (first | exact trivial | exact rfl | (refine And.intro ?_ ?_) | ((conv => whnf); done) | ((conv => whnf); (first | rfl | (refine congrArg (fun b => T.v (Value.bool b)) ?_; first | rfl | exact (decide_eq_true (by omega)).symm | exact (decide_eq_false (by omega)).symm | exact decide_eq_decide.2 (by omega)) | (refine congrArg (fun b => T.v (Value.int _ b)) ?_; first | rfl | omega) | omega)) | (first | rfl | (refine congrArg (fun b => T.v (Value.bool b)) ?_; first | rfl | exact (decide_eq_true (by omega)).symm | exact (decide_eq_false (by omega)).symm | exact decide_eq_decide.2 (by omega)) | (refine congrArg (fun b => T.v (Value.int _ b)) ?_; first | rfl | omega) | omega))
set_option maxRecDepth 100000 in
theorem getYes_pure {bf : Int → Int → Bool} {wf : Int → Int} {wb : Int → Bool} {rf : Int → Int} (H : OrdH bf wf wb rf) (p : Int) (m q n : Nat) (w xs : List Int) (key v : Int) (hx : AllU w) (ho : OpenOk bf wb 4 p m w) (hn : (w.getD 0 0).toNat = n) (hxs : unp w n = xs) (hk : U64 key) (hv : U64 v) (his : isO xs n (rf key) = true) :
    Pure Tryz.prog glM 20 (oArgs p m q w 10 key v) (.tup [.ow 0 1 (2 + 4 * m), .agg [.v (.int .i64 0), .v (.int .u64 (xs.getD (atO xs n (rf key) * 2 + 1) 0))], .v (.int .i64 0)]) [(0, .fl [.u64] (wordsO bf m (n) (xs)))] := by
  have hm1 := fits4 ho.1.1
  have hnm : n ≤ m := by have := ho.2.1; omega
  refine pure_of (C := ctxOrE Tryz.prog inlE_ok bf wf wb rf) (ctxOrE_good H) Tryz.func20 (c := bodyOf Tryz.f20) (by rfl) (Nat.le_of_ble_eq_true (by rfl)) 4 3 [0, 1, 2, 3, 5, 6, 7, 8, 9, 10, 11, 12, 20, 24, 25, 29, 33, 37, 41] ?_
  conv => whnf
  refine And.intro ⟨hx, ho⟩ ?_
  conv => whnf
  rw [hn, hxs]
  have hri : rises (rk xs n) := by rw [← hxs]; have := okE_rises ho.2.2.1; rw [hn] at this; exact this
  have ha := atO_le xs n (rf key)
  have hlx : xs.length = n * 2 := by rw [← hxs]; exact unp_len w n
  refine And.intro hk ?_
  conv => whnf
  refine And.intro ⟨by omega, hri⟩ ?_
  conv => whnf
  rw [his]
  conv => whnf
  have hlt : atO xs n (rf key) < n ∧ xs.getD (atO xs n (rf key) * 2) 0 = rf key := by unfold isO at his; exact of_decide_eq_true his
  have e1 : xs.getD (0 + 1 + addN 0 ((atO xs n (rf key) : Nat) : Int).toNat * (1 + 1)) 0 = xs.getD (atO xs n (rf key) * 2 + 1) 0 := by rw [Int.toNat_natCast, addN_eq]; congr 1; omega
  refine And.intro (by omega) ?_
  conv => whnf
  rw [Int.toNat_natCast]
  refine And.intro ⟨by omega, by omega, by omega, hri⟩ ?_
  conv => whnf
  rw [e1]
  repeat' (first | exact trivial | exact rfl | (refine And.intro ?_ ?_) | ((conv => whnf); done) | ((conv => whnf); (first | rfl | (refine congrArg (fun b => T.v (Value.bool b)) ?_; first | rfl | exact (decide_eq_true (by omega)).symm | exact (decide_eq_false (by omega)).symm | exact decide_eq_decide.2 (by omega)) | (refine congrArg (fun b => T.v (Value.int _ b)) ?_; first | rfl | omega) | omega)) | (first | rfl | (refine congrArg (fun b => T.v (Value.bool b)) ?_; first | rfl | exact (decide_eq_true (by omega)).symm | exact (decide_eq_false (by omega)).symm | exact decide_eq_decide.2 (by omega)) | (refine congrArg (fun b => T.v (Value.int _ b)) ?_; first | rfl | omega) | omega))
set_option maxRecDepth 100000 in
theorem putFull_pure {bf : Int → Int → Bool} {wf : Int → Int} {wb : Int → Bool} {rf : Int → Int} (H : OrdH bf wf wb rf) (p : Int) (m q n : Nat) (w xs : List Int) (key v : Int) (hx : AllU w) (ho : OpenOk bf wb 4 p m w) (hn : (w.getD 0 0).toNat = n) (hxs : unp w n = xs) (hk : U64 key) (hv : U64 v) (his : isO xs n (rf key) = false) (hfull : n = m) :
    Pure Tryz.prog glM 20 (oArgs p m q w 11 key v) (.tup [.ow 0 1 (2 + 4 * m), .agg [.v (.int .i64 11), .v (.int .u64 0)], .v (.int .i64 0)]) [(0, .fl [.u64] (wordsO bf m (n) (xs)))] := by
  have hm1 := fits4 ho.1.1
  have hnm : n ≤ m := by have := ho.2.1; omega
  refine pure_of (C := ctxOrE Tryz.prog inlE_ok bf wf wb rf) (ctxOrE_good H) Tryz.func20 (c := bodyOf Tryz.f20) (by rfl) (Nat.le_of_ble_eq_true (by rfl)) 4 3 [0, 1, 2, 3, 5, 6, 7, 8, 9, 10, 11, 12, 20, 24, 25, 29, 33, 37, 41] ?_
  conv => whnf
  refine And.intro ⟨hx, ho⟩ ?_
  conv => whnf
  rw [hn, hxs]
  have hri : rises (rk xs n) := by rw [← hxs]; have := okE_rises ho.2.2.1; rw [hn] at this; exact this
  have ha := atO_le xs n (rf key)
  have hlx : xs.length = n * 2 := by rw [← hxs]; exact unp_len w n
  refine And.intro hk ?_
  conv => whnf
  refine And.intro ⟨by omega, hri⟩ ?_
  conv => whnf
  rw [his]
  conv => whnf
  refine ifB_eq (fun _ => ?_) (fun h => ?_)
  · conv => whnf
    rw [Int.toNat_natCast]
    refine And.intro ⟨by omega, by omega, by omega, hri⟩ ?_
    conv => whnf
    repeat' (first | exact trivial | exact rfl | (refine And.intro ?_ ?_) | ((conv => whnf); done) | ((conv => whnf); (first | rfl | (refine congrArg (fun b => T.v (Value.bool b)) ?_; first | rfl | exact (decide_eq_true (by omega)).symm | exact (decide_eq_false (by omega)).symm | exact decide_eq_decide.2 (by omega)) | (refine congrArg (fun b => T.v (Value.int _ b)) ?_; first | rfl | omega) | omega)) | (first | rfl | (refine congrArg (fun b => T.v (Value.bool b)) ?_; first | rfl | exact (decide_eq_true (by omega)).symm | exact (decide_eq_false (by omega)).symm | exact decide_eq_decide.2 (by omega)) | (refine congrArg (fun b => T.v (Value.int _ b)) ?_; first | rfl | omega) | omega))
  · exfalso; omega
set_option maxRecDepth 100000 in
theorem putOld_pure {bf : Int → Int → Bool} {wf : Int → Int} {wb : Int → Bool} {rf : Int → Int} (H : OrdH bf wf wb rf) (p : Int) (m q n : Nat) (w xs : List Int) (key v : Int) (hx : AllU w) (ho : OpenOk bf wb 4 p m w) (hn : (w.getD 0 0).toNat = n) (hxs : unp w n = xs) (hk : U64 key) (hv : U64 v) (his : isO xs n (rf key) = true) :
    Pure Tryz.prog glM 20 (oArgs p m q w 11 key v) (.tup [.ow 0 1 (2 + 4 * m), .agg [.v (.int .i64 0), .v (.int .u64 (xs.getD (atO xs n (rf key) * 2 + 1) 0))], .v (.int .i64 0)]) [(0, .fl [.u64] (wordsO bf m (n) (setL xs (atO xs n (rf key)) (rf key) v)))] := by
  have hm1 := fits4 ho.1.1
  have hnm : n ≤ m := by have := ho.2.1; omega
  refine pure_of (C := ctxOrE Tryz.prog inlE_ok bf wf wb rf) (ctxOrE_good H) Tryz.func20 (c := bodyOf Tryz.f20) (by rfl) (Nat.le_of_ble_eq_true (by rfl)) 4 3 [0, 1, 2, 3, 5, 6, 7, 8, 9, 10, 11, 12, 20, 24, 25, 29, 33, 37, 41] ?_
  conv => whnf
  refine And.intro ⟨hx, ho⟩ ?_
  conv => whnf
  rw [hn, hxs]
  have hri : rises (rk xs n) := by rw [← hxs]; have := okE_rises ho.2.2.1; rw [hn] at this; exact this
  have ha := atO_le xs n (rf key)
  have hlx : xs.length = n * 2 := by rw [← hxs]; exact unp_len w n
  refine And.intro hk ?_
  conv => whnf
  refine And.intro ⟨by omega, hri⟩ ?_
  conv => whnf
  rw [his]
  conv => whnf
  have hlt : atO xs n (rf key) < n ∧ xs.getD (atO xs n (rf key) * 2) 0 = rf key := by unfold isO at his; exact of_decide_eq_true his
  have e1 : xs.getD (0 + 1 + addN 0 ((atO xs n (rf key) : Nat) : Int).toNat * (1 + 1)) 0 = xs.getD (atO xs n (rf key) * 2 + 1) 0 := by rw [Int.toNat_natCast, addN_eq]; congr 1; omega
  refine And.intro (by omega) ?_
  conv => whnf
  refine And.intro (by omega) ?_
  conv => whnf
  have e2 : (xs.set (0 + addN 0 ((atO xs n (rf key) : Nat) : Int).toNat * (1 + 1) + 0) (rf key)).set (0 + addN 0 ((atO xs n (rf key) : Nat) : Int).toNat * (1 + 1) + (0 + 1)) v = setL xs (atO xs n (rf key)) (rf key) v := by
    unfold setL
    rw [Int.toNat_natCast, addN_eq, Nat.zero_add, Nat.zero_add]
    rfl
  rw [e2, Int.toNat_natCast]
  refine And.intro ⟨by omega, by omega, by omega, by rw [setL_rk hlt.2]; exact hri⟩ ?_
  conv => whnf
  rw [e1]
  repeat' (first | exact trivial | exact rfl | (refine And.intro ?_ ?_) | ((conv => whnf); done) | ((conv => whnf); (first | rfl | (refine congrArg (fun b => T.v (Value.bool b)) ?_; first | rfl | exact (decide_eq_true (by omega)).symm | exact (decide_eq_false (by omega)).symm | exact decide_eq_decide.2 (by omega)) | (refine congrArg (fun b => T.v (Value.int _ b)) ?_; first | rfl | omega) | omega)) | (first | rfl | (refine congrArg (fun b => T.v (Value.bool b)) ?_; first | rfl | exact (decide_eq_true (by omega)).symm | exact (decide_eq_false (by omega)).symm | exact decide_eq_decide.2 (by omega)) | (refine congrArg (fun b => T.v (Value.int _ b)) ?_; first | rfl | omega) | omega))
set_option maxRecDepth 100000 in
theorem delNo_pure {bf : Int → Int → Bool} {wf : Int → Int} {wb : Int → Bool} {rf : Int → Int} (H : OrdH bf wf wb rf) (p : Int) (m q n : Nat) (w xs : List Int) (key v : Int) (hx : AllU w) (ho : OpenOk bf wb 4 p m w) (hn : (w.getD 0 0).toNat = n) (hxs : unp w n = xs) (hk : U64 key) (hv : U64 v) (his : isO xs n (rf key) = false) :
    Pure Tryz.prog glM 20 (oArgs p m q w 7 key v) (.tup [.ow 0 1 (2 + 4 * m), .agg [.v (.int .i64 12), .v (.int .u64 0)], .v (.int .i64 0)]) [(0, .fl [.u64] (wordsO bf m (n) (xs)))] := by
  have hm1 := fits4 ho.1.1
  have hnm : n ≤ m := by have := ho.2.1; omega
  refine pure_of (C := ctxOrE Tryz.prog inlE_ok bf wf wb rf) (ctxOrE_good H) Tryz.func20 (c := bodyOf Tryz.f20) (by rfl) (Nat.le_of_ble_eq_true (by rfl)) 4 3 [0, 1, 2, 3, 5, 6, 7, 8, 9, 10, 11, 12, 20, 24, 25, 29, 33, 37, 41] ?_
  conv => whnf
  refine And.intro ⟨hx, ho⟩ ?_
  conv => whnf
  rw [hn, hxs]
  have hri : rises (rk xs n) := by rw [← hxs]; have := okE_rises ho.2.2.1; rw [hn] at this; exact this
  have ha := atO_le xs n (rf key)
  have hlx : xs.length = n * 2 := by rw [← hxs]; exact unp_len w n
  refine And.intro hk ?_
  conv => whnf
  refine And.intro ⟨by omega, hri⟩ ?_
  conv => whnf
  rw [his]
  conv => whnf
  rw [Int.toNat_natCast]
  refine And.intro ⟨by omega, by omega, by omega, hri⟩ ?_
  conv => whnf
  repeat' (first | exact trivial | exact rfl | (refine And.intro ?_ ?_) | ((conv => whnf); done) | ((conv => whnf); (first | rfl | (refine congrArg (fun b => T.v (Value.bool b)) ?_; first | rfl | exact (decide_eq_true (by omega)).symm | exact (decide_eq_false (by omega)).symm | exact decide_eq_decide.2 (by omega)) | (refine congrArg (fun b => T.v (Value.int _ b)) ?_; first | rfl | omega) | omega)) | (first | rfl | (refine congrArg (fun b => T.v (Value.bool b)) ?_; first | rfl | exact (decide_eq_true (by omega)).symm | exact (decide_eq_false (by omega)).symm | exact decide_eq_decide.2 (by omega)) | (refine congrArg (fun b => T.v (Value.int _ b)) ?_; first | rfl | omega) | omega))
set_option maxRecDepth 100000 in
theorem delYes_pure {bf : Int → Int → Bool} {wf : Int → Int} {wb : Int → Bool} {rf : Int → Int} (H : OrdH bf wf wb rf) (p : Int) (m q n : Nat) (w xs : List Int) (key v : Int) (hx : AllU w) (ho : OpenOk bf wb 4 p m w) (hn : (w.getD 0 0).toNat = n) (hxs : unp w n = xs) (hk : U64 key) (hv : U64 v) (his : isO xs n (rf key) = true) :
    Pure Tryz.prog glM 20 (oArgs p m q w 7 key v) (.tup [.ow 0 1 (2 + 4 * m), .agg [.v (.int .i64 0), .v (.int .u64 (xs.getD (atO xs n (rf key) * 2 + 1) 0))], .v (.int .i64 0)]) [(0, .fl [.u64] (wordsO bf m (n - 1) (delL xs (atO xs n (rf key)) (atO xs n (rf key) + 1))))] := by
  have hm1 := fits4 ho.1.1
  have hnm : n ≤ m := by have := ho.2.1; omega
  refine pure_of (C := ctxOrE Tryz.prog inlE_ok bf wf wb rf) (ctxOrE_good H) Tryz.func20 (c := bodyOf Tryz.f20) (by rfl) (Nat.le_of_ble_eq_true (by rfl)) 4 3 [0, 1, 2, 3, 5, 6, 7, 8, 9, 10, 11, 12, 20, 24, 25, 29, 33, 37, 41] ?_
  conv => whnf
  refine And.intro ⟨hx, ho⟩ ?_
  conv => whnf
  rw [hn, hxs]
  have hri : rises (rk xs n) := by rw [← hxs]; have := okE_rises ho.2.2.1; rw [hn] at this; exact this
  have ha := atO_le xs n (rf key)
  have hlx : xs.length = n * 2 := by rw [← hxs]; exact unp_len w n
  refine And.intro hk ?_
  conv => whnf
  refine And.intro ⟨by omega, hri⟩ ?_
  conv => whnf
  rw [his]
  conv => whnf
  have hlt : atO xs n (rf key) < n ∧ xs.getD (atO xs n (rf key) * 2) 0 = rf key := by unfold isO at his; exact of_decide_eq_true his
  have e1 : xs.getD (0 + 1 + addN 0 ((atO xs n (rf key) : Nat) : Int).toNat * (1 + 1)) 0 = xs.getD (atO xs n (rf key) * 2 + 1) 0 := by rw [Int.toNat_natCast, addN_eq]; congr 1; omega
  refine And.intro (by omega) ?_
  conv => whnf
  have ew : IntKind.i64.wrap (((atO xs n (rf key) : Nat) : Int) + 1) = ((atO xs n (rf key) + 1 : Nat) : Int) := wrap64 (by omega) (by omega)
  rw [ew]
  refine And.intro (by omega) ?_
  conv => whnf
  rw [Int.toNat_natCast, Int.toNat_natCast, Int.toNat_natCast, show atO xs n (rf key) + (n - (atO xs n (rf key) + 1)) = n - 1 by omega]
  refine And.intro ⟨by omega, by omega, by omega, delL_rises hlx hri hlt.1⟩ ?_
  conv => whnf
  rw [Int.toNat_natCast] at e1
  rw [e1]
  repeat' (first | exact trivial | exact rfl | (refine And.intro ?_ ?_) | ((conv => whnf); done) | ((conv => whnf); (first | rfl | (refine congrArg (fun b => T.v (Value.bool b)) ?_; first | rfl | exact (decide_eq_true (by omega)).symm | exact (decide_eq_false (by omega)).symm | exact decide_eq_decide.2 (by omega)) | (refine congrArg (fun b => T.v (Value.int _ b)) ?_; first | rfl | omega) | omega)) | (first | rfl | (refine congrArg (fun b => T.v (Value.bool b)) ?_; first | rfl | exact (decide_eq_true (by omega)).symm | exact (decide_eq_false (by omega)).symm | exact decide_eq_decide.2 (by omega)) | (refine congrArg (fun b => T.v (Value.int _ b)) ?_; first | rfl | omega) | omega))
set_option maxRecDepth 100000 in
theorem count_pure {bf : Int → Int → Bool} {wf : Int → Int} {wb : Int → Bool} {rf : Int → Int} (H : OrdH bf wf wb rf) (p : Int) (m q n : Nat) (w xs : List Int) (key v : Int) (hx : AllU w) (ho : OpenOk bf wb 4 p m w) (hn : (w.getD 0 0).toNat = n) (hxs : unp w n = xs) (hk : U64 key) (hv : U64 v)  :
    Pure Tryz.prog glM 20 (oArgs p m q w 9 key v) (.tup [.ow 0 1 (2 + 4 * m), .agg [.v (.int .i64 0), .v (.int .u64 ((n : Int)))], .v (.int .i64 0)]) [(0, .fl [.u64] (wordsO bf m (n) (xs)))] := by
  have hm1 := fits4 ho.1.1
  have hnm : n ≤ m := by have := ho.2.1; omega
  refine pure_of (C := ctxOrE Tryz.prog inlE_ok bf wf wb rf) (ctxOrE_good H) Tryz.func20 (c := bodyOf Tryz.f20) (by rfl) (Nat.le_of_ble_eq_true (by rfl)) 4 3 [0, 1, 2, 3, 5, 6, 7, 8, 9, 10, 11, 12, 20, 24, 25, 29, 33, 37, 41] ?_
  conv => whnf
  refine And.intro ⟨hx, ho⟩ ?_
  conv => whnf
  rw [hn, hxs]
  have hri : rises (rk xs n) := by rw [← hxs]; have := okE_rises ho.2.2.1; rw [hn] at this; exact this
  have ha := atO_le xs n (rf key)
  have hlx : xs.length = n * 2 := by rw [← hxs]; exact unp_len w n
  have ew : IntKind.u64.wrap (n : Int) = n := wrapU (by omega) (by omega)
  try rw [ew]
  rw [Int.toNat_natCast]
  refine And.intro ⟨by omega, by omega, by omega, hri⟩ ?_
  conv => whnf
  repeat' (first | exact trivial | exact rfl | (refine And.intro ?_ ?_) | ((conv => whnf); done) | ((conv => whnf); (first | rfl | (refine congrArg (fun b => T.v (Value.bool b)) ?_; first | rfl | exact (decide_eq_true (by omega)).symm | exact (decide_eq_false (by omega)).symm | exact decide_eq_decide.2 (by omega)) | (refine congrArg (fun b => T.v (Value.int _ b)) ?_; first | rfl | omega) | omega)) | (first | rfl | (refine congrArg (fun b => T.v (Value.bool b)) ?_; first | rfl | exact (decide_eq_true (by omega)).symm | exact (decide_eq_false (by omega)).symm | exact decide_eq_decide.2 (by omega)) | (refine congrArg (fun b => T.v (Value.int _ b)) ?_; first | rfl | omega) | omega))
set_option maxRecDepth 100000 in
theorem nextNo_pure {bf : Int → Int → Bool} {wf : Int → Int} {wb : Int → Bool} {rf : Int → Int} (H : OrdH bf wf wb rf) (p : Int) (m q n : Nat) (w xs : List Int) (key v : Int) (hx : AllU w) (ho : OpenOk bf wb 4 p m w) (hn : (w.getD 0 0).toNat = n) (hxs : unp w n = xs) (hk : U64 key) (hv : U64 v) (hend : nxO xs n (rf key) v = n) :
    Pure Tryz.prog glM 20 (oArgs p m q w 8 key v) (.tup [.ow 0 1 (2 + 4 * m), .agg [.v (.int .i64 12), .v (.int .u64 0)], .v (.int .i64 0)]) [(0, .fl [.u64] (wordsO bf m (n) (xs)))] := by
  have hm1 := fits4 ho.1.1
  have hnm : n ≤ m := by have := ho.2.1; omega
  refine pure_of (C := ctxOrE Tryz.prog inlE_ok bf wf wb rf) (ctxOrE_good H) Tryz.func20 (c := bodyOf Tryz.f20) (by rfl) (Nat.le_of_ble_eq_true (by rfl)) 4 3 [0, 1, 2, 3, 5, 6, 7, 8, 9, 10, 11, 12, 20, 24, 25, 29, 33, 37, 41] ?_
  conv => whnf
  refine And.intro ⟨hx, ho⟩ ?_
  conv => whnf
  rw [hn, hxs]
  have hri : rises (rk xs n) := by rw [← hxs]; have := okE_rises ho.2.2.1; rw [hn] at this; exact this
  have ha := atO_le xs n (rf key)
  have hlx : xs.length = n * 2 := by rw [← hxs]; exact unp_len w n
  refine And.intro hk ?_
  conv => whnf
  refine And.intro ⟨by omega, hri⟩ ?_
  conv => whnf
  have ew : IntKind.i64.wrap (((atO xs n (rf key) : Nat) : Int) + 1) = ((atO xs n (rf key) + 1 : Nat) : Int) := wrap64 (by omega) (by omega)
  cases his : isO xs n (rf key)
  · conv => whnf
    have e : nxO xs n (rf key) v = atO xs n (rf key) := if_neg (by rw [his]; exact fun h => Bool.false_ne_true h.1)
    rw [e] at hend
    refine ifB_eq (fun _ => ?_) (fun h => ?_)
    · conv => whnf
      rw [Int.toNat_natCast]
      refine And.intro ⟨by omega, by omega, by omega, hri⟩ ?_
      conv => whnf
      repeat' (first | exact trivial | exact rfl | (refine And.intro ?_ ?_) | ((conv => whnf); done) | ((conv => whnf); (first | rfl | (refine congrArg (fun b => T.v (Value.bool b)) ?_; first | rfl | exact (decide_eq_true (by omega)).symm | exact (decide_eq_false (by omega)).symm | exact decide_eq_decide.2 (by omega)) | (refine congrArg (fun b => T.v (Value.int _ b)) ?_; first | rfl | omega) | omega)) | (first | rfl | (refine congrArg (fun b => T.v (Value.bool b)) ?_; first | rfl | exact (decide_eq_true (by omega)).symm | exact (decide_eq_false (by omega)).symm | exact decide_eq_decide.2 (by omega)) | (refine congrArg (fun b => T.v (Value.int _ b)) ?_; first | rfl | omega) | omega))
    · exfalso; omega
  · conv => whnf
    refine ifB_ne (fun h0 => ?_) (fun h0 => ?_)
    · conv => whnf
      have e : nxO xs n (rf key) v = atO xs n (rf key) + 1 := if_pos ⟨his, h0⟩
      rw [e] at hend
      rw [ew]
      refine ifB_eq (fun _ => ?_) (fun h => ?_)
      · conv => whnf
        rw [Int.toNat_natCast]
        refine And.intro ⟨by omega, by omega, by omega, hri⟩ ?_
        conv => whnf
        repeat' (first | exact trivial | exact rfl | (refine And.intro ?_ ?_) | ((conv => whnf); done) | ((conv => whnf); (first | rfl | (refine congrArg (fun b => T.v (Value.bool b)) ?_; first | rfl | exact (decide_eq_true (by omega)).symm | exact (decide_eq_false (by omega)).symm | exact decide_eq_decide.2 (by omega)) | (refine congrArg (fun b => T.v (Value.int _ b)) ?_; first | rfl | omega) | omega)) | (first | rfl | (refine congrArg (fun b => T.v (Value.bool b)) ?_; first | rfl | exact (decide_eq_true (by omega)).symm | exact (decide_eq_false (by omega)).symm | exact decide_eq_decide.2 (by omega)) | (refine congrArg (fun b => T.v (Value.int _ b)) ?_; first | rfl | omega) | omega))
      · exfalso; omega
    · conv => whnf
      have e : nxO xs n (rf key) v = atO xs n (rf key) := if_neg (fun h => h.2 h0)
      rw [e] at hend
      refine ifB_eq (fun _ => ?_) (fun h => ?_)
      · conv => whnf
        rw [Int.toNat_natCast]
        refine And.intro ⟨by omega, by omega, by omega, hri⟩ ?_
        conv => whnf
        repeat' (first | exact trivial | exact rfl | (refine And.intro ?_ ?_) | ((conv => whnf); done) | ((conv => whnf); (first | rfl | (refine congrArg (fun b => T.v (Value.bool b)) ?_; first | rfl | exact (decide_eq_true (by omega)).symm | exact (decide_eq_false (by omega)).symm | exact decide_eq_decide.2 (by omega)) | (refine congrArg (fun b => T.v (Value.int _ b)) ?_; first | rfl | omega) | omega)) | (first | rfl | (refine congrArg (fun b => T.v (Value.bool b)) ?_; first | rfl | exact (decide_eq_true (by omega)).symm | exact (decide_eq_false (by omega)).symm | exact decide_eq_decide.2 (by omega)) | (refine congrArg (fun b => T.v (Value.int _ b)) ?_; first | rfl | omega) | omega))
      · exfalso; omega
set_option maxRecDepth 100000 in
theorem nextYes_pure {bf : Int → Int → Bool} {wf : Int → Int} {wb : Int → Bool} {rf : Int → Int} (H : OrdH bf wf wb rf) (p : Int) (m q n : Nat) (w xs : List Int) (key v : Int) (hx : AllU w) (ho : OpenOk bf wb 4 p m w) (hn : (w.getD 0 0).toNat = n) (hxs : unp w n = xs) (hk : U64 key) (hv : U64 v) (hend : nxO xs n (rf key) v < n) :
    Pure Tryz.prog glM 20 (oArgs p m q w 8 key v) (.tup [.ow 0 1 (2 + 4 * m), .agg [.v (.int .i64 0), .v (.int .u64 (wf (xs.getD (nxO xs n (rf key) v * 2) 0)))], .v (.int .i64 0)]) [(0, .fl [.u64] (wordsO bf m (n) (xs)))] := by
  have hm1 := fits4 ho.1.1
  have hnm : n ≤ m := by have := ho.2.1; omega
  refine pure_of (C := ctxOrE Tryz.prog inlE_ok bf wf wb rf) (ctxOrE_good H) Tryz.func20 (c := bodyOf Tryz.f20) (by rfl) (Nat.le_of_ble_eq_true (by rfl)) 4 3 [0, 1, 2, 3, 5, 6, 7, 8, 9, 10, 11, 12, 20, 24, 25, 29, 33, 37, 41] ?_
  conv => whnf
  refine And.intro ⟨hx, ho⟩ ?_
  conv => whnf
  rw [hn, hxs]
  have hri : rises (rk xs n) := by rw [← hxs]; have := okE_rises ho.2.2.1; rw [hn] at this; exact this
  have ha := atO_le xs n (rf key)
  have hlx : xs.length = n * 2 := by rw [← hxs]; exact unp_len w n
  refine And.intro hk ?_
  conv => whnf
  refine And.intro ⟨by omega, hri⟩ ?_
  conv => whnf
  have ew : IntKind.i64.wrap (((atO xs n (rf key) : Nat) : Int) + 1) = ((atO xs n (rf key) + 1 : Nat) : Int) := wrap64 (by omega) (by omega)
  have hur : ∀ i, i < n → U64 (xs.getD (i * 2) 0) := fun i hi => by rw [← hxs, unp_getD w hi]; exact allU_getD hx _
  cases his : isO xs n (rf key)
  · conv => whnf
    have e : nxO xs n (rf key) v = atO xs n (rf key) := if_neg (by rw [his]; exact fun h => Bool.false_ne_true h.1)
    rw [e] at hend
    refine ifB_eq (fun h => ?_) (fun _ => ?_)
    · exfalso; omega
    · conv => whnf
      rw [Int.toNat_natCast]
      refine And.intro ⟨by omega, by omega, hur _ (by omega)⟩ ?_
      conv => whnf
      rw [Int.toNat_natCast, e]
      refine And.intro ⟨by omega, by omega, by omega, hri⟩ ?_
      conv => whnf
      repeat' (first | exact trivial | exact rfl | (refine And.intro ?_ ?_) | ((conv => whnf); done) | ((conv => whnf); (first | rfl | (refine congrArg (fun b => T.v (Value.bool b)) ?_; first | rfl | exact (decide_eq_true (by omega)).symm | exact (decide_eq_false (by omega)).symm | exact decide_eq_decide.2 (by omega)) | (refine congrArg (fun b => T.v (Value.int _ b)) ?_; first | rfl | omega) | omega)) | (first | rfl | (refine congrArg (fun b => T.v (Value.bool b)) ?_; first | rfl | exact (decide_eq_true (by omega)).symm | exact (decide_eq_false (by omega)).symm | exact decide_eq_decide.2 (by omega)) | (refine congrArg (fun b => T.v (Value.int _ b)) ?_; first | rfl | omega) | omega))
  · conv => whnf
    refine ifB_ne (fun h0 => ?_) (fun h0 => ?_)
    · conv => whnf
      have e : nxO xs n (rf key) v = atO xs n (rf key) + 1 := if_pos ⟨his, h0⟩
      rw [e] at hend
      rw [ew]
      refine ifB_eq (fun h => ?_) (fun _ => ?_)
      · exfalso; omega
      · conv => whnf
        rw [Int.toNat_natCast]
        refine And.intro ⟨by omega, by omega, hur _ (by omega)⟩ ?_
        conv => whnf
        rw [Int.toNat_natCast, e]
        refine And.intro ⟨by omega, by omega, by omega, hri⟩ ?_
        conv => whnf
        repeat' (first | exact trivial | exact rfl | (refine And.intro ?_ ?_) | ((conv => whnf); done) | ((conv => whnf); (first | rfl | (refine congrArg (fun b => T.v (Value.bool b)) ?_; first | rfl | exact (decide_eq_true (by omega)).symm | exact (decide_eq_false (by omega)).symm | exact decide_eq_decide.2 (by omega)) | (refine congrArg (fun b => T.v (Value.int _ b)) ?_; first | rfl | omega) | omega)) | (first | rfl | (refine congrArg (fun b => T.v (Value.bool b)) ?_; first | rfl | exact (decide_eq_true (by omega)).symm | exact (decide_eq_false (by omega)).symm | exact decide_eq_decide.2 (by omega)) | (refine congrArg (fun b => T.v (Value.int _ b)) ?_; first | rfl | omega) | omega))
    · conv => whnf
      have e : nxO xs n (rf key) v = atO xs n (rf key) := if_neg (fun h => h.2 h0)
      rw [e] at hend
      refine ifB_eq (fun h => ?_) (fun _ => ?_)
      · exfalso; omega
      · conv => whnf
        rw [Int.toNat_natCast]
        refine And.intro ⟨by omega, by omega, hur _ (by omega)⟩ ?_
        conv => whnf
        rw [Int.toNat_natCast, e]
        refine And.intro ⟨by omega, by omega, by omega, hri⟩ ?_
        conv => whnf
        repeat' (first | exact trivial | exact rfl | (refine And.intro ?_ ?_) | ((conv => whnf); done) | ((conv => whnf); (first | rfl | (refine congrArg (fun b => T.v (Value.bool b)) ?_; first | rfl | exact (decide_eq_true (by omega)).symm | exact (decide_eq_false (by omega)).symm | exact decide_eq_decide.2 (by omega)) | (refine congrArg (fun b => T.v (Value.int _ b)) ?_; first | rfl | omega) | omega)) | (first | rfl | (refine congrArg (fun b => T.v (Value.bool b)) ?_; first | rfl | exact (decide_eq_true (by omega)).symm | exact (decide_eq_false (by omega)).symm | exact decide_eq_decide.2 (by omega)) | (refine congrArg (fun b => T.v (Value.int _ b)) ?_; first | rfl | omega) | omega))
set_option maxRecDepth 100000 in
theorem oddO_pure {bf : Int → Int → Bool} {wf : Int → Int} {wb : Int → Bool} {rf : Int → Int} (H : OrdH bf wf wb rf) (p : Int) (m q n : Nat) (w xs : List Int) (code key v : Int) (hx : AllU w) (ho : OpenOk bf wb 4 p m w) (hn : (w.getD 0 0).toNat = n) (hxs : unp w n = xs) (hk : U64 key) (hv : U64 v) (hc : code ≠ 7 ∧ code ≠ 8 ∧ code ≠ 9 ∧ code ≠ 10 ∧ code ≠ 11) :
    Pure Tryz.prog glM 20 (oArgs p m q w code key v) (.tup [.ow 0 1 (2 + 4 * m), .agg [.v (.int .i64 10), .v (.int .u64 0)], .v (.int .i64 0)]) [(0, .fl [.u64] (wordsO bf m (n) (xs)))] := by
  have hm1 := fits4 ho.1.1
  have hnm : n ≤ m := by have := ho.2.1; omega
  refine pure_of (C := ctxOrE Tryz.prog inlE_ok bf wf wb rf) (ctxOrE_good H) Tryz.func20 (c := bodyOf Tryz.f20) (by rfl) (Nat.le_of_ble_eq_true (by rfl)) 4 3 [0, 1, 2, 3, 5, 6, 7, 8, 9, 10, 11, 12, 20, 24, 25, 29, 33, 37, 41] ?_
  conv => whnf
  refine And.intro ⟨hx, ho⟩ ?_
  conv => whnf
  rw [hn, hxs]
  have hri : rises (rk xs n) := by rw [← hxs]; have := okE_rises ho.2.2.1; rw [hn] at this; exact this
  have ha := atO_le xs n (rf key)
  have hlx : xs.length = n * 2 := by rw [← hxs]; exact unp_len w n
  repeat' (first | (refine ifB_t (by assumption) ?_; conv => whnf) | (refine ifB_f (by assumption) ?_; conv => whnf) | (refine ifB_dec (fun h => ?_) (fun h => ?_) <;> (first | (exfalso; omega) | (conv => whnf))) | (refine ifB_eq (fun h => ?_) (fun h => ?_) <;> (first | (exfalso; omega) | (conv => whnf))) | (refine ifB_ne (fun h => ?_) (fun h => ?_) <;> (first | (exfalso; omega) | (conv => whnf))) | (refine ifB_not ?_; conv => whnf) | (refine ifB_and ?_; conv => whnf) | (refine ifB_or ?_; conv => whnf) | (refine And.intro ?_ ?_; (first | omega | assumption | (exact allU_getD (by assumption) _) | (simp only [cutL]; omega) | (refine And.intro ?_ ?_ <;> first | assumption | exact allU_getD (by assumption) _) | (simp only [cutL, IntKind.wrap_u64, IntKind.wrap_i64] at *; omega) | decide); conv => whnf) | (refine ifB_mk (fun h => ?_) (fun h => ?_) <;> (conv => whnf)))
  all_goals (
    rw [Int.toNat_natCast]
    refine And.intro ⟨by omega, by omega, by omega, hri⟩ ?_
    conv => whnf
    repeat' (first | exact trivial | exact rfl | (refine And.intro ?_ ?_) | ((conv => whnf); done) | ((conv => whnf); (first | rfl | (refine congrArg (fun b => T.v (Value.bool b)) ?_; first | rfl | exact (decide_eq_true (by omega)).symm | exact (decide_eq_false (by omega)).symm | exact decide_eq_decide.2 (by omega)) | (refine congrArg (fun b => T.v (Value.int _ b)) ?_; first | rfl | omega) | omega)) | (first | rfl | (refine congrArg (fun b => T.v (Value.bool b)) ?_; first | rfl | exact (decide_eq_true (by omega)).symm | exact (decide_eq_false (by omega)).symm | exact decide_eq_decide.2 (by omega)) | (refine congrArg (fun b => T.v (Value.int _ b)) ?_; first | rfl | omega) | omega))
    )
end Go.Proofs.YtlcpcgdecodjfaaGreatDoor
namespace Go.Proofs.YtlcpcgdecodjfaaGreatDoor
open Go.RowKit Go.Proofs.YtlcpcgdecodjfaaGreatDoor.Am
set_option linter.unusedVariables false
set_option linter.unusedSimpArgs false

/-- How many entries there are behind a call, the entries, the error, what is told. -/
def ordDo (wf rf : Int → Int) (m n : Nat) (xs : List Int) (code key v : Int) : Nat × List Int × Int × Int :=
  if code = 10 then if isO xs n (rf key) = true then (n, xs, 0, xs.getD (atO xs n (rf key) * 2 + 1) 0) else (n, xs, 12, 0)
  else if code = 11 then
    if isO xs n (rf key) = true then (n, setL xs (atO xs n (rf key)) (rf key) v, 0, xs.getD (atO xs n (rf key) * 2 + 1) 0)
    else if n = m then (n, xs, 11, 0)
    else (n + 1, insL xs (atO xs n (rf key)) (rf key) v, 0, 0)
  else if code = 7 then if isO xs n (rf key) = true then (n - 1, delL xs (atO xs n (rf key)) (atO xs n (rf key) + 1), 0, xs.getD (atO xs n (rf key) * 2 + 1) 0) else (n, xs, 12, 0)
  else if code = 8 then if nxO xs n (rf key) v < n then (n, xs, 0, wf (xs.getD (nxO xs n (rf key) v * 2) 0)) else (n, xs, 12, 0)
  else if code = 9 then (n, xs, 0, (n : Int))
  else (n, xs, 10, 0)
abbrev ordT (bf : Int → Int → Bool) (m : Nat) (r : Nat × List Int × Int × Int) : T := .tup [.ow 0 1 (2 + 4 * m), .agg [.v (.int .i64 r.2.2.1), .v (.int .u64 r.2.2.2)], .v (.int .i64 0)]
abbrev ordB (bf : Int → Int → Bool) (m : Nat) (r : Nat × List Int × Int × Int) : Hp := [(0, .fl [.u64] (wordsO bf m r.1 r.2.1))]
theorem nxO_le (xs : List Int) (n : Nat) (r v : Int) : nxO xs n r v ≤ n := by
  unfold nxO
  split
  · rename_i h
    have := h.1
    unfold isO at this
    have := (of_decide_eq_true this).1
    omega
  · exact atO_le xs n r
theorem applyO_pure {bf : Int → Int → Bool} {wf : Int → Int} {wb : Int → Bool} {rf : Int → Int} (H : OrdH bf wf wb rf) (p : Int) (m q n : Nat) (w xs : List Int) (code key v : Int) (hx : AllU w) (ho : OpenOk bf wb 4 p m w) (hn : (w.getD 0 0).toNat = n) (hxs : unp w n = xs) (hk : U64 key) (hv : U64 v) :
    Pure Tryz.prog glM 20 (oArgs p m q w code key v) (ordT bf m (ordDo wf rf m n xs code key v)) (ordB bf m (ordDo wf rf m n xs code key v)) := by
  have hnm : n ≤ m := by have := ho.2.1; omega
  by_cases h10 : code = 10
  · subst h10
    cases his : isO xs n (rf key)
    · rw [show ordDo wf rf m n xs 10 key v = (n, xs, 12, 0) by simp [ordDo, his]]
      exact getNo_pure H p m q n w xs key v hx ho hn hxs hk hv his
    · rw [show ordDo wf rf m n xs 10 key v = (n, xs, 0, xs.getD (atO xs n (rf key) * 2 + 1) 0) by simp [ordDo, his]]
      exact getYes_pure H p m q n w xs key v hx ho hn hxs hk hv his
  by_cases h11 : code = 11
  · subst h11
    cases his : isO xs n (rf key)
    · by_cases hf : n = m
      · rw [show ordDo wf rf m n xs 11 key v = (n, xs, 11, 0) by subst hf; simp [ordDo, his]]
        exact putFull_pure H p m q n w xs key v hx ho hn hxs hk hv his hf
      · rw [show ordDo wf rf m n xs 11 key v = (n + 1, insL xs (atO xs n (rf key)) (rf key) v, 0, 0) by simp [ordDo, his, hf]]
        exact putNew_pure H p m q n w xs key v hx ho hn hxs hk hv his (by omega)
    · rw [show ordDo wf rf m n xs 11 key v = (n, setL xs (atO xs n (rf key)) (rf key) v, 0, xs.getD (atO xs n (rf key) * 2 + 1) 0) by simp [ordDo, his]]
      exact putOld_pure H p m q n w xs key v hx ho hn hxs hk hv his
  by_cases h7 : code = 7
  · subst h7
    cases his : isO xs n (rf key)
    · rw [show ordDo wf rf m n xs 7 key v = (n, xs, 12, 0) by simp [ordDo, his]]
      exact delNo_pure H p m q n w xs key v hx ho hn hxs hk hv his
    · rw [show ordDo wf rf m n xs 7 key v = (n - 1, delL xs (atO xs n (rf key)) (atO xs n (rf key) + 1), 0, xs.getD (atO xs n (rf key) * 2 + 1) 0) by simp [ordDo, his]]
      exact delYes_pure H p m q n w xs key v hx ho hn hxs hk hv his
  by_cases h8 : code = 8
  · subst h8
    have := nxO_le xs n (rf key) v
    by_cases hl : nxO xs n (rf key) v < n
    · rw [show ordDo wf rf m n xs 8 key v = (n, xs, 0, wf (xs.getD (nxO xs n (rf key) v * 2) 0)) by simp [ordDo, hl]]
      exact nextYes_pure H p m q n w xs key v hx ho hn hxs hk hv hl
    · rw [show ordDo wf rf m n xs 8 key v = (n, xs, 12, 0) by simp [ordDo, hl]]
      exact nextNo_pure H p m q n w xs key v hx ho hn hxs hk hv (by omega)
  by_cases h9 : code = 9
  · subst h9
    rw [show ordDo wf rf m n xs 9 key v = (n, xs, 0, (n : Int)) by simp [ordDo]]
    exact count_pure H p m q n w xs key v hx ho hn hxs hk hv
  rw [show ordDo wf rf m n xs code key v = (n, xs, 10, 0) by simp [ordDo, h7, h8, h9, h10, h11]]
  exact oddO_pure H p m q n w xs code key v hx ho hn hxs hk hv ⟨h7, h8, h9, h10, h11⟩

/-! ### words opened again -/
theorem spl_getD_out {xs ys : List Int} {o i : Nat} (h : o + ys.length ≤ xs.length) (hi : i < o ∨ o + ys.length ≤ i) : (spl xs o ys).getD i 0 = xs.getD i 0 := by
  rw [List.getD_eq_getElem?_getD, spl_at h]
  by_cases h1 : i < o
  · rw [if_pos h1, ← List.getD_eq_getElem?_getD]
  · rw [if_neg h1, if_neg (by omega), ← List.getD_eq_getElem?_getD]
theorem spl_getD_in {xs ys : List Int} {o i : Nat} (h : o + ys.length ≤ xs.length) (h1 : o ≤ i) (h2 : i < o + ys.length) : (spl xs o ys).getD i 0 = ys.getD (i - o) 0 := by
  rw [List.getD_eq_getElem?_getD, spl_at h, if_neg (by omega), if_pos h2, ← List.getD_eq_getElem?_getD]
section
variable (bf : Int → Int → Bool) (most n : Nat) (xs : List Int)
theorem wst_fit {j : Nat} (h : j < most) (a b c d : Int) : 2 + 4 * j + [a, b, c, d].length ≤ (wst bf most n xs j).length := by
  rw [wst_len bf most n xs j (by omega)]; simp only [List.length_cons, List.length_nil]; omega
theorem wst_head : ∀ j, j ≤ most → (wst bf most n xs j).getD 0 0 = (n : Int)
  | 0, _ => by
    simp only [wst]
    rw [List.getD_eq_getElem?_getD, List.getElem?_set_ne (by omega), List.getElem?_set_self (by rw [List.length_replicate]; omega)]; rfl
  | j + 1, h => by
    simp only [wst]
    rw [spl_getD_out (wst_fit bf most n xs (by omega) _ _ _ _) (.inl (by omega))]
    exact wst_head j (by omega)
theorem wst_ent : ∀ j, j ≤ most → ∀ i, i < j → (wst bf most n xs j).getD (2 + 4 * i) 0 = xs.getD (i * 2) 0 ∧ (wst bf most n xs j).getD (2 + 4 * i + 1) 0 = xs.getD (i * 2 + 1) 0
  | 0, _, i, hi => by omega
  | j + 1, h, i, hi => by
    simp only [wst]
    have hf := wst_fit bf most n xs (j := j) (by omega)
    by_cases e : i = j
    · subst e
      rw [spl_getD_in (hf _ _ _ _) (by omega) (by simp only [List.length_cons, List.length_nil]; omega), spl_getD_in (hf _ _ _ _) (by omega) (by simp only [List.length_cons, List.length_nil]; omega), Nat.sub_self, show 2 + 4 * i + 1 - (2 + 4 * i) = 1 by omega]
      exact ⟨rfl, rfl⟩
    · rw [spl_getD_out (hf _ _ _ _) (.inl (by omega)), spl_getD_out (hf _ _ _ _) (.inl (by omega))]
      exact wst_ent j (by omega) i (by omega)
theorem allU_spl {xs ys : List Int} {o : Nat} (h1 : AllU xs) (h2 : AllU ys) : AllU (spl xs o ys) := by
  intro x hx
  unfold spl at hx
  rcases List.mem_append.1 hx with hx | hx
  · exact h1 x (List.mem_of_mem_take hx)
  · rcases List.mem_append.1 hx with hx | hx
    · exact h2 x hx
    · exact h1 x (List.mem_of_mem_drop hx)
theorem u64_wrap (a : Int) : U64 (IntKind.u64.wrap a) := by rw [IntKind.wrap_u64]; exact ⟨by omega, by omega⟩
theorem wst_u (hn : n ≤ 256) (hx : AllU xs) : ∀ j, AllU (wst bf most n xs j)
  | 0 => by
    simp only [wst]
    refine allU_set (allU_set (fun x hx => ?_) _ ⟨by omega, by omega⟩) _ (u64_wrap _)
    have := List.eq_of_mem_replicate hx
    subst this; exact ⟨by omega, by omega⟩
  | j + 1 => by
    simp only [wst]
    refine allU_spl (wst_u hn hx j) fun x hx' => ?_
    simp only [List.mem_cons, List.not_mem_nil, or_false] at hx'
    rcases hx' with rfl | rfl | rfl | rfl
    · exact allU_getD hx _
    · exact allU_getD hx _
    · exact u64_wrap _
    · exact u64_wrap _
end
/-- An order's entries, as they may be. -/
structure OrdV (wb : Int → Bool) (m n : Nat) (xs : List Int) : Prop where
  len : xs.length = n * 2
  room : n ≤ m
  u : AllU xs
  rise : rises (rk xs n)
  ok : ∀ i, i < n → wb (xs.getD (i * 2) 0) = true
theorem okE_of {wb : Int → Bool} {w : List Int} : ∀ {n : Nat}, (∀ i, i < n → wb (w.getD (2 + 4 * i) 0) = true) → (∀ i, 0 < i → i < n → w.getD (2 + 4 * (i - 1)) 0 < w.getD (2 + 4 * i) 0) → okE wb w n = true
  | 0, _, _ => rfl
  | n + 1, h1, h2 => by
    simp only [okE, Bool.and_eq_true, Bool.or_eq_true, decide_eq_true_eq]
    refine ⟨okE_of (fun i hi => h1 i (by omega)) (fun i h0 hi => h2 i h0 (by omega)), h1 n (by omega), ?_⟩
    by_cases e : n = 0
    · exact .inl e
    · exact .inr (h2 n (by omega) (by omega))
theorem unp_take {w xs : List Int} {n : Nat} (hl : xs.length = n * 2) (h : ∀ i, i < n → w.getD (2 + 4 * i) 0 = xs.getD (i * 2) 0 ∧ w.getD (2 + 4 * i + 1) 0 = xs.getD (i * 2 + 1) 0) : ∀ i, i ≤ n → unp w i = xs.take (i * 2)
  | 0, _ => rfl
  | i + 1, hi => by
    obtain ⟨h1, h2⟩ := h i (by omega)
    simp only [unp]
    rw [unp_take hl h i (by omega), h1, h2, show (i + 1) * 2 = i * 2 + 1 + 1 by omega, take_snoc (by omega), take_snoc (by omega), List.append_assoc]
    rfl
theorem open_words {bf : Int → Int → Bool} {wb : Int → Bool} {p : Int} {m n : Nat} {xs : List Int} (hf : fitsB 4 p m = true) (hv : OrdV wb m n xs) :
    OpenOk bf wb 4 p m (wordsO bf m n xs) ∧ AllU (wordsO bf m n xs) ∧ ((wordsO bf m n xs).getD 0 0).toNat = n ∧ unp (wordsO bf m n xs) n = xs := by
  have hm := fits4 hf
  have hr := hv.room
  have h0 : (wordsO bf m n xs).getD 0 0 = (n : Int) := wst_head bf m n xs n hr
  have he := wst_ent bf m n xs n hr
  have hun : unp (wordsO bf m n xs) n = xs := by
    have := unp_take hv.len he n (Nat.le_refl _)
    rw [List.take_of_length_le (by rw [hv.len]; exact Nat.le_refl _)] at this
    exact this
  have hok : okE wb (wordsO bf m n xs) n = true := by
    refine okE_of (fun i hi => ?_) (fun i h0 hi => ?_)
    · rw [show (wordsO bf m n xs).getD (2 + 4 * i) 0 = xs.getD (i * 2) 0 from (he i hi).1]; exact hv.ok i hi
    · rw [show (wordsO bf m n xs).getD (2 + 4 * i) 0 = xs.getD (i * 2) 0 from (he i hi).1, show (wordsO bf m n xs).getD (2 + 4 * (i - 1)) 0 = xs.getD ((i - 1) * 2) 0 from (he (i - 1) (by omega)).1]
      exact rkr hv.rise (by omega) hi
  have hlen : ((wordsO bf m n xs).length : Int) = 2 + 4 * m := by have := wst_len bf m n xs n hr; unfold wordsO; omega
  refine ⟨⟨⟨hf, rfl⟩, ⟨hlen, by rw [h0]; omega, by rw [h0]; omega⟩, ?_, ?_⟩, wst_u bf m n xs (by omega) hv.u n, by rw [h0, Int.toNat_natCast], hun⟩
  · rw [h0, Int.toNat_natCast]; exact hok
  · rw [h0, Int.toNat_natCast, Int.toNat_natCast, hun]
end Go.Proofs.YtlcpcgdecodjfaaGreatDoor
namespace Go.Proofs.YtlcpcgdecodjfaaGreatDoor
open Go.RowKit Go.Proofs.YtlcpcgdecodjfaaGreatDoor.Am
set_option linter.unusedVariables false
set_option linter.unusedSimpArgs false

theorem allU_insL {xs : List Int} {a : Nat} {r v : Int} (h : AllU xs) (hr : U64 r) (hv : U64 v) : AllU (insL xs a r v) := by
  intro x hx
  unfold insL at hx
  rcases List.mem_append.1 hx with hx | hx
  · exact h x (List.mem_of_mem_take hx)
  · rcases List.mem_cons.1 hx with rfl | hx
    · exact hr
    · rcases List.mem_cons.1 hx with rfl | hx
      · exact hv
      · exact h x (List.mem_of_mem_drop hx)
theorem allU_delL {xs : List Int} {a b : Nat} (h : AllU xs) : AllU (delL xs a b) := by
  intro x hx
  unfold delL at hx
  rcases List.mem_append.1 hx with hx | hx
  · exact h x (List.mem_of_mem_take hx)
  · exact h x (List.mem_of_mem_drop hx)
theorem isO_true {xs : List Int} {n : Nat} {r : Int} (h : isO xs n r = true) : atO xs n r < n ∧ xs.getD (atO xs n r * 2) 0 = r := by unfold isO at h; exact of_decide_eq_true h
theorem OrdV.set {wb : Int → Bool} {m n : Nat} {xs : List Int} (h : OrdV wb m n xs) {r v : Int} (his : isO xs n r = true) (hr : U64 r) (hv : U64 v) : OrdV wb m n (setL xs (atO xs n r) r v) := by
  obtain ⟨h1, h2⟩ := isO_true his
  refine ⟨by unfold setL; rw [List.length_set, List.length_set]; exact h.len, h.room, allU_set (allU_set h.u _ hr) _ hv, by rw [setL_rk h2]; exact h.rise, fun i hi => by rw [setL_getD h2]; exact h.ok i hi⟩
theorem OrdV.ins {wb : Int → Bool} {m n : Nat} {xs : List Int} (h : OrdV wb m n xs) {r v : Int} (hno : isO xs n r = false) (hm : n < m) (hr : U64 r) (hv : U64 v) (hb : wb r = true) : OrdV wb m (n + 1) (insL xs (atO xs n r) r v) := by
  have ha := atO_le xs n r
  refine ⟨by rw [insL_len, h.len]; omega, hm, allU_insL h.u hr hv, insL_rises h.len h.rise hno, fun i hi => ?_⟩
  rw [insL_rank h.len ha]
  split
  · exact h.ok i (by omega)
  · split
    · exact hb
    · exact h.ok (i - 1) (by omega)
theorem OrdV.del {wb : Int → Bool} {m n : Nat} {xs : List Int} (h : OrdV wb m n xs) {a : Nat} (ha : a < n) : OrdV wb m (n - 1) (delL xs a (a + 1)) := by
  have hr := h.room
  refine ⟨by rw [delL_len h.len (by omega) (by omega)]; omega, by omega, allU_delL h.u, delL_rises h.len h.rise ha, fun i hi => ?_⟩
  rw [delL_rank h.len ha]
  split
  · exact h.ok i (by omega)
  · exact h.ok (i + 1) (by omega)
theorem ordDo_v {wb : Int → Bool} {wf rf : Int → Int} (ru : ∀ a, U64 a → U64 (rf a)) (wr : ∀ a, U64 a → wb (rf a) = true) {m n : Nat} {xs : List Int} {code key v : Int} (h : OrdV wb m n xs) (hk : U64 key) (hv : U64 v) : OrdV wb m (ordDo wf rf m n xs code key v).1 (ordDo wf rf m n xs code key v).2.1 := by
  unfold ordDo
  split
  · split <;> exact h
  · split
    · split
      · exact h.set (by assumption) (ru _ hk) hv
      · split
        · exact h
        · refine h.ins (by simpa using ‹¬ isO xs n (rf key) = true›) ?_ (ru _ hk) hv (wr _ hk)
          have := h.room; omega
    · split
      · split
        · exact h.del (isO_true (by assumption)).1
        · exact h
      · split
        · split <;> exact h
        · split <;> exact h
theorem ordV_nil (wb : Int → Bool) (m : Nat) : OrdV wb m 0 [] := ⟨rfl, Nat.zero_le _, (fun x hx => by cases hx), (fun i h0 h1 => by simp [rk] at h1), fun i hi => by omega⟩
/-- An order behind so many pairs. -/
def ldS (rf : Int → Int) (m : Nat) (l : List Int) : Nat → Nat × List Int × Int × Int
  | 0 => (0, [], 0, 0)
  | j + 1 => if (ldS rf m l j).2.2.1 = 0 then ordDo (fun x => x) rf m (ldS rf m l j).1 (ldS rf m l j).2.1 11 (l.getD (j * 2) 0) (l.getD (j * 2 + 1) 0) else ldS rf m l j
theorem ldS_v {wb : Int → Bool} {rf : Int → Int} (ru : ∀ a, U64 a → U64 (rf a)) (wr : ∀ a, U64 a → wb (rf a) = true) {m : Nat} {l : List Int} (hl : AllU l) : ∀ j, OrdV wb m (ldS rf m l j).1 (ldS rf m l j).2.1
  | 0 => ordV_nil wb m
  | j + 1 => by
    simp only [ldS]
    split
    · exact ordDo_v ru wr (ldS_v ru wr hl j) (allU_getD hl _) (allU_getD hl _)
    · exact ldS_v ru wr hl j
theorem ldS_err {rf : Int → Int} {m : Nat} {l : List Int} {j q : Nat} (hj : j ≤ q) (h : (ldS rf m l j).2.2.1 ≠ 0) : ldS rf m l q = ldS rf m l j := by
  induction q with
  | zero => obtain rfl : j = 0 := by omega
            rfl
  | succ q ih =>
    by_cases e : j = q + 1
    · subst e; rfl
    · have := ih (by omega)
      simp only [ldS]
      rw [this, if_neg h]
/-- One put. -/
theorem put_is {rf : Int → Int} {m n : Nat} {xs : List Int} {key v : Int} (wf : Int → Int) (h : isO xs n (rf key) = true) : ordDo wf rf m n xs 11 key v = (n, setL xs (atO xs n (rf key)) (rf key) v, 0, xs.getD (atO xs n (rf key) * 2 + 1) 0) := by
  simp [ordDo, h]
theorem put_full {rf : Int → Int} {m n : Nat} {xs : List Int} {key v : Int} (wf : Int → Int) (h : isO xs n (rf key) = false) (hm : n = m) : ordDo wf rf m n xs 11 key v = (n, xs, 11, 0) := by
  subst hm; simp [ordDo, h]
theorem put_new {rf : Int → Int} {m n : Nat} {xs : List Int} {key v : Int} (wf : Int → Int) (h : isO xs n (rf key) = false) (hm : n ≠ m) : ordDo wf rf m n xs 11 key v = (n + 1, insL xs (atO xs n (rf key)) (rf key) v, 0, 0) := by
  simp [ordDo, h, hm]
noncomputable def ctxOrH (P : Program) (h : InlOk P inlE) (bf : Int → Int → Bool) (wf : Int → Int) (wb : Int → Bool) (rf : Int → Int) : Ctx := ctxR P glM [eFind, eRk rf, eWordsO bf, eFits] [rInsE, rDelE] [] (noEq P) inlE h.mem
theorem ctxOrH_good {bf : Int → Int → Bool} {wf : Int → Int} {wb : Int → Bool} {rf : Int → Int} (h : OrdH bf wf wb rf) : (ctxOrH Tryz.prog inlE_ok bf wf wb rf).good := ctxR_good (by kernel_rfl) (AllOk.mem ⟨eFind_ok, h.rk, eWordsO_ok h.bf, entry_lift eFits_ok, trivial⟩) rawsE_ok glM_two
attribute [local irreducible] fitsB homeI wordsO rk atO isO unp insL delL setL
set_option maxRecDepth 100000 in
theorem load_pure {bf : Int → Int → Bool} {wf : Int → Int} {wb : Int → Bool} {rf : Int → Int} (H : OrdH bf wf wb rf) (p : Int) (m q : Nat) (l : List Int) (hx : AllU l) (hf : fitsB 4 p m = true) (t : T) (bs : Hp)
    (hyes : (ldS rf m l q).2.2.1 = 0 → t = .tup [.ow 0 1 (2 + 4 * m), .v (.int .i64 0)] ∧ bs = [(0, .fl [.u64] (wordsO bf m (ldS rf m l q).1 (ldS rf m l q).2.1))])
    (hno : (ldS rf m l q).2.2.1 = 11 → t = .tup [.ow 0 1 0, .v (.int .i64 11)] ∧ bs = [(0, .fl [.u64] [])]) :
    Pure Tryz.prog glM 11 [.agg [.v (.int .i64 4), .v (.int .i64 p), .v (.int .i64 m)], .fl [.u64, .u64] q l] t bs := by
  refine pure_wf fun hw => ?_
  obtain ⟨-, ⟨w1, w2⟩, -⟩ := hw
  simp only [List.length_cons, List.length_nil, Nat.zero_add, Nat.mul_one] at w1
  have hm1 := fits4 hf
  refine pure_of (C := ctxOrH Tryz.prog inlE_ok bf wf wb rf) (ctxOrH_good H) Tryz.func11 (c := bodyOf Tryz.f11) (by rfl) (Nat.le_of_ble_eq_true (by rfl)) 4 3 [0, 1, 2, 4, 5, 6, 7, 9, 10, 17, 19, 20, 21, 22, 34] ?_
  conv => whnf
  repeat' (first | (refine ifB_t (by assumption) ?_; conv => whnf) | (refine ifB_f (by assumption) ?_; conv => whnf) | (refine ifB_dec (fun h => ?_) (fun h => ?_) <;> (first | (exfalso; omega) | (conv => whnf))) | (refine ifB_eq (fun h => ?_) (fun h => ?_) <;> (first | (exfalso; omega) | (conv => whnf))) | (refine ifB_ne (fun h => ?_) (fun h => ?_) <;> (first | (exfalso; omega) | (conv => whnf))) | (refine ifB_not ?_; conv => whnf) | (refine ifB_and ?_; conv => whnf) | (refine ifB_or ?_; conv => whnf) | (refine And.intro ?_ ?_; (first | omega | assumption | (exact allU_getD (by assumption) _) | (simp only [cutL]; omega) | (refine And.intro ?_ ?_ <;> first | assumption | exact allU_getD (by assumption) _) | (simp only [cutL, IntKind.wrap_u64, IntKind.wrap_i64] at *; omega) | decide); conv => whnf) | (refine ifB_mk (fun h => ?_) (fun h => ?_) <;> (conv => whnf)))
  refine TW.nilOwnB 217156 1 5000 2 _ (.fl [.u64, .u64] []) rfl rfl rfl (.inr ⟨_, _, rfl⟩) (by decide) ?_
  refine TW.loopD (ctxOrH_good H) 3 (base := 0) (lv := [0, 1, 2, 4, 5, 6, 7, 9, 10, 17, 19, 20, 21, 22, 34]) [21] [217156, 5000] [(217156, 217156), (5000, 5000)] (fun i : Nat => [.v (.int .i64 i)]) (fun i => [.cs [.v (.int .i64 m), .ow 5000 2 (ldS rf m l i).1], .fl [.u64, .u64] (ldS rf m l i).2.1]) (fun i => i ≤ q ∧ (ldS rf m l i).2.2.1 = 0) (fun i => q - i) ?_
  conv => whnf
  refine ⟨⟨0, ⟨rfl, rfl, rfl⟩, Nat.zero_le _, rfl⟩, fun i ⟨hi, ho⟩ => ?_⟩
  have hv := ldS_v (wb := wb) H.ru H.wr (m := m) hx i
  have hs : ldS rf m l (i + 1) = ordDo (fun x => x) rf m (ldS rf m l i).1 (ldS rf m l i).2.1 11 (l.getD (i * 2) 0) (l.getD (i * 2 + 1) 0) := by
    show (if _ then _ else _) = _
    rw [if_pos ho]
  have e1 : l.getD (0 + (i : Int).toNat * (1 + 1) + 0) 0 = l.getD (i * 2) 0 := by simp
  have e2 : l.getD (0 + (i : Int).toNat * (1 + 1) + (0 + 1)) 0 = l.getD (i * 2 + 1) 0 := by simp
  obtain ⟨n, hn⟩ : ∃ n, (ldS rf m l i).1 = n := ⟨_, rfl⟩
  obtain ⟨xs, hxs⟩ : ∃ xs, (ldS rf m l i).2.1 = xs := ⟨_, rfl⟩
  rw [hn, hxs] at hv hs
  conv => whnf
  refine ifB_dec (fun h => ?_) (fun h => ?_)
  · conv => whnf
    refine And.intro (by omega) ?_
    conv => whnf
    have e3 : ((([0, 0].set (0 + 0 * (1 + 1) + 0) (l.getD (0 + (i : Int).toNat * (1 + 1) + 0) 0)).set (0 + 0 * (1 + 1) + (0 + 1)) (l.getD (0 + (i : Int).toNat * (1 + 1) + (0 + 1)) 0)).getD (0 + 0 * (1 + 1)) 0) = l.getD (i * 2) 0 := by rw [e1, e2]; rfl
    have e4 : ((([0, 0].set (0 + 0 * (1 + 1) + 0) (l.getD (0 + (i : Int).toNat * (1 + 1) + 0) 0)).set (0 + 0 * (1 + 1) + (0 + 1)) (l.getD (0 + (i : Int).toNat * (1 + 1) + (0 + 1)) 0)).getD (0 + 1 + 0 * (1 + 1)) 0) = l.getD (i * 2 + 1) 0 := by rw [e1, e2]; rfl
    repeat (refine And.intro (by omega) ?_; conv => whnf)
    rw [e3]
    refine And.intro (allU_getD hx _) ?_
    conv => whnf
    rw [hn, hxs]
    refine And.intro ⟨by have := hv.room; omega, hv.rise⟩ ?_
    conv => whnf
    cases his : isO xs n (rf (l.getD (i * 2) 0))
    · conv => whnf
      rw [hn]
      refine ifB_eq (fun hm => ?_) (fun hm => ?_)
      · conv => whnf
        rw [put_full _ his (by omega)] at hs
        obtain ⟨ht, hb⟩ := hno (by rw [ldS_err (j := i + 1) (by omega) (by rw [hs]; show (11 : Int) ≠ 0; decide), hs])
        subst ht; subst hb
        repeat' (first | (refine ifB_t (by assumption) ?_; conv => whnf) | (refine ifB_f (by assumption) ?_; conv => whnf) | (refine ifB_dec (fun h => ?_) (fun h => ?_) <;> (first | (exfalso; omega) | (conv => whnf))) | (refine ifB_eq (fun h => ?_) (fun h => ?_) <;> (first | (exfalso; omega) | (conv => whnf))) | (refine ifB_ne (fun h => ?_) (fun h => ?_) <;> (first | (exfalso; omega) | (conv => whnf))) | (refine ifB_not ?_; conv => whnf) | (refine ifB_and ?_; conv => whnf) | (refine ifB_or ?_; conv => whnf) | (refine And.intro ?_ ?_; (first | omega | assumption | (exact allU_getD (by assumption) _) | (simp only [cutL]; omega) | (refine And.intro ?_ ?_ <;> first | assumption | exact allU_getD (by assumption) _) | (simp only [cutL, IntKind.wrap_u64, IntKind.wrap_i64] at *; omega) | decide); conv => whnf) | (refine ifB_mk (fun h => ?_) (fun h => ?_) <;> (conv => whnf)))
        repeat' (first | exact trivial | exact rfl | (refine And.intro ?_ ?_) | ((conv => whnf); done) | ((conv => whnf); (first | rfl | (refine congrArg (fun b => T.v (Value.bool b)) ?_; first | rfl | exact (decide_eq_true (by omega)).symm | exact (decide_eq_false (by omega)).symm | exact decide_eq_decide.2 (by omega)) | (refine congrArg (fun b => T.v (Value.int _ b)) ?_; first | rfl | omega) | omega)) | (first | rfl | (refine congrArg (fun b => T.v (Value.bool b)) ?_; first | rfl | exact (decide_eq_true (by omega)).symm | exact (decide_eq_false (by omega)).symm | exact decide_eq_decide.2 (by omega)) | (refine congrArg (fun b => T.v (Value.int _ b)) ?_; first | rfl | omega) | omega))
      · conv => whnf
        rw [put_new _ his (by omega)] at hs
        have ha := atO_le xs n (rf (l.getD (i * 2) 0))
        refine And.intro (by have := hv.room; omega) ?_
        conv => whnf
        rw [hn, hxs, e4, Int.toNat_natCast]
        repeat' (first | (refine ifB_t (by assumption) ?_; conv => whnf) | (refine ifB_f (by assumption) ?_; conv => whnf) | (refine ifB_dec (fun h => ?_) (fun h => ?_) <;> (first | (exfalso; omega) | (conv => whnf))) | (refine ifB_eq (fun h => ?_) (fun h => ?_) <;> (first | (exfalso; omega) | (conv => whnf))) | (refine ifB_ne (fun h => ?_) (fun h => ?_) <;> (first | (exfalso; omega) | (conv => whnf))) | (refine ifB_not ?_; conv => whnf) | (refine ifB_and ?_; conv => whnf) | (refine ifB_or ?_; conv => whnf) | (refine And.intro ?_ ?_; (first | omega | assumption | (exact allU_getD (by assumption) _) | (simp only [cutL]; omega) | (refine And.intro ?_ ?_ <;> first | assumption | exact allU_getD (by assumption) _) | (simp only [cutL, IntKind.wrap_u64, IntKind.wrap_i64] at *; omega) | decide); conv => whnf) | (refine ifB_mk (fun h => ?_) (fun h => ?_) <;> (conv => whnf)))
        rw [wsucc (n := q) (by omega) w2]
        refine ⟨i + 1, [(217156, 217156), (512252, 5000)], ⟨rfl, rfl, ?_⟩, ⟨(by omega : i + 1 ≤ q), by rw [hs]⟩, by (try dsimp only); omega⟩
        dsimp only
        rw [hs]
        rfl
    · obtain ⟨hat, hae⟩ := isO_true his
      rw [put_is _ his] at hs
      conv => whnf
      rw [hn]
      refine And.intro (by omega) ?_
      conv => whnf
      repeat' (first | (refine ifB_t (by assumption) ?_; conv => whnf) | (refine ifB_f (by assumption) ?_; conv => whnf) | (refine ifB_dec (fun h => ?_) (fun h => ?_) <;> (first | (exfalso; omega) | (conv => whnf))) | (refine ifB_eq (fun h => ?_) (fun h => ?_) <;> (first | (exfalso; omega) | (conv => whnf))) | (refine ifB_ne (fun h => ?_) (fun h => ?_) <;> (first | (exfalso; omega) | (conv => whnf))) | (refine ifB_not ?_; conv => whnf) | (refine ifB_and ?_; conv => whnf) | (refine ifB_or ?_; conv => whnf) | (refine And.intro ?_ ?_; (first | omega | assumption | (exact allU_getD (by assumption) _) | (simp only [cutL]; omega) | (refine And.intro ?_ ?_ <;> first | assumption | exact allU_getD (by assumption) _) | (simp only [cutL, IntKind.wrap_u64, IntKind.wrap_i64] at *; omega) | decide); conv => whnf) | (refine ifB_mk (fun h => ?_) (fun h => ?_) <;> (conv => whnf)))
      have e5 : ((xs.set (0 + addN 0 ((atO xs n (rf (l.getD (i * 2) 0)) : Nat) : Int).toNat * (1 + 1) + 0) (rf (l.getD (i * 2) 0))).set (0 + addN 0 ((atO xs n (rf (l.getD (i * 2) 0)) : Nat) : Int).toNat * (1 + 1) + (0 + 1)) (l.getD (i * 2 + 1) 0)) = setL xs (atO xs n (rf (l.getD (i * 2) 0))) (rf (l.getD (i * 2) 0)) (l.getD (i * 2 + 1) 0) := by
        simp only [addN_eq, Int.toNat_natCast]
        rw [show 0 + (0 + atO xs n (rf (l.getD (i * 2) 0))) * (1 + 1) + 0 = atO xs n (rf (l.getD (i * 2) 0)) * 2 by omega, show 0 + (0 + atO xs n (rf (l.getD (i * 2) 0))) * (1 + 1) + (0 + 1) = atO xs n (rf (l.getD (i * 2) 0)) * 2 + 1 by omega]
        unfold setL; rfl
      rw [hxs, e4, e5]
      rw [wsucc (n := q) (by omega) w2]
      refine ⟨i + 1, [(217156, 217156), (5000, 5000)], ⟨rfl, rfl, ?_⟩, ⟨(by omega : i + 1 ≤ q), by rw [hs]⟩, by (try dsimp only); omega⟩
      dsimp only
      rw [hn, hs]
      rfl
  · obtain rfl : i = q := by omega
    obtain ⟨ht, hb⟩ := hyes ho
    subst ht; subst hb
    conv => whnf
    rw [hn, hxs, Int.toNat_natCast]
    refine And.intro ⟨hv.room, by omega, by omega, hv.rise⟩ ?_
    conv => whnf
    repeat' (first | exact trivial | exact rfl | (refine And.intro ?_ ?_) | ((conv => whnf); done) | ((conv => whnf); (first | rfl | (refine congrArg (fun b => T.v (Value.bool b)) ?_; first | rfl | exact (decide_eq_true (by omega)).symm | exact (decide_eq_false (by omega)).symm | exact decide_eq_decide.2 (by omega)) | (refine congrArg (fun b => T.v (Value.int _ b)) ?_; first | rfl | omega) | omega)) | (first | rfl | (refine congrArg (fun b => T.v (Value.bool b)) ?_; first | rfl | exact (decide_eq_true (by omega)).symm | exact (decide_eq_false (by omega)).symm | exact decide_eq_decide.2 (by omega)) | (refine congrArg (fun b => T.v (Value.int _ b)) ?_; first | rfl | omega) | omega))
end Go.Proofs.YtlcpcgdecodjfaaGreatDoor
namespace Go.Proofs.YtlcpcgdecodjfaaGreatDoor
open Go.RowKit Go.Proofs.YtlcpcgdecodjfaaGreatDoor.Am
set_option linter.unusedVariables false
set_option linter.unusedSimpArgs false

/-- The first one of the heaviest, among those from lo up to hi. -/
def isTop (wt : Int → Int) (xs : List Int) (lo hi t : Nat) : Prop := ∀ j, lo ≤ j → j < hi → (j < t - 1 → wt (xs.getD j 0) < wt (xs.getD (t - 1) 0)) ∧ wt (xs.getD j 0) ≤ wt (xs.getD (t - 1) 0)
/-- Links lead through the tree of the keys from lo up to hi, of which t is the top. -/
inductive IsTr (wt : Int → Int) (xs lk : List Int) : Nat → Nat → Nat → Prop
  | nil (lo : Nat) : IsTr wt xs lk lo lo 0
  | node {lo hi t l r : Nat} : lo < t → t ≤ hi → isTop wt xs lo hi t → lk.getD ((t - 1) * 2) 0 = (l : Int) → lk.getD ((t - 1) * 2 + 1) 0 = (r : Int) → IsTr wt xs lk lo (t - 1) l → IsTr wt xs lk t hi r → IsTr wt xs lk lo hi t
/-- The way always to the right, with what hangs left of it. -/
inductive Sp (wt : Int → Int) (xs lk : List Int) : Nat → Nat → List Nat → Prop
  | nil (lo : Nat) : Sp wt xs lk lo lo []
  | cons {lo hi t l : Nat} {r : List Nat} : lo < t → t ≤ hi → isTop wt xs lo hi t → lk.getD ((t - 1) * 2) 0 = (l : Int) → lk.getD ((t - 1) * 2 + 1) 0 = ((r.headD 0 : Nat) : Int) → IsTr wt xs lk lo (t - 1) l → Sp wt xs lk t hi r → Sp wt xs lk lo hi (t :: r)
section
variable {wt : Int → Int} {xs lk lk' : List Int}
theorem IsTr.le {lo hi t : Nat} (h : IsTr wt xs lk lo hi t) : lo ≤ hi := by
  induction h with
  | nil => exact Nat.le_refl _
  | node h1 h2 h3 h4 h5 h6 h7 i1 i2 => omega
theorem IsTr.congr {lo hi t : Nat} (h : IsTr wt xs lk lo hi t) (he : ∀ j, lo * 2 ≤ j → j < hi * 2 → lk'.getD j 0 = lk.getD j 0) : IsTr wt xs lk' lo hi t := by
  induction h with
  | nil => exact .nil _
  | node h1 h2 h3 h4 h5 h6 h7 i1 i2 =>
    exact .node h1 h2 h3 (by rw [he _ (by omega) (by omega)]; exact h4) (by rw [he _ (by omega) (by omega)]; exact h5) (i1 fun j a b => he j (by omega) (by omega)) (i2 fun j a b => he j (by omega) (by omega))
theorem Sp.tr {lo hi : Nat} {r : List Nat} (h : Sp wt xs lk lo hi r) : IsTr wt xs lk lo hi (r.headD 0) := by
  induction h with
  | nil => exact .nil _
  | cons h1 h2 h3 h4 h5 h6 h7 i1 => exact .node h1 h2 h3 h4 h5 h6 i1
theorem Sp.mem {lo hi : Nat} {r : List Nat} (h : Sp wt xs lk lo hi r) : ∀ t ∈ r, lo < t ∧ t ≤ hi := by
  induction h with
  | nil => intro t ht; cases ht
  | cons h1 h2 h3 h4 h5 h6 h7 i1 =>
    intro t ht
    rcases List.mem_cons.1 ht with rfl | ht
    · exact ⟨h1, h2⟩
    · have := i1 t ht; omega
theorem isTop.snoc {lo hi t : Nat} (h : isTop wt xs lo hi t) (ht : t ≤ hi) (hb : wt (xs.getD hi 0) ≤ wt (xs.getD (t - 1) 0)) : isTop wt xs lo (hi + 1) t := by
  intro j h1 h2
  by_cases e : j = hi
  · subst e; exact ⟨fun h => by omega, hb⟩
  · exact h j h1 (by omega)
theorem getD_set_ne {l : List Int} {p q : Nat} {y : Int} (h : p ≠ q) : (l.set p y).getD q 0 = l.getD q 0 := by simp [List.getD, List.getElem?_set, h]
theorem getD_set_eq {l : List Int} {p : Nat} {y : Int} (h : p < l.length) : (l.set p y).getD p 0 = y := by simp [List.getD, List.getElem?_set, h]
/-- A key more. -/
theorem Sp.step {i : Nat} (hlk : lk.length = xs.length * 2) (hi : i < xs.length) (hz : lk'.getD (i * 2 + 1) 0 = 0) {B : List Nat} (hB : ∀ t ∈ B, wt (xs.getD (t - 1) 0) < wt (xs.getD i 0)) (hu : lk'.getD (i * 2) 0 = ((B.headD 0 : Nat) : Int)) :
    ∀ (A : List Nat) (lo : Nat), Sp wt xs lk lo i (A ++ B) → (∀ t, A.getLast? = some t → wt (xs.getD i 0) ≤ wt (xs.getD (t - 1) 0) ∧ lk'.getD ((t - 1) * 2 + 1) 0 = ((i + 1 : Nat) : Int)) →
      (∀ j, lo * 2 ≤ j → j < i * 2 → (∀ t, A.getLast? = some t → j ≠ (t - 1) * 2 + 1) → lk'.getD j 0 = lk.getD j 0) → Sp wt xs lk' lo (i + 1) (A ++ [i + 1])
  | [], lo, hs, _, he => by
    have ht := hs.tr
    refine .cons (by have := ht.le; omega) (Nat.le_refl _) ?_ hu hz (by rw [Nat.add_sub_cancel]; exact ht.congr fun j h1 h2 => he j h1 h2 (fun t h => by cases h)) (.nil _)
    intro j h1 h2
    rw [Nat.add_sub_cancel]
    by_cases e : j = i
    · subst e; exact ⟨fun h => by omega, Int.le_refl _⟩
    rw [List.nil_append] at hs
    cases hs with
    | nil => omega
    | cons g1 g2 g3 g4 g5 g6 g7 =>
      rename_i t l r
      have hk := hB t (List.mem_cons_self ..)
      have := g3 j h1 (by omega)
      exact ⟨fun _ => by omega, by omega⟩
  | t :: A, lo, hs, hl, he => by
    rw [List.cons_append] at hs ⊢
    cases hs with
    | cons g1 g2 g3 g4 g5 g6 g7 =>
      rename_i l
      have hbk : wt (xs.getD i 0) ≤ wt (xs.getD (t - 1) 0) := by
        cases A with
        | nil => exact (hl t rfl).1
        | cons a A =>
          obtain ⟨z, hz⟩ : ∃ z, (a :: A).getLast? = some z := ⟨(a :: A).getLast (by simp), List.getLast?_eq_some_getLast (by simp)⟩
          have h1 := g7.mem z (List.mem_append.2 (.inl (List.mem_of_getLast? hz)))
          have h2 := (hl z (by rw [List.getLast?_cons_cons]; exact hz)).1
          have h3 := (g3 (z - 1) (by omega) (by omega)).2
          omega
      refine .cons (l := l) g1 (by omega) (g3.snoc g2 hbk) ?_ ?_ (g6.congr fun j h1 h2 => he j h1 (by omega) fun z hz => ?_) (Sp.step hlk hi hz hB hu A t g7 (fun z hz => ?_) (fun j h1 h2 h3 => he j (by omega) h2 fun z hz => ?_))
      · rw [he _ (by omega) (by omega)]; exact g4
        intro z hz; omega
      · cases A with
        | nil => exact (hl t rfl).2
        | cons a A =>
          rw [he _ (by omega) (by omega)]
          · exact g5
          · intro z hz
            rw [List.getLast?_cons_cons] at hz
            have := g7.mem z (List.mem_append.2 (.inl (List.mem_of_getLast? hz)))
            omega
      · have hm := List.mem_of_getLast? hz
        rcases List.mem_cons.1 hm with rfl | hm
        · omega
        · have := g7.mem z (List.mem_append.2 (.inl hm)); omega
      · cases A with
        | nil => cases hz
        | cons a A => exact hl z (by rw [List.getLast?_cons_cons]; exact hz)
      · cases A with
        | nil =>
          have hz : some t = some z := hz
          cases hz; omega
        | cons a A => exact h3 z (by rw [List.getLast?_cons_cons] at hz; exact hz)
end
theorem popB_spec {bf : Int → Int → Bool} {xs : List Int} {k : Int} : ∀ (sp : List Nat) (u : Nat), ∃ pre, sp = pre ++ (popB bf xs k sp u).1 ∧ (∀ t ∈ pre, bf k (xs.getD (t - 1) 0) = true) ∧ (∀ t, (popB bf xs k sp u).1.head? = some t → bf k (xs.getD (t - 1) 0) = false) ∧ (popB bf xs k sp u).2 = pre.getLastD u
  | [], u => ⟨[], rfl, fun t ht => (by cases ht), fun t ht => (by cases ht), rfl⟩
  | t :: r, u => by
    simp only [popB]
    split
    · rename_i hb
      obtain ⟨pre, h1, h2, h3, h4⟩ := popB_spec (bf := bf) (xs := xs) (k := k) r t
      refine ⟨t :: pre, by rw [List.cons_append, ← h1], fun z hz => ?_, h3, ?_⟩
      · rcases List.mem_cons.1 hz with rfl | hz
        · exact hb
        · exact h2 z hz
      · rw [h4]; cases pre with
        | nil => rfl
        | cons a b => rfl
    · rename_i hb
      exact ⟨[], rfl, fun t ht => (by cases ht), fun z hz => by cases hz; simpa using hb, rfl⟩
theorem stB_zero {bf : Int → Int → Bool} {xs : List Int} : ∀ i, i ≤ xs.length → ∀ j, i * 2 ≤ j → (stB bf xs i).2.getD j 0 = 0
  | 0, _, j, _ => by
    show (List.replicate _ (0 : Int)).getD j 0 = 0
    rw [List.getD_eq_getElem?_getD, List.getElem?_replicate]; split <;> rfl
  | i + 1, h, j, hj => by
    have ih := stB_zero (bf := bf) (xs := xs) i (by omega) j (by omega)
    obtain ⟨o1, o2, o3⟩ := stB_ok bf xs i
    obtain ⟨pre, hp⟩ := popB_suffix bf xs (xs.getD i 0) (stB bf xs i).1 0
    show ((lkR _ _ i).set (i * 2) _).getD j 0 = 0
    rw [getD_set_ne (by omega)]
    unfold lkR
    split
    · exact ih
    · rename_i t r he
      rw [he] at hp
      have := o1 t (by rw [hp]; exact List.mem_append.2 (.inr (List.mem_cons_self ..)))
      rw [getD_set_ne (by omega)]; exact ih
theorem stB_sp {bf : Int → Int → Bool} {wt : Int → Int} (hbf : ∀ a b, bf a b = decide (wt b < wt a)) {xs : List Int} : ∀ i, i ≤ xs.length → Sp wt xs (stB bf xs i).2 0 i (stB bf xs i).1.reverse
  | 0, _ => .nil 0
  | i + 1, h => by
    have ih := stB_sp hbf (xs := xs) i (by omega)
    obtain ⟨o1, o2, o3⟩ := stB_ok bf xs i
    obtain ⟨pre, p1, p2, p3, p4⟩ := popB_spec (bf := bf) (xs := xs) (k := xs.getD i 0) (stB bf xs i).1 0
    have hzz := stB_zero (bf := bf) (xs := xs) (i + 1) h
    have hz0 := stB_zero (bf := bf) (xs := xs) i (by omega)
    obtain ⟨sp, u, hpop⟩ : ∃ sp u, popB bf xs (xs.getD i 0) (stB bf xs i).1 0 = (sp, u) := ⟨_, _, rfl⟩
    rw [hpop] at p1 p3 p4
    replace p1 : (stB bf xs i).1 = pre ++ sp := p1
    replace p3 : ∀ t, sp.head? = some t → bf (xs.getD i 0) (xs.getD (t - 1) 0) = false := p3
    replace p4 : u = pre.getLastD 0 := p4
    have e1 := stB_spine hpop
    have e2 := stB_links hpop
    have hlen : (lkR sp (stB bf xs i).2 i).length = xs.length * 2 := by
      unfold lkR; split
      · exact o3
      · rw [List.length_set]; exact o3
    rw [p1, List.reverse_append] at ih
    have hlast : ∀ t, sp.reverse.getLast? = some t → sp.head? = some t := fun t ht => by rw [List.getLast?_reverse] at ht; exact ht
    have hsp1 : ∀ t, sp.head? = some t → 1 ≤ t ∧ t ≤ i := fun t ht => o1 t (by rw [p1]; exact List.mem_append.2 (.inr (List.mem_of_head? ht)))
    rw [e1, List.reverse_cons]
    refine Sp.step (lk := (stB bf xs i).2) o3 (by omega) ?_ (B := pre.reverse) (fun t ht => by have := p2 t (List.mem_reverse.1 ht); rw [hbf] at this; exact of_decide_eq_true this) ?_ _ 0 ih (fun t ht => ⟨by have := p3 t (hlast t ht); rw [hbf] at this; have := of_decide_eq_false this; omega, ?_⟩) (fun j h1 h2 h3 => ?_)
    · rw [e2, getD_set_ne (by omega)]
      unfold lkR
      split
      · exact hz0 _ (by omega)
      · rename_i t r
        have := hsp1 t rfl
        rw [getD_set_ne (by omega)]; exact hz0 _ (by omega)
    · rw [e2, getD_set_eq (by rw [hlen]; omega), p4]
      congr 1
      rw [List.headD_eq_head?_getD, List.head?_reverse, List.getLastD_eq_getLast?]
    · have h0 := hlast t ht
      have h1 := hsp1 t h0
      cases sp with
      | nil => cases h0
      | cons a r =>
        cases h0
        rw [e2, getD_set_ne (by omega)]
        show ((stB bf xs i).2.set ((t - 1) * 2 + 1) _).getD _ 0 = _
        rw [getD_set_eq (by rw [o3]; omega)]
    · rw [e2, getD_set_ne (by omega)]
      unfold lkR
      split
      · rfl
      · rename_i t r
        have h4 := h3 t (by rw [List.getLast?_reverse]; rfl)
        rw [getD_set_ne (Ne.symm h4)]
/-- The top's number. -/
def topB (bf : Int → Int → Bool) (xs : List Int) : Nat := (stB bf xs xs.length).1.reverse.headD 0
theorem rootB_top (bf : Int → Int → Bool) (xs : List Int) : rootB bf xs = (topB bf xs : Int) := by
  unfold rootB topB spL
  cases (stB bf xs xs.length).1.reverse with
  | nil => rfl
  | cons a r => rfl
theorem build_tr {bf : Int → Int → Bool} {wt : Int → Int} (hbf : ∀ a b, bf a b = decide (wt b < wt a)) {xs : List Int} : IsTr wt xs (linksB bf xs) 0 xs.length (topB bf xs) := (stB_sp hbf xs.length (Nat.le_refl _)).tr
theorem bBefore_wt (a b : Int) : bBefore a b = decide (iMix b < iMix a) := rfl
end Go.Proofs.YtlcpcgdecodjfaaGreatDoor
namespace Go.Proofs.YtlcpcgdecodjfaaGreatDoor
open Go.RowKit Go.Proofs.YtlcpcgdecodjfaaGreatDoor.Am
set_option linter.unusedVariables false
set_option linter.unusedSimpArgs false

theorem take_two {xs ys : List Int} {j : Nat} (h1 : j + 1 < xs.length) (h2 : j + 1 < ys.length) (ht : xs.take j = ys.take j) (ha : xs.getD j 0 = ys.getD j 0) (hb : xs.getD (j + 1) 0 = ys.getD (j + 1) 0) : xs.take (j + 2) = ys.take (j + 2) :=
  take_same (by omega) (by omega) (take_same (by omega) (by omega) ht ha) hb
theorem ne2 {a b c d : Int} (h1 : a = c) (h2 : b = d) : (!(a == c && (b == d && true))) = false := by subst h1; subst h2; simp
theorem ne2t {a b c d : Int} (h : ¬ (a = c ∧ b = d)) : (!(a == c && (b == d && true))) = true := by
  by_cases h1 : a = c
  · have h2 : ¬ b = d := fun h2 => h ⟨h1, h2⟩
    simp [h2]
  · simp [h1]
set_option maxRecDepth 100000 in
theorem equalL_pure (n m : Nat) (xs ys : List Int) : Pure Tryz.prog glM 100 [.fl [.i64, .i64] n xs, .fl [.i64, .i64] m ys] (.v (.bool (decide (xs = ys)))) := by
  refine pure_wf fun hw => ?_
  obtain ⟨⟨w1, w2⟩, ⟨w3, w4⟩, -⟩ := hw
  simp only [List.length_cons, List.length_nil, Nat.zero_add, Nat.mul_one] at w1 w3
  refine pure_of (C := ctxOrB0 Tryz.prog) ctxOrB0_good Tryz.func100 (c := bodyOf Tryz.f100) (by rfl) (Nat.le_of_ble_eq_true (by rfl)) 4 0 [0, 1, 4, 5, 10, 12, 13, 14, 24] ?_
  conv => whnf
  repeat' (first | (refine ifB_t (by assumption) ?_; conv => whnf) | (refine ifB_f (by assumption) ?_; conv => whnf) | (refine ifB_dec (fun h => ?_) (fun h => ?_) <;> (first | (exfalso; omega) | (conv => whnf))) | (refine ifB_eq (fun h => ?_) (fun h => ?_) <;> (first | (exfalso; omega) | (conv => whnf))) | (refine ifB_ne (fun h => ?_) (fun h => ?_) <;> (first | (exfalso; omega) | (conv => whnf))) | (refine ifB_not ?_; conv => whnf) | (refine ifB_and ?_; conv => whnf) | (refine ifB_or ?_; conv => whnf) | (refine And.intro ?_ ?_; (first | omega | assumption | (exact allU_getD (by assumption) _) | (simp only [cutL]; omega) | (refine And.intro ?_ ?_ <;> first | assumption | exact allU_getD (by assumption) _) | (simp only [cutL, IntKind.wrap_u64, IntKind.wrap_i64] at *; omega) | decide); conv => whnf))
  · exact congrArg (fun b => T.v (Value.bool b)) (decide_eq_false (fun e => by subst e; omega)).symm
  · refine TW.loopD ctxOrB0_good 0 (base := 0) (lv := [0, 1, 4, 5, 10, 12, 13, 14, 24]) [13] [] [] (fun j : Nat => [.v (.int .i64 j)]) (fun _ => []) (fun j => j ≤ n ∧ xs.take (j * 2) = ys.take (j * 2)) (fun j => n - j) ?_
    conv => whnf
    refine ⟨⟨0, ⟨rfl, rfl, rfl⟩, by omega, rfl⟩, fun j ⟨hj, ht⟩ => ?_⟩
    conv => whnf
    refine ifB_dec (fun h => ?_) (fun h => ?_)
    · conv => whnf
      repeat (refine And.intro (by omega) ?_; conv => whnf)
      have E1 : 0 + (j : Int).toNat * (1 + 1) + 0 = j * 2 := by omega
      have E2 : 0 + (j : Int).toNat * (1 + 1) + (0 + 1) = j * 2 + 1 := by omega
      rw [E1, E2]
      by_cases h1 : xs.getD (j * 2) 0 = ys.getD (j * 2) 0
      · by_cases h2 : xs.getD (j * 2 + 1) 0 = ys.getD (j * 2 + 1) 0
        · refine ifB_f (ne2 h1 h2) ?_
          conv => whnf
          rw [wsucc (n := n) (by omega) w2]
          exact ⟨j + 1, [], ⟨rfl, rfl, rfl⟩, ⟨by omega, by rw [show (j + 1) * 2 = j * 2 + 2 by omega]; exact take_two (by omega) (by omega) ht h1 h2⟩, by (try dsimp only); omega⟩
        · refine ifB_t (ne2t fun h => h2 h.2) ?_
          conv => whnf
          exact congrArg (fun b => T.v (Value.bool b)) (decide_eq_false (fun e => by subst e; exact h2 rfl)).symm
      · refine ifB_t (ne2t fun h => h1 h.1) ?_
        conv => whnf
        exact congrArg (fun b => T.v (Value.bool b)) (decide_eq_false (fun e => by subst e; exact h1 rfl)).symm
    · conv => whnf
      have e : j = n := by omega
      rw [e, List.take_of_length_le (by omega), List.take_of_length_le (by omega)] at ht
      exact congrArg (fun b => T.v (Value.bool b)) (decide_eq_true ht).symm

def eEqualL : Entry := ⟨100, 4, fun l => match l with | [.fl [.i64, .i64] n xs, .fl [.i64, .i64] m ys] => some (none, .v (.bool (decide (xs = ys))), []) | _ => none⟩
theorem eEqualL_ok : eEqualL.ok Tryz.prog glM := ⟨Am.enters_of Tryz.func100 (by kernel_rfl) (by kernel_rfl), by
  intro args c t bs h hc
  simp only [eEqualL] at h
  split at h <;> cases h
  exact equalL_pure _ _ _ _⟩
noncomputable def ctxOrJ (P : Program) (bf : Int → Int → Bool) : Ctx := ctx P glM [eBuildB bf, eEqualL] [] (noEq P) [] (fun _ h => by cases h)
theorem ctxOrJ_good {bf : Int → Int → Bool} (hbf : (eBf bf).ok Tryz.prog glM) : (ctxOrJ Tryz.prog bf).good := ctx_good (by kernel_rfl) (AllOk.mem ⟨eBuildB_ok hbf, eEqualL_ok, trivial⟩) glM_two
attribute [local irreducible] rootB linksB
set_option maxRecDepth 100000 in
theorem rightT_pure (bf : Int → Int → Bool) (hbf : (eBf bf).ok Tryz.prog glM) (n m : Nat) (xs lk : List Int) (root : Int) (hn : n ≤ 256) (hr : rises xs) : Pure Tryz.prog glM 77 [.fl [.u64] n xs, .v (.int .i64 root), .fl [.i64, .i64] m lk] (.v (.bool (decide (rootB bf xs = root ∧ linksB bf xs = lk)))) := by
  refine pure_of (C := ctxOrJ Tryz.prog bf) (ctxOrJ_good hbf) Tryz.func77 (c := bodyOf Tryz.f77) (by rfl) (Nat.le_of_ble_eq_true (by rfl)) 4 0 [0, 1, 2, 6, 7, 8, 9] ?_
  conv => whnf
  refine And.intro ⟨hn, hr⟩ ?_
  conv => whnf
  by_cases h1 : rootB bf xs = root
  · refine ifB_t (by show (rootB bf xs == root) = true; rw [h1]; exact beq_self_eq_true _) ?_
    conv => whnf
    rw [show decide (rootB bf xs = root ∧ linksB bf xs = lk) = decide (linksB bf xs = lk) by simp [h1]]
    repeat' (first | exact trivial | exact rfl | (refine And.intro ?_ ?_) | ((conv => whnf); done) | ((conv => whnf); (first | rfl | (refine congrArg (fun b => T.v (Value.bool b)) ?_; first | rfl | exact (decide_eq_true (by omega)).symm | exact (decide_eq_false (by omega)).symm | exact decide_eq_decide.2 (by omega)) | (refine congrArg (fun b => T.v (Value.int _ b)) ?_; first | rfl | omega) | omega)) | (first | rfl | (refine congrArg (fun b => T.v (Value.bool b)) ?_; first | rfl | exact (decide_eq_true (by omega)).symm | exact (decide_eq_false (by omega)).symm | exact decide_eq_decide.2 (by omega)) | (refine congrArg (fun b => T.v (Value.int _ b)) ?_; first | rfl | omega) | omega))
  · refine ifB_f (by show (rootB bf xs == root) = false; exact beq_false_of_ne h1) ?_
    conv => whnf
    rw [show decide (rootB bf xs = root ∧ linksB bf xs = lk) = false by simp [h1]]
    repeat' (first | exact trivial | exact rfl | (refine And.intro ?_ ?_) | ((conv => whnf); done) | ((conv => whnf); (first | rfl | (refine congrArg (fun b => T.v (Value.bool b)) ?_; first | rfl | exact (decide_eq_true (by omega)).symm | exact (decide_eq_false (by omega)).symm | exact decide_eq_decide.2 (by omega)) | (refine congrArg (fun b => T.v (Value.int _ b)) ?_; first | rfl | omega) | omega)) | (first | rfl | (refine congrArg (fun b => T.v (Value.bool b)) ?_; first | rfl | exact (decide_eq_true (by omega)).symm | exact (decide_eq_false (by omega)).symm | exact decide_eq_decide.2 (by omega)) | (refine congrArg (fun b => T.v (Value.int _ b)) ?_; first | rfl | omega) | omega))
def eRightT (bf : Int → Int → Bool) : Entry := ⟨77, 5, fun l => match l with
  | [.fl [.u64] n xs, .v (.int .i64 root), .fl [.i64, .i64] m lk] => some (some (n ≤ 256 ∧ rises xs), .v (.bool (decide (rootB bf xs = root ∧ linksB bf xs = lk))), [])
  | _ => none⟩
theorem eRightT_ok {bf : Int → Int → Bool} (hbf : (eBf bf).ok Tryz.prog glM) : (eRightT bf).ok Tryz.prog glM := ⟨Am.enters_of Tryz.func77 (by kernel_rfl) (by kernel_rfl), by
  intro args c t bs h hc
  simp only [eRightT] at h
  split at h <;> cases h
  replace hc := hc _ rfl
  exact rightT_pure bf hbf _ _ _ _ _ hc.1 hc.2⟩
/-- What is met from one number on to a key. -/
def wayF (xs lk : List Int) (key : Int) : Nat → Nat → List Int
  | 0, _ => []
  | d + 1, t => if t = 0 then [] else (t : Int) :: (if xs.getD (t - 1) 0 = key then [] else wayF xs lk key d (lk.getD ((t - 1) * 2 + if key < xs.getD (t - 1) 0 then 0 else 1) 0).toNat)
theorem wayF_tr {wt : Int → Int} {xs lk : List Int} {key : Int} {lo hi t : Nat} (h : IsTr wt xs lk lo hi t) : ∀ d e, hi - lo ≤ d → hi - lo ≤ e → wayF xs lk key d t = wayF xs lk key e t := by
  induction h with
  | nil lo => intro d e _ _; cases d <;> cases e <;> rfl
  | node h1 h2 h3 h4 h5 h6 h7 i1 i2 =>
    rename_i lo hi t l r
    intro d e hd he
    cases d with
    | zero => omega
    | succ d =>
      cases e with
      | zero => omega
      | succ e =>
        have ht : ¬ t = 0 := by omega
        have e1 : wayF xs lk key d (lk.getD ((t - 1) * 2 + if key < xs.getD (t - 1) 0 then 0 else 1) 0).toNat = wayF xs lk key e (lk.getD ((t - 1) * 2 + if key < xs.getD (t - 1) 0 then 0 else 1) 0).toNat := by
          split
          · rw [Nat.add_zero, h4, Int.toNat_natCast]; exact i1 d e (by omega) (by omega)
          · rw [h5, Int.toNat_natCast]; exact i2 d e (by omega) (by omega)
        simp only [wayF, if_neg ht, e1]
/-- The way to a key. -/
def wayB (bf : Int → Int → Bool) (xs : List Int) (key : Int) : List Int := wayF xs (linksB bf xs) key xs.length (topB bf xs)
noncomputable def iDown : Inl := ⟨78, Tryz.f78, bodyOf Tryz.f78, [0, 1, 2, 3, 4, 5, 6, 7, 8]⟩
theorem iDown_ok : iDown.ok Tryz.prog := Inl.mk_ok Tryz.func78 (by rfl) (by kernel_rfl) (by kernel_rfl)
noncomputable def iDown1 : Inl := ⟨101, Tryz.f101, bodyOf Tryz.f101, [0, 1, 2, 3, 4, 6, 7, 8, 11, 25, 28]⟩
theorem iDown1_ok : iDown1.ok Tryz.prog := Inl.mk_ok Tryz.func101 (by rfl) (by kernel_rfl) (by kernel_rfl)
noncomputable def inlJ : List Inl := [iDown, iDown1]
theorem inlJ_ok : InlOk Tryz.prog inlJ := ⟨iDown_ok, iDown1_ok, trivial⟩
noncomputable def ctxOrJ2 (P : Program) (h : InlOk P inlJ) (bf : Int → Int → Bool) : Ctx := ctx P glM [eRightT bf] [] (noEq P) inlJ h.mem
theorem ctxOrJ2_good {bf : Int → Int → Bool} (hbf : (eBf bf).ok Tryz.prog glM) : (ctxOrJ2 Tryz.prog inlJ_ok bf).good := ctx_good (by kernel_rfl) (AllOk.mem ⟨eRightT_ok hbf, trivial⟩) glM_two
set_option maxRecDepth 100000 in
theorem path_pure (bf : Int → Int → Bool) (hbf : (eBf bf).ok Tryz.prog glM) (wt : Int → Int) (hwt : ∀ a b, bf a b = decide (wt b < wt a)) (n m : Nat) (xs lk : List Int) (root key : Int) (hn : n ≤ 256) (hr : rises xs) (hroot : rootB bf xs = root) (hlk : linksB bf xs = lk) : Pure Tryz.prog glM 43 [.fl [.u64] n xs, .v (.int .i64 root), .fl [.i64, .i64] m lk, .v (.int .u64 key)] (.ow 0 1 (wayB bf xs key).length) [(0, .fl [.i64] (wayB bf xs key))] := by
  refine pure_wf fun hw => ?_
  obtain ⟨⟨w1, w2⟩, -, ⟨w3, w4⟩, -⟩ := hw
  simp only [List.length_cons, List.length_nil, Nat.zero_add, Nat.mul_one] at w1 w3
  have hB := rootB_top bf xs
  have hL := linksB_len bf xs
  obtain rfl : root = (topB bf xs : Int) := by rw [← hroot, hB]
  subst hlk
  refine pure_of (C := ctxOrJ2 Tryz.prog inlJ_ok bf) (ctxOrJ2_good hbf) Tryz.func43 (c := bodyOf Tryz.f43) (by rfl) (Nat.le_of_ble_eq_true (by rfl)) 4 3 [0, 1, 2, 3, 8, 9, 10, 15, 20, 21] ?_
  conv => whnf
  refine And.intro ⟨hn, hr⟩ ?_
  conv => whnf
  refine ifB_f (show (!decide (rootB bf xs = (topB bf xs : Int) ∧ linksB bf xs = linksB bf xs)) = false by rw [decide_eq_true ⟨hroot, rfl⟩]; rfl) ?_
  conv => whnf
  intro l
  conv => whnf
  refine TW.nilOwnB 36 0 5000 1 _ (.fl [.i64] []) rfl rfl rfl (.inr ⟨_, _, rfl⟩) (by decide) ?_
  have hT := build_tr hwt (xs := xs)
  refine TW.loopD (ctxOrJ2_good hbf) 2 (base := 446472) (lv := [0, 1, 2, 3, 4, 6, 7, 8, 11, 25, 28]) [6] [36, 5000] [(36, 36), (5000, 5000)] (fun x : Nat × Nat × Nat × List Int => [.v (.int .i64 x.1)]) (fun x => [.cs [.ow 5000 1 x.2.2.2.length], .fl [.i64] x.2.2.2]) (fun x => IsTr wt xs (linksB bf xs) x.2.1 x.2.2.1 x.1 ∧ (x.2.2.1 ≤ n ∧ x.2.2.2.length + (x.2.2.1 - x.2.1) ≤ n) ∧ x.2.2.2 ++ wayF xs (linksB bf xs) key (x.2.2.1 - x.2.1) x.1 = wayB bf xs key) (fun x => x.2.2.1 - x.2.1) ?_
  conv => whnf
  refine ⟨⟨(topB bf xs, 0, n, []), ⟨rfl, rfl, rfl⟩, by rw [← w1]; exact hT, ⟨Nat.le_refl _, by show 0 + (n - 0) ≤ n; omega⟩, by rw [← w1]; rfl⟩, fun ⟨t, lo, hi, out⟩ ⟨i1, ⟨i2, i4⟩, i3⟩ => ?_⟩
  replace i1 : IsTr wt xs (linksB bf xs) lo hi t := i1
  replace i2 : hi ≤ n := i2
  replace i4 : out.length + (hi - lo) ≤ n := i4
  replace i3 : out ++ wayF xs (linksB bf xs) key (hi - lo) t = wayB bf xs key := i3
  conv => whnf
  refine ifB_ne (fun h => ?_) (fun h => ?_)
  · replace h : ¬ (t : Int) = 0 := h
    cases i1 with
    | nil => exact absurd rfl h
    | node g1 g2 g3 g4 g5 g6 g7 =>
      rename_i l2 r2
      have em : IntKind.i64.wrap ((t : Int) - 1) = ((t - 1 : Nat) : Int) := by rw [wrap64 (by omega) (by omega)]; omega
      have ex : xs.getD (0 + ((t - 1 : Nat) : Int).toNat * (0 + 1)) 0 = xs.getD (t - 1) 0 := by simp
      conv => whnf
      rw [em]
      refine And.intro (by omega) ?_
      conv => whnf
      rw [ex]
      repeat (refine And.intro (by first | rfl | omega | (show out.length + 1 ≤ 1099511627776; omega)) ?_; conv => whnf)
      have hst : wayF xs (linksB bf xs) key (hi - lo) t = (t : Int) :: (if xs.getD (t - 1) 0 = key then [] else wayF xs (linksB bf xs) key (hi - lo - 1) ((linksB bf xs).getD ((t - 1) * 2 + if key < xs.getD (t - 1) 0 then 0 else 1) 0).toNat) := by
        obtain ⟨d, hd⟩ : ∃ d, hi - lo = d + 1 := ⟨hi - lo - 1, by omega⟩
        rw [hd]
        simp only [wayF, if_neg (show ¬ t = 0 by omega), Nat.add_sub_cancel]
      rw [hst] at i3
      by_cases hk : xs.getD (t - 1) 0 = key
      · rw [if_pos hk] at i3
        refine ifB_t (show (xs.getD (t - 1) 0 == key) = true by rw [hk]; exact beq_self_eq_true _) ?_
        conv => whnf
        repeat (refine And.intro (by first | rfl | omega) ?_; conv => whnf)
        have i5 : out ++ [(t : Int)] = wayB bf xs key := i3
        rw [← i5, show (out ++ [(t : Int)]).length = out.length + 1 by simp]
        repeat' (first | exact trivial | exact rfl | (refine And.intro ?_ ?_) | ((conv => whnf); done) | ((conv => whnf); (first | rfl | (refine congrArg (fun b => T.v (Value.bool b)) ?_; first | rfl | exact (decide_eq_true (by omega)).symm | exact (decide_eq_false (by omega)).symm | exact decide_eq_decide.2 (by omega)) | (refine congrArg (fun b => T.v (Value.int _ b)) ?_; first | rfl | omega) | omega)) | (first | rfl | (refine congrArg (fun b => T.v (Value.bool b)) ?_; first | rfl | exact (decide_eq_true (by omega)).symm | exact (decide_eq_false (by omega)).symm | exact decide_eq_decide.2 (by omega)) | (refine congrArg (fun b => T.v (Value.int _ b)) ?_; first | rfl | omega) | omega))
      · rw [if_neg hk] at i3
        refine ifB_f (show (xs.getD (t - 1) 0 == key) = false from beq_false_of_ne hk) ?_
        conv => whnf
        refine ifB_dec (fun hlt => ?_) (fun hlt => ?_)
        · conv => whnf
          rw [em]
          repeat (refine And.intro (by first | rfl | omega) ?_; conv => whnf)
          rw [show 0 + idxN ((t - 1 : Nat) : Int).toNat ((1 + 1) / (0 + 1)) (Int.toNat 0) * (0 + 1) = (t - 1) * 2 by rw [idxN_eq, Int.toNat_natCast, show (1 + 1) / (0 + 1) = 2 from rfl, show Int.toNat 0 = 0 from rfl]; omega, g4]
          rw [if_pos hlt, Nat.add_zero, g4, Int.toNat_natCast, wayF_tr g6 (hi - lo - 1) (t - 1 - lo) (by omega) (Nat.le_refl _)] at i3
          refine ⟨(l2, lo, t - 1, out ++ [(t : Int)]), [(36, 36), (1829064812, 5000)], ⟨rfl, rfl, ?_⟩, ⟨g6, ⟨(by omega : t - 1 ≤ n), (by simp only [List.length_append, List.length_cons, List.length_nil]; omega : (out ++ [(t : Int)]).length + (t - 1 - lo) ≤ n)⟩, by dsimp only; rw [List.append_assoc]; exact i3⟩, by dsimp only; omega⟩
          dsimp only
          rw [show (out ++ [(t : Int)]).length = out.length + 1 by simp]
          rfl
        · conv => whnf
          rw [em]
          repeat (refine And.intro (by first | rfl | omega) ?_; conv => whnf)
          rw [show 0 + idxN ((t - 1 : Nat) : Int).toNat ((1 + 1) / (0 + 1)) (Int.toNat 1) * (0 + 1) = (t - 1) * 2 + 1 by rw [idxN_eq, Int.toNat_natCast, show (1 + 1) / (0 + 1) = 2 from rfl, show Int.toNat 1 = 1 from rfl]; omega, g5]
          rw [if_neg hlt, g5, Int.toNat_natCast, wayF_tr g7 (hi - lo - 1) (hi - t) (by omega) (Nat.le_refl _)] at i3
          refine ⟨(r2, t, hi, out ++ [(t : Int)]), [(36, 36), (1829064812, 5000)], ⟨rfl, rfl, ?_⟩, ⟨g7, ⟨(by omega : hi ≤ n), (by simp only [List.length_append, List.length_cons, List.length_nil]; omega : (out ++ [(t : Int)]).length + (hi - t) ≤ n)⟩, by dsimp only; rw [List.append_assoc]; exact i3⟩, by dsimp only; omega⟩
          dsimp only
          rw [show (out ++ [(t : Int)]).length = out.length + 1 by simp]
          rfl
  · replace h : (t : Int) = 0 := h
    obtain rfl : t = 0 := by omega
    have i5 : out = wayB bf xs key := by
      rw [← i3]
      cases hi - lo <;> simp [wayF]
    conv => whnf
    repeat (refine And.intro (by first | rfl | omega) ?_; conv => whnf)
    rw [← i5]
    repeat' (first | exact trivial | exact rfl | (refine And.intro ?_ ?_) | ((conv => whnf); done) | ((conv => whnf); (first | rfl | (refine congrArg (fun b => T.v (Value.bool b)) ?_; first | rfl | exact (decide_eq_true (by omega)).symm | exact (decide_eq_false (by omega)).symm | exact decide_eq_decide.2 (by omega)) | (refine congrArg (fun b => T.v (Value.int _ b)) ?_; first | rfl | omega) | omega)) | (first | rfl | (refine congrArg (fun b => T.v (Value.bool b)) ?_; first | rfl | exact (decide_eq_true (by omega)).symm | exact (decide_eq_false (by omega)).symm | exact decide_eq_decide.2 (by omega)) | (refine congrArg (fun b => T.v (Value.int _ b)) ?_; first | rfl | omega) | omega))
def ePath (bf : Int → Int → Bool) : Entry := ⟨43, 6, fun l => match l with
  | [.fl [.u64] n xs, .v (.int .i64 root), .fl [.i64, .i64] m lk, .v (.int .u64 key)] => some (some ((n ≤ 256 ∧ rises xs) ∧ rootB bf xs = root ∧ linksB bf xs = lk), .ow 0 1 (wayB bf xs key).length, [(0, .fl [.i64] (wayB bf xs key))])
  | _ => none⟩
theorem ePath_ok {bf : Int → Int → Bool} (hbf : (eBf bf).ok Tryz.prog glM) {wt : Int → Int} (hwt : ∀ a b, bf a b = decide (wt b < wt a)) : (ePath bf).ok Tryz.prog glM := ⟨Am.enters_of Tryz.func43 (by kernel_rfl) (by kernel_rfl), by
  intro args c t bs h hc
  simp only [ePath] at h
  split at h <;> cases h
  obtain ⟨⟨h1, h2⟩, h3, h4⟩ := hc _ rfl
  exact path_pure bf hbf wt hwt _ _ _ _ _ _ h1 h2 h3 h4⟩
end Go.Proofs.YtlcpcgdecodjfaaGreatDoor
namespace Go.Proofs.YtlcpcgdecodjfaaGreatDoor
open Go.RowKit Go.Proofs.YtlcpcgdecodjfaaGreatDoor.Am
set_option linter.unusedVariables false
set_option linter.unusedSimpArgs false

noncomputable def ctxOrKY (P : Program) (bf : Int → Int → Bool) (wf : Int → Int) (wb : Int → Bool) (rf : Int → Int) : Ctx := ctx P glM [eOpenY bf wb, eKeyO wf, eRanks, eBuildB bf, eRk rf, ePath bf] [] (noEq P) [] (fun _ h => by cases h)
noncomputable def ctxOrKN (P : Program) (bf : Int → Int → Bool) (wb : Int → Bool) : Ctx := ctx P glM [eOpenN bf wb] [] (noEq P) [] (fun _ h => by cases h)
theorem ctxOrKY_good {bf : Int → Int → Bool} {wf : Int → Int} {wb : Int → Bool} {rf : Int → Int} (h : OrdH bf wf wb rf) {wt : Int → Int} (hwt : ∀ a b, bf a b = decide (wt b < wt a)) : (ctxOrKY Tryz.prog bf wf wb rf).good := ctx_good (by kernel_rfl) (AllOk.mem ⟨eOpenY_ok h.bf h.wd, eKeyO_ok h.wd, eRanks_ok, eBuildB_ok h.bf, h.rk, ePath_ok h.bf hwt, trivial⟩) glM_two
theorem ctxOrKN_good {bf : Int → Int → Bool} {wf : Int → Int} {wb : Int → Bool} {rf : Int → Int} (h : OrdH bf wf wb rf) : (ctxOrKN Tryz.prog bf wb).good := ctx_good (by kernel_rfl) (AllOk.mem ⟨eOpenN_ok h.bf h.wd, trivial⟩) glM_two
attribute [local irreducible] fitsB homeI wordsO rk atO isO unp insL delL setL OpenOk openE rootB linksB wayB
theorem fits4' {bf : Int → Int → Bool} {wb : Int → Bool} {k p m : Int} {w : List Int} (h : OpenOk bf wb k p m w) : 1 ≤ m ∧ m ≤ 256 ∧ (w.getD 0 0).toNat ≤ m.toNat := by
  unfold OpenOk at h
  obtain ⟨⟨h1, rfl⟩, ⟨h2, h3, h4⟩, -⟩ := h
  have := fits4 h1
  omega
/-- One of an order's pairs, told. -/
def atR (wf : Int → Int) (n : Nat) (xs : List Int) (i : Int) : Int × Int × Int := if 1 ≤ i ∧ i ≤ n then (wf (xs.getD ((i.toNat - 1) * 2) 0), xs.getD ((i.toNat - 1) * 2 + 1) 0, 0) else (0, 0, 1)
set_option maxRecDepth 100000 in
theorem atY_pure {bf : Int → Int → Bool} {wf : Int → Int} {wb : Int → Bool} {rf : Int → Int} (H : OrdH bf wf wb rf) {wt : Int → Int} (hwt : ∀ a b, bf a b = decide (wt b < wt a)) (k p m : Int) (q n : Nat) (w xs : List Int) (i : Int) (hx : AllU w) (ho : OpenOk bf wb k p m w) (hn : (w.getD 0 0).toNat = n) (hxs : unp w n = xs) (hu : AllU xs) :
    Pure Tryz.prog glM 14 [.agg [.v (.int .i64 k), .v (.int .i64 p), .v (.int .i64 m)], .fl [.u64] q w, .v (.int .i64 i)] (.tup [.agg [.v (.int .u64 (atR wf n xs i).1), .v (.int .u64 (atR wf n xs i).2.1)], .v (.int .i64 (atR wf n xs i).2.2)]) := by
  refine pure_of (C := ctxOrKY Tryz.prog bf wf wb rf) (ctxOrKY_good H hwt) Tryz.func14 (c := bodyOf Tryz.f14) (by rfl) (Nat.le_of_ble_eq_true (by rfl)) 4 0 [0, 1, 2, 3, 6, 7, 8, 9, 16, 21] ?_
  conv => whnf
  refine And.intro ⟨hx, ho⟩ ?_
  conv => whnf
  rw [hn, hxs]
  by_cases hi : 1 ≤ i ∧ i ≤ n
  · obtain ⟨h1, h2⟩ := hi
    have hb := fits4' ho
    have ei : IntKind.i64.wrap (i - 1) = i - 1 := wrap64 (by omega) (by omega)
    have ej : (i - 1).toNat = i.toNat - 1 := by omega
    rw [show atR wf n xs i = (wf (xs.getD ((i.toNat - 1) * 2) 0), xs.getD ((i.toNat - 1) * 2 + 1) 0, 0) from if_pos ⟨h1, h2⟩]
    refine ifB_f (decide_eq_false (by omega)) ?_
    conv => whnf
    refine ifB_f (show (bif false then true else decide (i > (n : Int))) = false from decide_eq_false (by omega)) ?_
    conv => whnf
    rw [ei, ej]
    have e1 : xs.getD (0 + 1 + addN 0 (i.toNat - 1) * (1 + 1)) 0 = xs.getD ((i.toNat - 1) * 2 + 1) 0 := by rw [addN_eq]; congr 1; omega
    refine And.intro ⟨by omega, by omega, allU_getD hu _⟩ ?_
    conv => whnf
    rw [ei, ej]
    refine And.intro (by omega) ?_
    conv => whnf
    rw [e1]
    repeat' (first | exact trivial | exact rfl | (refine And.intro ?_ ?_) | ((conv => whnf); done) | ((conv => whnf); (first | rfl | (refine congrArg (fun b => T.v (Value.bool b)) ?_; first | rfl | exact (decide_eq_true (by omega)).symm | exact (decide_eq_false (by omega)).symm | exact decide_eq_decide.2 (by omega)) | (refine congrArg (fun b => T.v (Value.int _ b)) ?_; first | rfl | omega) | omega)) | (first | rfl | (refine congrArg (fun b => T.v (Value.bool b)) ?_; first | rfl | exact (decide_eq_true (by omega)).symm | exact (decide_eq_false (by omega)).symm | exact decide_eq_decide.2 (by omega)) | (refine congrArg (fun b => T.v (Value.int _ b)) ?_; first | rfl | omega) | omega))
  · rw [show atR wf n xs i = (0, 0, 1) from if_neg hi]
    by_cases h1 : i < 1
    · refine ifB_t (decide_eq_true h1) ?_
      conv => whnf
      repeat' (first | exact trivial | exact rfl | (refine And.intro ?_ ?_) | ((conv => whnf); done) | ((conv => whnf); (first | rfl | (refine congrArg (fun b => T.v (Value.bool b)) ?_; first | rfl | exact (decide_eq_true (by omega)).symm | exact (decide_eq_false (by omega)).symm | exact decide_eq_decide.2 (by omega)) | (refine congrArg (fun b => T.v (Value.int _ b)) ?_; first | rfl | omega) | omega)) | (first | rfl | (refine congrArg (fun b => T.v (Value.bool b)) ?_; first | rfl | exact (decide_eq_true (by omega)).symm | exact (decide_eq_false (by omega)).symm | exact decide_eq_decide.2 (by omega)) | (refine congrArg (fun b => T.v (Value.int _ b)) ?_; first | rfl | omega) | omega))
    · refine ifB_f (decide_eq_false h1) ?_
      conv => whnf
      refine ifB_t (show (bif false then true else decide (i > (n : Int))) = true from decide_eq_true (by omega)) ?_
      conv => whnf
      repeat' (first | exact trivial | exact rfl | (refine And.intro ?_ ?_) | ((conv => whnf); done) | ((conv => whnf); (first | rfl | (refine congrArg (fun b => T.v (Value.bool b)) ?_; first | rfl | exact (decide_eq_true (by omega)).symm | exact (decide_eq_false (by omega)).symm | exact decide_eq_decide.2 (by omega)) | (refine congrArg (fun b => T.v (Value.int _ b)) ?_; first | rfl | omega) | omega)) | (first | rfl | (refine congrArg (fun b => T.v (Value.bool b)) ?_; first | rfl | exact (decide_eq_true (by omega)).symm | exact (decide_eq_false (by omega)).symm | exact decide_eq_decide.2 (by omega)) | (refine congrArg (fun b => T.v (Value.int _ b)) ?_; first | rfl | omega) | omega))
set_option maxRecDepth 100000 in
theorem atN_pure {bf : Int → Int → Bool} {wf : Int → Int} {wb : Int → Bool} {rf : Int → Int} (H : OrdH bf wf wb rf) (k p m : Int) (q : Nat) (w : List Int) (i : Int) (hx : AllU w) (ho : ¬ OpenOk bf wb k p m w) (he : openE k p m ≠ 0) :
    Pure Tryz.prog glM 14 [.agg [.v (.int .i64 k), .v (.int .i64 p), .v (.int .i64 m)], .fl [.u64] q w, .v (.int .i64 i)] (.tup [.agg [.v (.int .u64 0), .v (.int .u64 0)], .v (.int .i64 (openE k p m))]) := by
  refine pure_of (C := ctxOrKN Tryz.prog bf wb) (ctxOrKN_good H) Tryz.func14 (c := bodyOf Tryz.f14) (by rfl) (Nat.le_of_ble_eq_true (by rfl)) 4 0 [0, 1, 2, 3, 6, 7, 8, 9, 16, 21] ?_
  conv => whnf
  refine And.intro ⟨hx, ho⟩ ?_
  conv => whnf
  refine ifB_ne (fun _ => ?_) (fun h => absurd h he)
  conv => whnf
  repeat' (first | exact trivial | exact rfl | (refine And.intro ?_ ?_) | ((conv => whnf); done) | ((conv => whnf); (first | rfl | (refine congrArg (fun b => T.v (Value.bool b)) ?_; first | rfl | exact (decide_eq_true (by omega)).symm | exact (decide_eq_false (by omega)).symm | exact decide_eq_decide.2 (by omega)) | (refine congrArg (fun b => T.v (Value.int _ b)) ?_; first | rfl | omega) | omega)) | (first | rfl | (refine congrArg (fun b => T.v (Value.bool b)) ?_; first | rfl | exact (decide_eq_true (by omega)).symm | exact (decide_eq_false (by omega)).symm | exact decide_eq_decide.2 (by omega)) | (refine congrArg (fun b => T.v (Value.int _ b)) ?_; first | rfl | omega) | omega))
set_option maxRecDepth 100000 in
theorem wayY_pure {bf : Int → Int → Bool} {wf : Int → Int} {wb : Int → Bool} {rf : Int → Int} (H : OrdH bf wf wb rf) {wt : Int → Int} (hwt : ∀ a b, bf a b = decide (wt b < wt a)) (k p m : Int) (q n : Nat) (w xs : List Int) (key : Int) (hx : AllU w) (ho : OpenOk bf wb k p m w) (hn : (w.getD 0 0).toNat = n) (hxs : unp w n = xs) (hri : rises (rk xs n)) (hk : U64 key) :
    Pure Tryz.prog glM 16 [.agg [.v (.int .i64 k), .v (.int .i64 p), .v (.int .i64 m)], .fl [.u64] q w, .v (.int .u64 key)] (.tup [.ow 0 1 (wayB bf (rk xs n) (rf key)).length, .v (.int .i64 0)]) [(0, .fl [.i64] (wayB bf (rk xs n) (rf key)))] := by
  have hb := fits4' ho
  refine pure_of (C := ctxOrKY Tryz.prog bf wf wb rf) (ctxOrKY_good H hwt) Tryz.func16 (c := bodyOf Tryz.f16) (by rfl) (Nat.le_of_ble_eq_true (by rfl)) 4 0 [0, 1, 2, 3, 6, 7, 8, 9, 10, 11, 12, 21] ?_
  conv => whnf
  refine And.intro ⟨hx, ho⟩ ?_
  conv => whnf
  rw [hn, hxs]
  refine And.intro (by omega) ?_
  conv => whnf
  refine And.intro ⟨by omega, hri⟩ ?_
  conv => whnf
  refine And.intro hk ?_
  conv => whnf
  refine And.intro ⟨⟨by omega, hri⟩, rfl, rfl⟩ ?_
  conv => whnf
  repeat' (first | exact trivial | exact rfl | (refine And.intro ?_ ?_) | ((conv => whnf); done) | ((conv => whnf); (first | rfl | (refine congrArg (fun b => T.v (Value.bool b)) ?_; first | rfl | exact (decide_eq_true (by omega)).symm | exact (decide_eq_false (by omega)).symm | exact decide_eq_decide.2 (by omega)) | (refine congrArg (fun b => T.v (Value.int _ b)) ?_; first | rfl | omega) | omega)) | (first | rfl | (refine congrArg (fun b => T.v (Value.bool b)) ?_; first | rfl | exact (decide_eq_true (by omega)).symm | exact (decide_eq_false (by omega)).symm | exact decide_eq_decide.2 (by omega)) | (refine congrArg (fun b => T.v (Value.int _ b)) ?_; first | rfl | omega) | omega))
set_option maxRecDepth 100000 in
theorem wayN_pure {bf : Int → Int → Bool} {wf : Int → Int} {wb : Int → Bool} {rf : Int → Int} (H : OrdH bf wf wb rf) (k p m : Int) (q : Nat) (w : List Int) (i : Int) (hx : AllU w) (ho : ¬ OpenOk bf wb k p m w) (he : openE k p m ≠ 0) :
    Pure Tryz.prog glM 16 [.agg [.v (.int .i64 k), .v (.int .i64 p), .v (.int .i64 m)], .fl [.u64] q w, .v (.int .u64 i)] (.tup [.ow 0 1 0, .v (.int .i64 (openE k p m))]) [(0, .fl [.i64] [])] := by
  refine pure_of (C := ctxOrKN Tryz.prog bf wb) (ctxOrKN_good H) Tryz.func16 (c := bodyOf Tryz.f16) (by rfl) (Nat.le_of_ble_eq_true (by rfl)) 4 0 [0, 1, 2, 3, 6, 7, 8, 9, 10, 11, 12, 21] ?_
  conv => whnf
  refine And.intro ⟨hx, ho⟩ ?_
  conv => whnf
  refine ifB_ne (fun _ => ?_) (fun h => absurd h he)
  conv => whnf
  repeat' (first | exact trivial | exact rfl | (refine And.intro ?_ ?_) | ((conv => whnf); done) | ((conv => whnf); (first | rfl | (refine congrArg (fun b => T.v (Value.bool b)) ?_; first | rfl | exact (decide_eq_true (by omega)).symm | exact (decide_eq_false (by omega)).symm | exact decide_eq_decide.2 (by omega)) | (refine congrArg (fun b => T.v (Value.int _ b)) ?_; first | rfl | omega) | omega)) | (first | rfl | (refine congrArg (fun b => T.v (Value.bool b)) ?_; first | rfl | exact (decide_eq_true (by omega)).symm | exact (decide_eq_false (by omega)).symm | exact decide_eq_decide.2 (by omega)) | (refine congrArg (fun b => T.v (Value.int _ b)) ?_; first | rfl | omega) | omega))
set_option maxRecDepth 100000 in
theorem applyN_pure {bf : Int → Int → Bool} {wf : Int → Int} {wb : Int → Bool} {rf : Int → Int} (H : OrdH bf wf wb rf) (k p m : Int) (q : Nat) (w : List Int) (code key v : Int) (hx : AllU w) (ho : ¬ OpenOk bf wb k p m w) (he : openE k p m ≠ 0) :
    Pure Tryz.prog glM 20 [.agg [.v (.int .i64 k), .v (.int .i64 p), .v (.int .i64 m)], .fl [.u64] q w, .agg [.v (.int .i64 code), .v (.int .u64 key), .v (.int .u64 v)]] (.tup [.ow 0 1 0, .agg [.v (.int .i64 0), .v (.int .u64 0)], .v (.int .i64 (openE k p m))]) [(0, .fl [.u64] [])] := by
  refine pure_of (C := ctxOrKN Tryz.prog bf wb) (ctxOrKN_good H) Tryz.func20 (c := bodyOf Tryz.f20) (by rfl) (Nat.le_of_ble_eq_true (by rfl)) 4 3 [0, 1, 2, 3, 5, 6, 7, 8, 9, 10, 11, 12, 20, 24, 25, 29, 33, 37, 41] ?_
  conv => whnf
  refine And.intro ⟨hx, ho⟩ ?_
  conv => whnf
  refine ifB_ne (fun _ => ?_) (fun h => absurd h he)
  conv => whnf
  repeat' (first | exact trivial | exact rfl | (refine And.intro ?_ ?_) | ((conv => whnf); done) | ((conv => whnf); (first | rfl | (refine congrArg (fun b => T.v (Value.bool b)) ?_; first | rfl | exact (decide_eq_true (by omega)).symm | exact (decide_eq_false (by omega)).symm | exact decide_eq_decide.2 (by omega)) | (refine congrArg (fun b => T.v (Value.int _ b)) ?_; first | rfl | omega) | omega)) | (first | rfl | (refine congrArg (fun b => T.v (Value.bool b)) ?_; first | rfl | exact (decide_eq_true (by omega)).symm | exact (decide_eq_false (by omega)).symm | exact decide_eq_decide.2 (by omega)) | (refine congrArg (fun b => T.v (Value.int _ b)) ?_; first | rfl | omega) | omega))
set_option maxRecDepth 100000 in
theorem loadF_pure {bf : Int → Int → Bool} {wf : Int → Int} {wb : Int → Bool} {rf : Int → Int} (H : OrdH bf wf wb rf) (k p m : Int) (q : Nat) (l : List Int) (hf : ¬ (fitsB k p m = true ∧ k = 4)) :
    Pure Tryz.prog glM 11 [.agg [.v (.int .i64 k), .v (.int .i64 p), .v (.int .i64 m)], .fl [.u64, .u64] q l] (.tup [.ow 0 1 0, .v (.int .i64 5)]) [(0, .fl [.u64] [])] := by
  refine pure_of (C := ctxOrH Tryz.prog inlE_ok bf wf wb rf) (ctxOrH_good H) Tryz.func11 (c := bodyOf Tryz.f11) (by rfl) (Nat.le_of_ble_eq_true (by rfl)) 4 3 [0, 1, 2, 4, 5, 6, 7, 9, 10, 17, 19, 20, 21, 22, 34] ?_
  conv => whnf
  by_cases hf1 : fitsB k p m = true
  · have hk : ¬ k = 4 := fun h => hf ⟨hf1, h⟩
    repeat' (first | (refine ifB_t (by assumption) ?_; conv => whnf) | (refine ifB_f (by assumption) ?_; conv => whnf) | (refine ifB_dec (fun h => ?_) (fun h => ?_) <;> (first | (exfalso; omega) | (conv => whnf))) | (refine ifB_eq (fun h => ?_) (fun h => ?_) <;> (first | (exfalso; omega) | (conv => whnf))) | (refine ifB_ne (fun h => ?_) (fun h => ?_) <;> (first | (exfalso; omega) | (conv => whnf))) | (refine ifB_not ?_; conv => whnf) | (refine ifB_and ?_; conv => whnf) | (refine ifB_or ?_; conv => whnf) | (refine And.intro ?_ ?_; (first | omega | assumption | (exact allU_getD (by assumption) _) | (simp only [cutL]; omega) | (refine And.intro ?_ ?_ <;> first | assumption | exact allU_getD (by assumption) _) | (simp only [cutL, IntKind.wrap_u64, IntKind.wrap_i64] at *; omega) | decide); conv => whnf) | (refine ifB_mk (fun h => ?_) (fun h => ?_) <;> (conv => whnf)))
    all_goals repeat' (first | exact trivial | exact rfl | (refine And.intro ?_ ?_) | ((conv => whnf); done) | ((conv => whnf); (first | rfl | (refine congrArg (fun b => T.v (Value.bool b)) ?_; first | rfl | exact (decide_eq_true (by omega)).symm | exact (decide_eq_false (by omega)).symm | exact decide_eq_decide.2 (by omega)) | (refine congrArg (fun b => T.v (Value.int _ b)) ?_; first | rfl | omega) | omega)) | (first | rfl | (refine congrArg (fun b => T.v (Value.bool b)) ?_; first | rfl | exact (decide_eq_true (by omega)).symm | exact (decide_eq_false (by omega)).symm | exact decide_eq_decide.2 (by omega)) | (refine congrArg (fun b => T.v (Value.int _ b)) ?_; first | rfl | omega) | omega))
  · have hf2 : fitsB k p m = false := by cases h : fitsB k p m; rfl; exact absurd h hf1
    repeat' (first | (refine ifB_t (by assumption) ?_; conv => whnf) | (refine ifB_f (by assumption) ?_; conv => whnf) | (refine ifB_dec (fun h => ?_) (fun h => ?_) <;> (first | (exfalso; omega) | (conv => whnf))) | (refine ifB_eq (fun h => ?_) (fun h => ?_) <;> (first | (exfalso; omega) | (conv => whnf))) | (refine ifB_ne (fun h => ?_) (fun h => ?_) <;> (first | (exfalso; omega) | (conv => whnf))) | (refine ifB_not ?_; conv => whnf) | (refine ifB_and ?_; conv => whnf) | (refine ifB_or ?_; conv => whnf) | (refine And.intro ?_ ?_; (first | omega | assumption | (exact allU_getD (by assumption) _) | (simp only [cutL]; omega) | (refine And.intro ?_ ?_ <;> first | assumption | exact allU_getD (by assumption) _) | (simp only [cutL, IntKind.wrap_u64, IntKind.wrap_i64] at *; omega) | decide); conv => whnf) | (refine ifB_mk (fun h => ?_) (fun h => ?_) <;> (conv => whnf)))
    all_goals repeat' (first | exact trivial | exact rfl | (refine And.intro ?_ ?_) | ((conv => whnf); done) | ((conv => whnf); (first | rfl | (refine congrArg (fun b => T.v (Value.bool b)) ?_; first | rfl | exact (decide_eq_true (by omega)).symm | exact (decide_eq_false (by omega)).symm | exact decide_eq_decide.2 (by omega)) | (refine congrArg (fun b => T.v (Value.int _ b)) ?_; first | rfl | omega) | omega)) | (first | rfl | (refine congrArg (fun b => T.v (Value.bool b)) ?_; first | rfl | exact (decide_eq_true (by omega)).symm | exact (decide_eq_false (by omega)).symm | exact decide_eq_decide.2 (by omega)) | (refine congrArg (fun b => T.v (Value.int _ b)) ?_; first | rfl | omega) | omega))
end Go.Proofs.YtlcpcgdecodjfaaGreatDoor
namespace Go.Proofs.YtlcpcgdecodjfaaGreatDoor
open Go.RowKit Go.Proofs.YtlcpcgdecodjfaaGreatDoor.Am
set_option linter.unusedVariables false
set_option linter.unusedSimpArgs false

/-- What Load tells: words, the error. -/
def ldR (bf : Int → Int → Bool) (rf : Int → Int) (k p m : Int) (l : List Int) (q : Nat) : List Int × Int :=
  if fitsB k p m = true ∧ k = 4 then (if (ldS rf m.toNat l q).2.2.1 = 0 then (wordsO bf m.toNat (ldS rf m.toNat l q).1 (ldS rf m.toNat l q).2.1, 0) else ([], 11)) else ([], 5)
open Classical in
/-- What Apply tells: words, the answer's error, its value, the error. -/
noncomputable def appR (bf : Int → Int → Bool) (wf : Int → Int) (wb : Int → Bool) (rf : Int → Int) (k p m : Int) (w : List Int) (code key v : Int) : List Int × Int × Int × Int :=
  if OpenOk bf wb k p m w then
    (wordsO bf m.toNat (ordDo wf rf m.toNat (w.getD 0 0).toNat (unp w (w.getD 0 0).toNat) code key v).1 (ordDo wf rf m.toNat (w.getD 0 0).toNat (unp w (w.getD 0 0).toNat) code key v).2.1,
      (ordDo wf rf m.toNat (w.getD 0 0).toNat (unp w (w.getD 0 0).toNat) code key v).2.2.1, (ordDo wf rf m.toNat (w.getD 0 0).toNat (unp w (w.getD 0 0).toNat) code key v).2.2.2, 0)
  else ([], 0, 0, openE k p m)
open Classical in
/-- What At tells. -/
noncomputable def atRR (bf : Int → Int → Bool) (wf : Int → Int) (wb : Int → Bool) (k p m : Int) (w : List Int) (i : Int) : Int × Int × Int :=
  if OpenOk bf wb k p m w then atR wf (w.getD 0 0).toNat (unp w (w.getD 0 0).toNat) i else (0, 0, openE k p m)
open Classical in
/-- What Way tells. -/
noncomputable def wayR (bf : Int → Int → Bool) (wb : Int → Bool) (rf : Int → Int) (k p m : Int) (w : List Int) (key : Int) : List Int × Int :=
  if OpenOk bf wb k p m w then (wayB bf (rk (unp w (w.getD 0 0).toNat) (w.getD 0 0).toNat) (rf key), 0) else ([], openE k p m)
theorem openE_ne (k p m : Int) : openE k p m ≠ 0 := by unfold openE; split <;> decide
theorem ldS_e (rf : Int → Int) (m : Nat) (l : List Int) : ∀ j, (ldS rf m l j).2.2.1 = 0 ∨ (ldS rf m l j).2.2.1 = 11
  | 0 => .inl rfl
  | j + 1 => by
    simp only [ldS]
    split
    · simp only [ordDo]
      simp only [show ¬ (11 : Int) = 10 by decide, if_false, if_true]
      split
      · exact .inl rfl
      · split
        · exact .inr rfl
        · exact .inl rfl
    · exact ldS_e rf m l j
theorem wordsO_len {bf : Int → Int → Bool} {m n : Nat} {xs : List Int} (h : n ≤ m) : (wordsO bf m n xs).length = 2 + 4 * m := wst_len bf m n xs n h
theorem allU_unp {w : List Int} (h : AllU w) : ∀ n, AllU (unp w n)
  | 0 => fun x hx => by cases hx
  | n + 1 => by
    intro x hx
    simp only [unp] at hx
    rcases List.mem_append.1 hx with hx | hx
    · exact allU_unp h n x hx
    · simp only [List.mem_cons, List.not_mem_nil, or_false] at hx
      rcases hx with rfl | rfl
      · exact allU_getD h _
      · exact allU_getD h _
theorem openOk_v {bf : Int → Int → Bool} {wb : Int → Bool} {k p m : Int} {w : List Int} (hx : AllU w) (h : OpenOk bf wb k p m w) : OrdV wb m.toNat (w.getD 0 0).toNat (unp w (w.getD 0 0).toNat) := by
  obtain ⟨⟨h1, rfl⟩, ⟨h2, h3, h4⟩, h5, h6⟩ := h
  have := fits4 h1
  refine ⟨unp_len _ _, by omega, allU_unp hx _, okE_rises h5, fun i hi => ?_⟩
  rw [unp_getD w hi]
  have := okE_mono (i := i + 1) hi h5
  simp only [okE, Bool.and_eq_true] at this
  exact this.2.1
def eLoadO (bf : Int → Int → Bool) (rf : Int → Int) : Entry := ⟨11, 7, fun l => match l with
  | [.agg [.v (.int .i64 k), .v (.int .i64 p), .v (.int .i64 m)], .fl [.u64, .u64] q l] => some (some (AllU l), .tup [.ow 0 1 (ldR bf rf k p m l q).1.length, .v (.int .i64 (ldR bf rf k p m l q).2)], [(0, .fl [.u64] (ldR bf rf k p m l q).1)])
  | _ => none⟩
theorem eLoadO_ok {bf : Int → Int → Bool} {wf : Int → Int} {wb : Int → Bool} {rf : Int → Int} (H : OrdH bf wf wb rf) : (eLoadO bf rf).ok Tryz.prog glM := ⟨Am.enters_of Tryz.func11 (by kernel_rfl) (by kernel_rfl), by
  intro args c t bs h hc
  simp only [eLoadO] at h
  split at h <;> cases h
  rename_i k p m q l
  have hx := hc _ rfl
  by_cases hf : fitsB k p m = true ∧ k = 4
  · obtain ⟨h1, rfl⟩ := hf
    have hm := fits4 h1
    obtain ⟨m0, rfl⟩ := Int.eq_ofNat_of_zero_le (a := m) (by omega)
    refine load_pure H p m0 q l hx h1 _ _ (fun he => ?_) (fun he => ?_)
    · rw [show ldR bf rf 4 p m0 l q = (wordsO bf m0 (ldS rf m0 l q).1 (ldS rf m0 l q).2.1, 0) by simp [ldR, h1, he]]
      rw [wordsO_len (ldS_v (wb := wb) H.ru H.wr hx q).room]
      exact ⟨rfl, rfl⟩
    · rw [show ldR bf rf 4 p m0 l q = ([], 11) by simp [ldR, h1, he]]
      exact ⟨rfl, rfl⟩
  · rw [show ldR bf rf k p m l q = ([], 5) from if_neg hf]
    exact loadF_pure H k p m q l hf⟩
noncomputable def eApplyO (bf : Int → Int → Bool) (wf : Int → Int) (wb : Int → Bool) (rf : Int → Int) : Entry := ⟨20, 7, fun l => match l with
  | [.agg [.v (.int .i64 k), .v (.int .i64 p), .v (.int .i64 m)], .fl [.u64] q w, .agg [.v (.int .i64 code), .v (.int .u64 key), .v (.int .u64 v)]] => some (some (AllU w ∧ U64 key ∧ U64 v),
      .tup [.ow 0 1 (appR bf wf wb rf k p m w code key v).1.length, .agg [.v (.int .i64 (appR bf wf wb rf k p m w code key v).2.1), .v (.int .u64 (appR bf wf wb rf k p m w code key v).2.2.1)], .v (.int .i64 (appR bf wf wb rf k p m w code key v).2.2.2)], [(0, .fl [.u64] (appR bf wf wb rf k p m w code key v).1)])
  | _ => none⟩
theorem eApplyO_ok {bf : Int → Int → Bool} {wf : Int → Int} {wb : Int → Bool} {rf : Int → Int} (H : OrdH bf wf wb rf) : (eApplyO bf wf wb rf).ok Tryz.prog glM := ⟨Am.enters_of Tryz.func20 (by kernel_rfl) (by kernel_rfl), by
  intro args c t bs h hc
  simp only [eApplyO] at h
  split at h <;> cases h
  rename_i k p m q w code key v
  obtain ⟨hx, hk, hv⟩ := hc _ rfl
  by_cases ho : OpenOk bf wb k p m w
  · have hV := openOk_v hx ho
    have hW := ordDo_v (wf := wf) H.ru H.wr (code := code) hV hk hv
    rw [show appR bf wf wb rf k p m w code key v = _ from if_pos ho]
    obtain ⟨h1, rfl⟩ := ho.1
    have hm := fits4 h1
    obtain ⟨m0, rfl⟩ := Int.eq_ofNat_of_zero_le (a := m) (by omega)
    dsimp only
    rw [Int.toNat_natCast] at hW ⊢
    rw [wordsO_len hW.room]
    exact applyO_pure H p m0 q _ w _ code key v hx ho rfl rfl hk hv
  · rw [show appR bf wf wb rf k p m w code key v = _ from if_neg ho]
    exact applyN_pure H k p m q w code key v hx ho (openE_ne _ _ _)⟩
noncomputable def eAtO (bf : Int → Int → Bool) (wf : Int → Int) (wb : Int → Bool) : Entry := ⟨14, 7, fun l => match l with
  | [.agg [.v (.int .i64 k), .v (.int .i64 p), .v (.int .i64 m)], .fl [.u64] q w, .v (.int .i64 i)] => some (some (AllU w), .tup [.agg [.v (.int .u64 (atRR bf wf wb k p m w i).1), .v (.int .u64 (atRR bf wf wb k p m w i).2.1)], .v (.int .i64 (atRR bf wf wb k p m w i).2.2)], [])
  | _ => none⟩
theorem eAtO_ok {bf : Int → Int → Bool} {wf : Int → Int} {wb : Int → Bool} {rf : Int → Int} (H : OrdH bf wf wb rf) {wt : Int → Int} (hwt : ∀ a b, bf a b = decide (wt b < wt a)) : (eAtO bf wf wb).ok Tryz.prog glM := ⟨Am.enters_of Tryz.func14 (by kernel_rfl) (by kernel_rfl), by
  intro args c t bs h hc
  simp only [eAtO] at h
  split at h <;> cases h
  rename_i k p m q w i
  have hx := hc _ rfl
  by_cases ho : OpenOk bf wb k p m w
  · rw [show atRR bf wf wb k p m w i = _ from if_pos ho]
    exact atY_pure H hwt k p m q _ w _ i hx ho rfl rfl (openOk_v hx ho).u
  · rw [show atRR bf wf wb k p m w i = _ from if_neg ho]
    exact atN_pure H k p m q w i hx ho (openE_ne _ _ _)⟩
noncomputable def eWayO (bf : Int → Int → Bool) (wb : Int → Bool) (rf : Int → Int) : Entry := ⟨16, 7, fun l => match l with
  | [.agg [.v (.int .i64 k), .v (.int .i64 p), .v (.int .i64 m)], .fl [.u64] q w, .v (.int .u64 key)] => some (some (AllU w ∧ U64 key), .tup [.ow 0 1 (wayR bf wb rf k p m w key).1.length, .v (.int .i64 (wayR bf wb rf k p m w key).2)], [(0, .fl [.i64] (wayR bf wb rf k p m w key).1)])
  | _ => none⟩
theorem eWayO_ok {bf : Int → Int → Bool} {wf : Int → Int} {wb : Int → Bool} {rf : Int → Int} (H : OrdH bf wf wb rf) {wt : Int → Int} (hwt : ∀ a b, bf a b = decide (wt b < wt a)) : (eWayO bf wb rf).ok Tryz.prog glM := ⟨Am.enters_of Tryz.func16 (by kernel_rfl) (by kernel_rfl), by
  intro args c t bs h hc
  simp only [eWayO] at h
  split at h <;> cases h
  rename_i k p m q w key
  obtain ⟨hx, hk⟩ := hc _ rfl
  by_cases ho : OpenOk bf wb k p m w
  · rw [show wayR bf wb rf k p m w key = _ from if_pos ho]
    exact wayY_pure H hwt k p m q _ w _ key hx ho rfl rfl (openOk_v hx ho).rise hk
  · rw [show wayR bf wb rf k p m w key = _ from if_neg ho]
    exact wayN_pure H k p m q w key hx ho (openE_ne _ _ _)⟩
end Go.Proofs.YtlcpcgdecodjfaaGreatDoor
namespace Go.Proofs.YtlcpcgdecodjfaaGreatDoor
open Go.RowKit Go.Proofs.YtlcpcgdecodjfaaGreatDoor.Am
set_option linter.unusedVariables false
set_option linter.unusedSimpArgs false

theorem rMix_i (w : Int) : rMix w = iMix w := by
  unfold rMix iMix
  have e : mixR (mixR (mixR w 30 13787848793156543929) 27 10723151780598845931) 31 1 = IntKind.u64.wrap (mixF (mixR (mixR w 30 13787848793156543929) 27 10723151780598845931) 31 * 1) := rfl
  rw [e, Int.mul_one]
  obtain ⟨h1, h2⟩ := (show U64 (mixF (mixR (mixR w 30 13787848793156543929) 27 10723151780598845931) 31) from u64_bits _ _ _)
  exact (wrapU h1 h2).symm
theorem rmixI_pure (a : Int) : Pure Tryz.prog glR 118 [.v (.int .u64 a)] (.v (.int .u64 (iMix a))) := by
  rw [← rMix_i]
  exact rmixR_pure a
def eRMix : Entry := ⟨118, 3, fun l => match l with | [.v (.int .u64 a)] => some (none, .v (.int .u64 (iMix a)), []) | _ => none⟩
theorem eRMix_ok : eRMix.ok Tryz.prog glR := ⟨Am.enters_of Tryz.func118 (by kernel_rfl) (by kernel_rfl), by
  intro args c t bs h hc
  simp only [eRMix] at h
  split at h <;> cases h
  exact rmixI_pure _⟩
noncomputable def ctxTrA (P : Program) : Ctx := ctx P glR [eRMix] [] (noEq P) [] (fun _ h => by cases h)
theorem ctxTrA_good : (ctxTrA Tryz.prog).good := ctx_good (by kernel_rfl) (AllOk.mem ⟨eRMix_ok, trivial⟩) glR_two
set_option maxRecDepth 100000 in
theorem rbefore_pure (a b : Int) : Pure Tryz.prog glR 102 [.v (.int .u64 a), .v (.int .u64 b)] (.v (.bool (bBefore a b))) := by
  refine pure_of (C := ctxTrA Tryz.prog) ctxTrA_good Tryz.func102 (c := bodyOf Tryz.f102) (by rfl) (Nat.le_of_ble_eq_true (by rfl)) 4 0 [0, 1, 4] ?_
  conv => whnf
  rfl
def eRBefore : Entry := ⟨102, 3, fun l => match l with | [.v (.int .u64 a), .v (.int .u64 b)] => some (none, .v (.bool (bBefore a b)), []) | _ => none⟩
theorem eRBefore_ok : eRBefore.ok Tryz.prog glR := ⟨Am.enters_of Tryz.func102 (by kernel_rfl) (by kernel_rfl), by
  intro args c t bs h hc
  simp only [eRBefore] at h
  split at h <;> cases h
  exact rbefore_pure _ _⟩
def eRBf (bf : Int → Int → Bool) : Entry := ⟨102, 3, fun l => match l with
  | [.v (.int .u64 a), .v (.int .u64 b)] => some (none, .v (.bool (bf a b)), [])
  | _ => none⟩
/-- The first one of the heaviest among those from lo on, so many. -/
def topL (bf : Int → Int → Bool) (xs : List Int) (lo : Nat) : Nat → Nat
  | 0 => lo
  | j + 1 => if bf (xs.getD (lo + j + 1) 0) (xs.getD (topL bf xs lo j) 0) = true then lo + j + 1 else topL bf xs lo j
theorem topL_succ (bf : Int → Int → Bool) (xs : List Int) (lo j : Nat) : topL bf xs lo (j + 1) = if bf (xs.getD (lo + j + 1) 0) (xs.getD (topL bf xs lo j) 0) = true then lo + j + 1 else topL bf xs lo j := rfl
theorem topL_is {bf : Int → Int → Bool} {wt : Int → Int} (hwt : ∀ a b, bf a b = decide (wt b < wt a)) (xs : List Int) (lo : Nat) : ∀ j, lo ≤ topL bf xs lo j ∧ topL bf xs lo j ≤ lo + j ∧ (∀ i, lo ≤ i → i ≤ lo + j → (i < topL bf xs lo j → wt (xs.getD i 0) < wt (xs.getD (topL bf xs lo j) 0)) ∧ wt (xs.getD i 0) ≤ wt (xs.getD (topL bf xs lo j) 0))
  | 0 => ⟨Nat.le_refl _, Nat.le_refl _, fun i h1 h2 => by
    obtain rfl : i = lo := by omega
    exact ⟨fun h => absurd h (Nat.lt_irrefl _), Int.le_refl _⟩⟩
  | j + 1 => by
    obtain ⟨h1, h2, h3⟩ := topL_is hwt xs lo j
    have h4 := (h3 (topL bf xs lo j) h1 h2).2
    simp only [topL]
    split
    · rename_i hb
      have hb : wt (xs.getD (lo + j + 1) 0) > wt (xs.getD (topL bf xs lo j) 0) := of_decide_eq_true ((hwt _ _).symm.trans hb)
      refine ⟨by omega, by omega, fun i g1 g2 => ?_⟩
      by_cases e : i = lo + j + 1
      · subst e; exact ⟨fun h => absurd h (Nat.lt_irrefl _), Int.le_refl _⟩
      · have := (h3 i g1 (by omega)).2
        exact ⟨fun _ => by omega, by omega⟩
    · rename_i hb
      have hb : ¬ wt (xs.getD (lo + j + 1) 0) > wt (xs.getD (topL bf xs lo j) 0) := fun h => hb ((hwt _ _).trans (decide_eq_true h))
      refine ⟨h1, by omega, fun i g1 g2 => ?_⟩
      by_cases e : i = lo + j + 1
      · subst e; exact ⟨fun h => by omega, by omega⟩
      · exact h3 i g1 (by omega)
theorem topL_top {bf : Int → Int → Bool} {wt : Int → Int} (hwt : ∀ a b, bf a b = decide (wt b < wt a)) {xs lk : List Int} {lo hi t : Nat} (h : IsTr wt xs lk lo hi t) (hlt : lo < hi) : topL bf xs lo (hi - lo - 1) + 1 = t := by
  cases h with
  | nil => omega
  | node h1 h2 h3 h4 h5 h6 h7 =>
    obtain ⟨g1, g2, g3⟩ := topL_is hwt xs lo (hi - lo - 1)
    have a1 := g3 (t - 1) (by omega) (by omega)
    have a2 := h3 (topL bf xs lo (hi - lo - 1)) g1 (by omega)
    rcases Nat.lt_trichotomy (t - 1) (topL bf xs lo (hi - lo - 1)) with h | h | h
    · have := a1.1 h; omega
    · omega
    · have := a2.1 h; omega
/-- The top of the tree of those from lo up to hi. -/
def topN (bf : Int → Int → Bool) (xs : List Int) (lo hi : Nat) : Nat := if lo < hi then topL bf xs lo (hi - lo - 1) + 1 else 0
theorem topN_is {bf : Int → Int → Bool} {wt : Int → Int} (hwt : ∀ a b, bf a b = decide (wt b < wt a)) {xs lk : List Int} {lo hi t : Nat} (h : IsTr wt xs lk lo hi t) : topN bf xs lo hi = t := by
  unfold topN
  split
  · rename_i hlt; exact topL_top hwt h hlt
  · cases h with
    | nil => rfl
    | node h1 h2 => omega
def segL (lk : List Int) (lo hi : Nat) : List Int := (lk.take (hi * 2)).drop (lo * 2)
theorem segL_split {lk : List Int} {lo q hi : Nat} (h1 : lo ≤ q) (h2 : q < hi) (h3 : hi * 2 ≤ lk.length) : segL lk lo hi = segL lk lo q ++ [lk.getD (q * 2) 0, lk.getD (q * 2 + 1) 0] ++ segL lk (q + 1) hi := by
  unfold segL
  refine List.ext_getElem? fun i => ?_
  have g : ∀ j, j < lk.length → some (lk.getD j 0) = lk[j]? := fun j hj => by rw [List.getD_eq_getElem?_getD, List.getElem?_eq_getElem hj]; rfl
  have l1 : ((lk.take (q * 2)).drop (lo * 2)).length = (q - lo) * 2 := by simp; omega
  rw [List.getElem?_drop]
  by_cases c1 : i < (q - lo) * 2
  · rw [List.append_assoc, List.getElem?_append_left (by rw [l1]; exact c1), List.getElem?_drop, List.getElem?_take_of_lt (by omega), List.getElem?_take_of_lt (by omega)]
  · rw [List.append_assoc, List.getElem?_append_right (by rw [l1]; omega), l1]
    by_cases c2 : i = (q - lo) * 2
    · rw [c2, Nat.sub_self, List.getElem?_take_of_lt (by omega), show lo * 2 + (q - lo) * 2 = q * 2 by omega]; exact (g _ (by omega)).symm
    · by_cases c3 : i = (q - lo) * 2 + 1
      · rw [c3, show (q - lo) * 2 + 1 - (q - lo) * 2 = 1 by omega, List.getElem?_take_of_lt (by omega), show lo * 2 + ((q - lo) * 2 + 1) = q * 2 + 1 by omega]; exact (g _ (by omega)).symm
      · obtain ⟨k, hk⟩ : ∃ k, i - (q - lo) * 2 = k + 2 := ⟨i - (q - lo) * 2 - 2, by omega⟩
        rw [hk]
        show _ = ((lk.take (hi * 2)).drop ((q + 1) * 2))[k]?
        rw [List.getElem?_drop, show (q + 1) * 2 + k = lo * 2 + i by omega]
def eTree (bf : Int → Int → Bool) (wt : Int → Int) (lk : List Int) (d : Nat) : Entry := ⟨79, 3, fun l => match l with
  | [.fl [.u64] n xs, .v (.int .i64 lo), .v (.int .i64 hi)] => some (some ((0 ≤ lo ∧ lo ≤ hi ∧ hi ≤ n ∧ n ≤ 256 ∧ lk.length = n * 2 ∧ (hi - lo).toNat < d) ∧ ∃ t, IsTr wt xs lk lo.toNat hi.toNat t),
      .tup [.v (.int .i64 (topN bf xs lo.toNat hi.toNat)), .ow 0 2 (hi.toNat - lo.toNat)], [(0, .fl [.i64, .i64] (segL lk lo.toNat hi.toNat))])
  | _ => none⟩
noncomputable def ctxTrT (P : Program) (bf : Int → Int → Bool) (wt : Int → Int) (lk : List Int) (d : Nat) : Ctx := ctx P glR [eTree bf wt lk d, eRBf bf] [] (noEq P) [] (fun _ h => by cases h)
attribute [local irreducible] topN topL segL
set_option maxRecDepth 100000 in
theorem tree_pure {bf : Int → Int → Bool} {wt : Int → Int} (hwt : ∀ a b, bf a b = decide (wt b < wt a)) (hrb : (eRBf bf).ok Tryz.prog glR) (lk : List Int) (d : Nat) (ih : (eTree bf wt lk d).ok Tryz.prog glR) (n : Nat) (xs : List Int) (lo hi t : Nat) (h1 : lo ≤ hi) (h2 : hi ≤ n) (h3 : n ≤ 256) (hlk : lk.length = n * 2) (h4 : hi - lo < d + 1) (ht : IsTr wt xs lk lo hi t) :
    Pure Tryz.prog glR 79 [.fl [.u64] n xs, .v (.int .i64 lo), .v (.int .i64 hi)] (.tup [.v (.int .i64 t), .ow 0 2 (hi - lo)]) [(0, .fl [.i64, .i64] (segL lk lo hi))] := by
  have good : (ctxTrT Tryz.prog bf wt lk d).good := ctx_good (by kernel_rfl) (AllOk.mem ⟨ih, hrb, trivial⟩) glR_two
  refine pure_wf fun hw => ?_
  obtain ⟨⟨w1, w2⟩, -⟩ := hw
  simp only [List.length_cons, List.length_nil, Nat.zero_add, Nat.mul_one] at w1
  refine pure_of (C := ctxTrT Tryz.prog bf wt lk d) good Tryz.func79 (c := bodyOf Tryz.f79) (by rfl) (Nat.le_of_ble_eq_true (by rfl)) 4 0 [0, 1, 2, 6, 7, 8, 9, 10, 11, 12, 13, 16, 22, 33] ?_
  conv => whnf
  by_cases hlt : lo < hi
  · refine ifB_f (decide_eq_false (by omega)) ?_
    conv => whnf
    have ew1 : IntKind.i64.wrap ((lo : Int) + 1) = ((lo + 0 + 1 : Nat) : Int) := wrap64 (by omega) (by omega)
    rw [ew1]
    have etop0 : topL bf xs lo 0 = lo := by unfold topL; rfl
    refine TW.loopD good 0 (base := 0) (lv := [0, 1, 2, 6, 7, 8, 9, 10, 11, 12, 13, 16, 22, 33]) [8, 9] [] [] (fun x : Nat × Nat => [.v (.int .i64 x.2), .v (.int .i64 (lo + x.1 + 1 : Nat))]) (fun _ => []) (fun x => lo + x.1 < hi ∧ x.2 = topL bf xs lo x.1) (fun x => hi - x.1) ?_
    conv => whnf
    refine ⟨⟨(0, lo), ⟨rfl, rfl, rfl⟩, hlt, etop0.symm⟩, fun ⟨j, q⟩ ⟨hj, hq⟩ => ?_⟩
    replace hj : lo + j < hi := hj
    replace hq : q = topL bf xs lo j := hq
    obtain ⟨t1, t2, -⟩ := topL_is hwt xs lo j
    rw [← hq] at t1 t2
    conv => whnf
    have e0 : ∀ j : Nat, xs.getD (0 + (j : Int).toNat * (0 + 1)) 0 = xs.getD j 0 := fun j => by simp
    refine ifB_dec (fun h => ?_) (fun h => ?_)
    · conv => whnf
      repeat (refine And.intro (by omega) ?_; conv => whnf)
      rw [e0, e0]
      have ew : IntKind.i64.wrap (((lo + j + 1 : Nat) : Int) + 1) = ((lo + (j + 1) + 1 : Nat) : Int) := wrap64 (by omega) (by omega)
      have es : topL bf xs lo (j + 1) = if bf (xs.getD (lo + j + 1) 0) (xs.getD q 0) = true then lo + j + 1 else q := by rw [hq]; exact topL_succ _ _ _ _
      cases hb : bf (xs.getD (lo + j + 1) 0) (xs.getD q 0)
      · conv => whnf
        rw [ew]
        rw [hb] at es
        exact ⟨(j + 1, q), [], ⟨rfl, rfl, rfl⟩, ⟨(by omega : lo + (j + 1) < hi), (show q = topL bf xs lo (j + 1) by rw [es]; rfl)⟩, by dsimp only; omega⟩
      · conv => whnf
        rw [ew]
        rw [hb] at es
        exact ⟨(j + 1, lo + j + 1), [], ⟨rfl, rfl, rfl⟩, ⟨(by omega : lo + (j + 1) < hi), (show lo + j + 1 = topL bf xs lo (j + 1) by rw [es]; rfl)⟩, by dsimp only; omega⟩
    · conv => whnf
      have ej : j = hi - lo - 1 := by omega
      have et : q + 1 = t := by rw [hq, ej]; exact topL_top hwt ht hlt
      cases ht with
      | nil => omega
      | node g1 g2 g3 g4 g5 g6 g7 =>
        rename_i l r
        have eq : q = t - 1 := by omega
        rw [← eq] at g4 g5 g6
        rw [← et] at g7
        refine And.intro ⟨by omega, l, by rw [Int.toNat_natCast, Int.toNat_natCast]; exact g6⟩ ?_
        conv => whnf
        have ew : IntKind.i64.wrap (((j, q) : Nat × Nat).2 + 1 : Int) = ((q + 1 : Nat) : Int) := wrap64 (by dsimp only; omega) (by dsimp only; omega)
        rw [ew]
        refine And.intro ⟨by omega, r, by rw [Int.toNat_natCast, Int.toNat_natCast]; exact g7⟩ ?_
        conv => whnf
        repeat (refine And.intro (by first | omega | (show ((q : Int).toNat - (lo : Int).toNat) * 16 ≤ 140737488355328; omega)) ?_; conv => whnf)
        have e9 : segL lk lo q ++ [((topN bf xs lo q : Nat) : Int), ((topN bf xs (q + 1) hi : Nat) : Int)] ++ segL lk (q + 1) hi = segL lk lo hi := by
          rw [topN_is hwt g6, topN_is hwt g7, ← g4, ← g5]; exact (segL_split (by omega) (by omega) (by omega)).symm
        have e8 : ((((j, q) : Nat × Nat).2 : Int).toNat - (lo : Int).toNat + 1 + ((hi : Int).toNat - ((q + 1 : Nat) : Int).toNat)) = hi - lo := by simp only [Int.toNat_natCast]; omega
        rw [e8, ew, et]
        rw [et] at e9
        simp only [Int.toNat_natCast]
        rw [e9]
        repeat' (first | exact trivial | exact rfl | (refine And.intro ?_ ?_) | ((conv => whnf); done) | ((conv => whnf); (first | rfl | (refine congrArg (fun b => T.v (Value.bool b)) ?_; first | rfl | exact (decide_eq_true (by omega)).symm | exact (decide_eq_false (by omega)).symm | exact decide_eq_decide.2 (by omega)) | (refine congrArg (fun b => T.v (Value.int _ b)) ?_; first | rfl | omega) | omega)) | (first | rfl | (refine congrArg (fun b => T.v (Value.bool b)) ?_; first | rfl | exact (decide_eq_true (by omega)).symm | exact (decide_eq_false (by omega)).symm | exact decide_eq_decide.2 (by omega)) | (refine congrArg (fun b => T.v (Value.int _ b)) ?_; first | rfl | omega) | omega))
  · refine ifB_t (decide_eq_true (by omega)) ?_
    conv => whnf
    have e : lo = hi := by omega
    subst e
    have et : t = 0 := by
      cases ht with
      | nil => rfl
      | node h1 h2 => omega
    subst et
    have es : segL lk lo lo = [] := by unfold segL; simp
    rw [es, Nat.sub_self]
    repeat' (first | exact trivial | exact rfl | (refine And.intro ?_ ?_) | ((conv => whnf); done) | ((conv => whnf); (first | rfl | (refine congrArg (fun b => T.v (Value.bool b)) ?_; first | rfl | exact (decide_eq_true (by omega)).symm | exact (decide_eq_false (by omega)).symm | exact decide_eq_decide.2 (by omega)) | (refine congrArg (fun b => T.v (Value.int _ b)) ?_; first | rfl | omega) | omega)) | (first | rfl | (refine congrArg (fun b => T.v (Value.bool b)) ?_; first | rfl | exact (decide_eq_true (by omega)).symm | exact (decide_eq_false (by omega)).symm | exact decide_eq_decide.2 (by omega)) | (refine congrArg (fun b => T.v (Value.int _ b)) ?_; first | rfl | omega) | omega))
theorem eTree_ok {bf : Int → Int → Bool} {wt : Int → Int} (hwt : ∀ a b, bf a b = decide (wt b < wt a)) (hrb : (eRBf bf).ok Tryz.prog glR) (lk : List Int) : ∀ d, (eTree bf wt lk d).ok Tryz.prog glR
  | 0 => ⟨Am.enters_of Tryz.func79 (by kernel_rfl) (by kernel_rfl), by
    intro args c t bs h hc
    simp only [eTree] at h
    split at h <;> cases h
    have := (hc _ rfl).1
    omega⟩
  | d + 1 => ⟨Am.enters_of Tryz.func79 (by kernel_rfl) (by kernel_rfl), by
    intro args c t bs h hc
    simp only [eTree] at h
    split at h <;> cases h
    rename_i n xs lo hi
    obtain ⟨⟨h1, h2, h3, h4, h5, h6⟩, t, ht⟩ := hc _ rfl
    obtain ⟨lo0, rfl⟩ := Int.eq_ofNat_of_zero_le h1
    obtain ⟨hi0, rfl⟩ := Int.eq_ofNat_of_zero_le (a := hi) (by omega)
    rw [Int.toNat_natCast, Int.toNat_natCast] at ht ⊢
    rw [topN_is hwt ht]
    exact tree_pure hwt hrb lk d (eTree_ok hwt hrb lk d) n xs lo0 hi0 t (by omega) (by omega) h4 h5 (by omega) ht⟩
noncomputable def ctxTrB (P : Program) (bf : Int → Int → Bool) (wt : Int → Int) (lk : List Int) : Ctx := ctx P glR [eTree bf wt lk 257] [] (noEq P) [] (fun _ h => by cases h)
attribute [local irreducible] rootB linksB
set_option maxRecDepth 100000 in
theorem rbuild_pure {bf : Int → Int → Bool} {wt : Int → Int} (hwt : ∀ a b, bf a b = decide (wt b < wt a)) (hrb : (eRBf bf).ok Tryz.prog glR) (n : Nat) (xs : List Int) (hn : n ≤ 256) (hr : rises xs) :
    Pure Tryz.prog glR 46 [.fl [.u64] n xs] (.tup [.v (.int .i64 (rootB bf xs)), .ow 0 2 n, .v (.int .i64 0)]) [(0, .fl [.i64, .i64] (linksB bf xs))] := by
  have good : (ctxTrB Tryz.prog bf wt (linksB bf xs)).good := ctx_good (by kernel_rfl) (AllOk.mem ⟨eTree_ok hwt hrb _ 257, trivial⟩) glR_two
  refine pure_wf fun hw => ?_
  obtain ⟨⟨w1, w2⟩, -⟩ := hw
  simp only [List.length_cons, List.length_nil, Nat.zero_add, Nat.mul_one] at w1
  have hT := build_tr hwt (xs := xs)
  have hll := linksB_len bf xs
  refine pure_of (C := ctxTrB Tryz.prog bf wt (linksB bf xs)) good Tryz.func46 (c := bodyOf Tryz.f46) (by rfl) (Nat.le_of_ble_eq_true (by rfl)) 4 0 [0, 2, 3, 4, 5, 6, 7, 10, 14, 26] ?_
  conv => whnf
  refine ifB_f (decide_eq_false (by omega)) ?_
  conv => whnf
  refine TW.loopD good 0 (base := 0) (lv := [0, 2, 3, 4, 5, 6, 7, 10, 14, 26]) [5] [] [] (fun j : Nat => [.v (.int .i64 (j + 1 : Nat))]) (fun _ => []) (fun j => j = 0 ∨ j + 1 ≤ n) (fun j => n - j) ?_
  conv => whnf
  refine ⟨⟨0, ⟨rfl, rfl, rfl⟩, .inl rfl⟩, fun j hj => ?_⟩
  conv => whnf
  have e0 : ∀ j : Nat, xs.getD (0 + (j : Int).toNat * (0 + 1)) 0 = xs.getD j 0 := fun j => by simp
  refine ifB_dec (fun h => ?_) (fun h => ?_)
  · have ew : IntKind.i64.wrap (((j + 1 : Nat) : Int) - 1) = (j : Int) := by rw [wrap64 (by omega) (by omega)]; omega
    have ew2 : IntKind.i64.wrap (((j + 1 : Nat) : Int) + 1) = ((j + 1 + 1 : Nat) : Int) := by rw [wrap64 (by omega) (by omega)]; omega
    have hlt := hr (j + 1) (by omega) (by omega)
    rw [Nat.add_sub_cancel] at hlt
    conv => whnf
    refine And.intro (by omega) ?_
    conv => whnf
    rw [ew]
    refine And.intro (by omega) ?_
    conv => whnf
    rw [e0, e0]
    refine ifB_f (decide_eq_false (by omega)) ?_
    conv => whnf
    rw [ew2]
    exact ⟨j + 1, [], ⟨rfl, rfl, rfl⟩, .inr (by omega), by dsimp only; omega⟩
  · conv => whnf
    rw [w1] at hT hll
    refine And.intro ⟨⟨by omega, by omega, by omega, hn, by rw [hll], by omega⟩, topB bf xs, by rw [Int.toNat_natCast]; exact hT⟩ ?_
    conv => whnf
    have e1 : topN bf xs 0 n = topB bf xs := topN_is hwt hT
    have e2 : segL (linksB bf xs) 0 n = linksB bf xs := by unfold segL; rw [Nat.zero_mul, List.drop_zero, List.take_of_length_le (by omega)]
    rw [rootB_top, show (0 : Int).toNat = 0 from rfl, Int.toNat_natCast, e1, e2, Nat.sub_zero]
    repeat' (first | exact trivial | exact rfl | (refine And.intro ?_ ?_) | ((conv => whnf); done) | ((conv => whnf); (first | rfl | (refine congrArg (fun b => T.v (Value.bool b)) ?_; first | rfl | exact (decide_eq_true (by omega)).symm | exact (decide_eq_false (by omega)).symm | exact decide_eq_decide.2 (by omega)) | (refine congrArg (fun b => T.v (Value.int _ b)) ?_; first | rfl | omega) | omega)) | (first | rfl | (refine congrArg (fun b => T.v (Value.bool b)) ?_; first | rfl | exact (decide_eq_true (by omega)).symm | exact (decide_eq_false (by omega)).symm | exact decide_eq_decide.2 (by omega)) | (refine congrArg (fun b => T.v (Value.int _ b)) ?_; first | rfl | omega) | omega))
def eRBuildB (bf : Int → Int → Bool) : Entry := ⟨46, 4, fun l => match l with
  | [.fl [.u64] n xs] => some (some (n ≤ 256 ∧ rises xs), .tup [.v (.int .i64 (rootB bf xs)), .ow 0 2 n, .v (.int .i64 0)], [(0, .fl [.i64, .i64] (linksB bf xs))])
  | _ => none⟩
theorem eRBuildB_ok {bf : Int → Int → Bool} {wt : Int → Int} (hwt : ∀ a b, bf a b = decide (wt b < wt a)) (hrb : (eRBf bf).ok Tryz.prog glR) : (eRBuildB bf).ok Tryz.prog glR := ⟨Am.enters_of Tryz.func46 (by kernel_rfl) (by kernel_rfl), by
  intro args c t bs h hc
  simp only [eRBuildB] at h
  split at h <;> cases h
  replace hc := hc _ rfl
  exact rbuild_pure hwt hrb _ _ hc.1 hc.2⟩
theorem eRBf_ok : (eRBf bBefore).ok Tryz.prog glR := eRBefore_ok
end Go.Proofs.YtlcpcgdecodjfaaGreatDoor
namespace Go.Proofs.YtlcpcgdecodjfaaGreatDoor
open Go.RowKit Go.Proofs.YtlcpcgdecodjfaaGreatDoor.Am
set_option linter.unusedVariables false
set_option linter.unusedSimpArgs false

theorem ipick_tmod {c n : Int} (h : ¬ c < 0) : c.tmod n = ipick c n := by
  unfold ipick; rw [if_neg h, Int.tmod_eq_emod_of_nonneg (by omega)]
theorem ipick_tmodn {c n : Int} (h : c < 0) : (-(c + 1)).tmod n = ipick c n := by
  unfold ipick; rw [if_pos h, Int.tmod_eq_emod_of_nonneg (by omega)]
/-- Of a raw number, a word. -/
def wordL (w : Int) : List Int := [0, 9223372036854775808, 9221120237041090561, 9221120237041090566, 18446744073709551615, 9218868437227405312, 18442240474082181120, 4607182418800017408, 13830554455654793216, 4609434218613702656, 1, 9223372036854775809, 9218868437227405311, w]
def wordS (n w : Int) : Int := (wordL w).getD (ipick n 14).toNat 0
theorem u64_wordS {n w : Int} (hw : U64 w) : U64 (wordS n w) := by
  unfold wordS
  obtain ⟨b1, b2⟩ := ipick_bounds n (n := 14) (by omega)
  have : AllU (wordL w) := by
    intro x hx
    simp only [wordL, List.mem_cons, List.not_mem_nil, or_false] at hx
    rcases hx with rfl | rfl | rfl | rfl | rfl | rfl | rfl | rfl | rfl | rfl | rfl | rfl | rfl | rfl <;> first | exact hw | exact ⟨by omega, by omega⟩
  exact allU_getD this _
noncomputable def ctxOrM (P : Program) : Ctx := ctx P glR [ePick09] [] (noEq P) [] (fun _ h => by cases h)
theorem ctxOrM_good : (ctxOrM Tryz.prog).good := ctx_good (by kernel_rfl) (AllOk.mem ⟨ePick09_ok, trivial⟩) glR_two
set_option maxRecDepth 100000 in
theorem word09_pure (n w : Int) (hn : I64 n) : Pure Tryz.prog glR 26 [.v (.int .i64 n), .v (.int .u64 w)] (.v (.int .u64 (wordS n w))) := by
  obtain ⟨b1, b2⟩ := ipick_bounds n (n := 14) (by omega)
  refine pure_of (C := ctxOrM Tryz.prog) ctxOrM_good Tryz.func26 (c := bodyOf Tryz.f26) (by rfl) (Nat.le_of_ble_eq_true (by rfl)) 4 0 [0, 1, 4, 5] ?_
  conv => whnf
  refine And.intro ⟨hn, by omega, by omega⟩ ?_
  conv => whnf
  repeat' (first | (refine ifB_t (by assumption) ?_; conv => whnf) | (refine ifB_f (by assumption) ?_; conv => whnf) | (refine ifB_dec (fun h => ?_) (fun h => ?_) <;> (first | (exfalso; omega) | (conv => whnf))) | (refine ifB_eq (fun h => ?_) (fun h => ?_) <;> (first | (exfalso; omega) | (conv => whnf))) | (refine ifB_ne (fun h => ?_) (fun h => ?_) <;> (first | (exfalso; omega) | (conv => whnf))) | (refine ifB_not ?_; conv => whnf) | (refine ifB_and ?_; conv => whnf) | (refine ifB_or ?_; conv => whnf) | (refine And.intro ?_ ?_; (first | omega | assumption | (exact allU_getD (by assumption) _) | (simp only [cutL]; omega) | (refine And.intro ?_ ?_ <;> first | assumption | exact allU_getD (by assumption) _) | (simp only [cutL, IntKind.wrap_u64, IntKind.wrap_i64] at *; omega) | decide); conv => whnf) | (refine ifB_mk (fun h => ?_) (fun h => ?_) <;> (conv => whnf)))
  have e : 0 + addN 0 (ipick n ((14 : Nat) : Int)).toNat * (0 + 1) = (ipick n 14).toNat := by simp [addN_eq]
  rw [e]
  repeat' (first | exact trivial | exact rfl | (refine And.intro ?_ ?_) | ((conv => whnf); done) | ((conv => whnf); (first | rfl | (refine congrArg (fun b => T.v (Value.bool b)) ?_; first | rfl | exact (decide_eq_true (by omega)).symm | exact (decide_eq_false (by omega)).symm | exact decide_eq_decide.2 (by omega)) | (refine congrArg (fun b => T.v (Value.int _ b)) ?_; first | rfl | omega) | omega)) | (first | rfl | (refine congrArg (fun b => T.v (Value.bool b)) ?_; first | rfl | exact (decide_eq_true (by omega)).symm | exact (decide_eq_false (by omega)).symm | exact decide_eq_decide.2 (by omega)) | (refine congrArg (fun b => T.v (Value.int _ b)) ?_; first | rfl | omega) | omega))
def eWord09 : Entry := ⟨26, 3, fun l => match l with | [.v (.int .i64 n), .v (.int .u64 w)] => some (some (I64 n), .v (.int .u64 (wordS n w)), []) | _ => none⟩
theorem eWord09_ok : eWord09.ok Tryz.prog glR := ⟨Am.enters_of Tryz.func26 (by kernel_rfl) (by kernel_rfl), by
  intro args c t bs h hc
  simp only [eWord09] at h
  split at h <;> cases h
  replace hc := hc _ rfl
  exact word09_pure _ _ hc⟩
end Go.Proofs.YtlcpcgdecodjfaaGreatDoor
namespace Go.Proofs.YtlcpcgdecodjfaaGreatDoor
open Go.RowKit Go.Proofs.YtlcpcgdecodjfaaGreatDoor.Am
set_option linter.unusedVariables false
set_option linter.unusedSimpArgs false

noncomputable def ctxOrM2 (P : Program) : Ctx := ctx P glR [ePick13, eWord09] [] (noEq P) [] (fun _ h => by cases h)
theorem ctxOrM2_good : (ctxOrM2 Tryz.prog).good := ctx_good (by kernel_rfl) (AllOk.mem ⟨ePick13_ok, eWord09_ok, trivial⟩) glR_two
/-- Of a raw number, a word of a float. -/
def keyW (n : Int) : Int := wordS (ipick n 13) 0
set_option maxRecDepth 100000 in
theorem key13_pure (n : Int) (hn : I64 n) : Pure Tryz.prog glR 7 [.v (.int .i64 n)] (.v (.int .u64 (keyW n))) := by
  obtain ⟨b1, b2⟩ := ipick_bounds n (n := 13) (by omega)
  refine pure_of (C := ctxOrM2 Tryz.prog) ctxOrM2_good Tryz.func7 (c := bodyOf Tryz.f7) (by rfl) (Nat.le_of_ble_eq_true (by rfl)) 4 0 [0, 2] ?_
  conv => whnf
  refine And.intro ⟨hn, by omega, by omega⟩ ?_
  conv => whnf
  refine And.intro ⟨by omega, by omega⟩ ?_
  conv => whnf
  repeat' (first | exact trivial | exact rfl | (refine And.intro ?_ ?_) | ((conv => whnf); done) | ((conv => whnf); (first | rfl | (refine congrArg (fun b => T.v (Value.bool b)) ?_; first | rfl | exact (decide_eq_true (by omega)).symm | exact (decide_eq_false (by omega)).symm | exact decide_eq_decide.2 (by omega)) | (refine congrArg (fun b => T.v (Value.int _ b)) ?_; first | rfl | omega) | omega)) | (first | rfl | (refine congrArg (fun b => T.v (Value.bool b)) ?_; first | rfl | exact (decide_eq_true (by omega)).symm | exact (decide_eq_false (by omega)).symm | exact decide_eq_decide.2 (by omega)) | (refine congrArg (fun b => T.v (Value.int _ b)) ?_; first | rfl | omega) | omega))
def eKey13 : Entry := ⟨7, 4, fun l => match l with | [.v (.int .i64 n)] => some (some (I64 n), .v (.int .u64 (keyW n)), []) | _ => none⟩
theorem eKey13_ok : eKey13.ok Tryz.prog glR := ⟨Am.enters_of Tryz.func7 (by kernel_rfl) (by kernel_rfl), by
  intro args c t bs h hc
  simp only [eKey13] at h
  split at h <;> cases h
  replace hc := hc _ rfl
  exact key13_pure _ hc⟩
set_option maxRecDepth 100000 in
theorem conf13_pure (n : Int) (hn : I64 n) : Pure Tryz.prog glR 6 [.v (.int .i64 n)] (.agg [.v (.int .i64 4), .v (.int .i64 1), .v (.int .i64 (1 + ipick n 12))]) := by
  obtain ⟨b1, b2⟩ := ipick_bounds n (n := 12) (by omega)
  have e1 : IntKind.i64.wrap (1 + ipick n 12) = 1 + ipick n 12 := wrap64 (by omega) (by omega)
  refine pure_of (C := ctxOrM2 Tryz.prog) ctxOrM2_good Tryz.func6 (c := bodyOf Tryz.f6) (by rfl) (Nat.le_of_ble_eq_true (by rfl)) 4 0 [0, 2] ?_
  conv => whnf
  refine And.intro ⟨hn, by omega, by omega⟩ ?_
  conv => whnf
  rw [e1]
  repeat' (first | exact trivial | exact rfl | (refine And.intro ?_ ?_) | ((conv => whnf); done) | ((conv => whnf); (first | rfl | (refine congrArg (fun b => T.v (Value.bool b)) ?_; first | rfl | exact (decide_eq_true (by omega)).symm | exact (decide_eq_false (by omega)).symm | exact decide_eq_decide.2 (by omega)) | (refine congrArg (fun b => T.v (Value.int _ b)) ?_; first | rfl | omega) | omega)) | (first | rfl | (refine congrArg (fun b => T.v (Value.bool b)) ?_; first | rfl | exact (decide_eq_true (by omega)).symm | exact (decide_eq_false (by omega)).symm | exact decide_eq_decide.2 (by omega)) | (refine congrArg (fun b => T.v (Value.int _ b)) ?_; first | rfl | omega) | omega))
def eConf13 : Entry := ⟨6, 4, fun l => match l with | [.v (.int .i64 n)] => some (some (I64 n), .agg [.v (.int .i64 4), .v (.int .i64 1), .v (.int .i64 (1 + ipick n 12))], []) | _ => none⟩
theorem eConf13_ok : eConf13.ok Tryz.prog glR := ⟨Am.enters_of Tryz.func6 (by kernel_rfl) (by kernel_rfl), by
  intro args c t bs h hc
  simp only [eConf13] at h
  split at h <;> cases h
  replace hc := hc _ rfl
  exact conf13_pure _ hc⟩
set_option maxRecDepth 100000 in
theorem zero13_pure (k p : Int) (m : Nat) (hm : m ≤ 256) : Pure Tryz.prog glR 25 [.agg [.v (.int .i64 k), .v (.int .i64 p), .v (.int .i64 m)]] (.ow 0 1 (2 + 4 * m)) [(0, .fl [.u64] (List.replicate (2 + 4 * m) 0))] := by
  have e1 : IntKind.i64.wrap (4 * (m : Int)) = ((4 * m : Nat) : Int) := by rw [wrap64 (by omega) (by omega)]; omega
  have e2 : IntKind.i64.wrap (2 + ((4 * m : Nat) : Int)) = ((2 + 4 * m : Nat) : Int) := by rw [wrap64 (by omega) (by omega)]; omega
  refine pure_of (C := ctxOrM2 Tryz.prog) ctxOrM2_good Tryz.func25 (c := bodyOf Tryz.f25) (by rfl) (Nat.le_of_ble_eq_true (by rfl)) 4 0 [0, 1, 2] ?_
  conv => whnf
  rw [e1, e2]
  refine And.intro (by omega) ?_
  conv => whnf
  rw [Int.toNat_natCast, mulN_eq, show (2 + 4 * m) * (0 + 1) = 2 + 4 * m by omega]
  repeat' (first | exact trivial | exact rfl | (refine And.intro ?_ ?_) | ((conv => whnf); done) | ((conv => whnf); (first | rfl | (refine congrArg (fun b => T.v (Value.bool b)) ?_; first | rfl | exact (decide_eq_true (by omega)).symm | exact (decide_eq_false (by omega)).symm | exact decide_eq_decide.2 (by omega)) | (refine congrArg (fun b => T.v (Value.int _ b)) ?_; first | rfl | omega) | omega)) | (first | rfl | (refine congrArg (fun b => T.v (Value.bool b)) ?_; first | rfl | exact (decide_eq_true (by omega)).symm | exact (decide_eq_false (by omega)).symm | exact decide_eq_decide.2 (by omega)) | (refine congrArg (fun b => T.v (Value.int _ b)) ?_; first | rfl | omega) | omega))
def eZero13 : Entry := ⟨25, 3, fun l => match l with
  | [.agg [.v (.int .i64 k), .v (.int .i64 p), .v (.int .i64 m)]] => some (some (0 ≤ m ∧ m ≤ 256), .ow 0 1 (2 + 4 * m.toNat), [(0, .fl [.u64] (List.replicate (2 + 4 * m.toNat) 0))])
  | _ => none⟩
theorem eZero13_ok : eZero13.ok Tryz.prog glR := ⟨Am.enters_of Tryz.func25 (by kernel_rfl) (by kernel_rfl), by
  intro args c t bs h hc
  simp only [eZero13] at h
  split at h <;> cases h
  obtain ⟨h1, h2⟩ := hc _ rfl
  obtain ⟨m0, rfl⟩ := Int.eq_ofNat_of_zero_le h1
  rw [Int.toNat_natCast]
  exact zero13_pure _ _ m0 (by omega)⟩
end Go.Proofs.YtlcpcgdecodjfaaGreatDoor
namespace Go.Proofs.YtlcpcgdecodjfaaGreatDoor
open Go.RowKit Go.Proofs.YtlcpcgdecodjfaaGreatDoor.Am
set_option linter.unusedVariables false
set_option linter.unusedSimpArgs false

/-- Is there an entry of this rank and value? -/
def hasE (n : Nat) (xs : List Int) (r v : Int) : Prop := ∃ i, i < n ∧ xs.getD (i * 2) 0 = r ∧ xs.getD (i * 2 + 1) 0 = v
def prs (n : Nat) (xs : List Int) : List (Int × Int) := (List.range n).map fun i => (xs.getD (i * 2) 0, xs.getD (i * 2 + 1) 0)
theorem prs_mem {n : Nat} {xs : List Int} {r v : Int} : (r, v) ∈ prs n xs ↔ hasE n xs r v := by
  simp only [prs, List.mem_map, List.mem_range, Prod.mk.injEq, hasE]
theorem sorted_ext : ∀ {A B : List (Int × Int)}, A.Pairwise (fun a b => a.1 < b.1) → B.Pairwise (fun a b => a.1 < b.1) → (∀ x, x ∈ A ↔ x ∈ B) → A = B
  | [], [], _, _, _ => rfl
  | [], b :: B, _, _, h => by have := (h b).2 (List.mem_cons_self ..); cases this
  | a :: A, [], _, _, h => by have := (h a).1 (List.mem_cons_self ..); cases this
  | a :: A, b :: B, ha, hb, h => by
    rw [List.pairwise_cons] at ha hb
    have e : a = b := by
      rcases List.mem_cons.1 ((h a).1 (List.mem_cons_self ..)) with e | e
      · exact e
      · rcases List.mem_cons.1 ((h b).2 (List.mem_cons_self ..)) with e2 | e2
        · exact e2.symm
        · have h1 := hb.1 a e
          have h2 := ha.1 b e2
          omega
    subst e
    rw [sorted_ext ha.2 hb.2 fun x => ⟨fun hx => ?_, fun hx => ?_⟩]
    · rcases List.mem_cons.1 ((h x).1 (List.mem_cons_of_mem _ hx)) with e | e
      · subst e; have := ha.1 x hx; omega
      · exact e
    · rcases List.mem_cons.1 ((h x).2 (List.mem_cons_of_mem _ hx)) with e | e
      · subst e; have := hb.1 x hx; omega
      · exact e
theorem prs_sorted {wb : Int → Bool} {m n : Nat} {xs : List Int} (h : OrdV wb m n xs) : (prs n xs).Pairwise (fun a b => a.1 < b.1) := by
  unfold prs
  rw [List.pairwise_map]
  refine List.Pairwise.imp_of_mem (R := (· < ·)) (fun {a b} ha hb hab => ?_) List.pairwise_lt_range
  exact rkr h.rise hab (List.mem_range.1 hb)
theorem prs_inj {n : Nat} {xs ys : List Int} (hx : xs.length = n * 2) (hy : ys.length = n * 2) (h : prs n xs = prs n ys) : xs = ys := by
  have hp : ∀ i, i < n → xs.getD (i * 2) 0 = ys.getD (i * 2) 0 ∧ xs.getD (i * 2 + 1) 0 = ys.getD (i * 2 + 1) 0 := by
    intro i hi
    have := congrArg (fun l : List (Int × Int) => l[i]?) h
    simp [prs, hi] at this
    rw [List.getD_eq_getElem?_getD, List.getD_eq_getElem?_getD, List.getD_eq_getElem?_getD, List.getD_eq_getElem?_getD]
    exact this
  refine List.ext_getElem (by omega) fun q h1 h2 => ?_
  have e : xs.getD q 0 = ys.getD q 0 := by
    by_cases e : q % 2 = 0
    · have := (hp (q / 2) (by omega)).1
      rwa [show q / 2 * 2 = q by omega] at this
    · have := (hp (q / 2) (by omega)).2
      rwa [show q / 2 * 2 + 1 = q by omega] at this
  simpa [List.getD, List.getElem?_eq_getElem h1, List.getElem?_eq_getElem h2] using e
theorem ordV_ext {wb : Int → Bool} {m n n2 : Nat} {xs ys : List Int} (h : OrdV wb m n xs) (h2 : OrdV wb m n2 ys) (he : ∀ r v, hasE n xs r v ↔ hasE n2 ys r v) : n = n2 ∧ xs = ys := by
  have := sorted_ext (prs_sorted h) (prs_sorted h2) fun ⟨r, v⟩ => by rw [prs_mem, prs_mem]; exact he r v
  have hl := congrArg List.length this
  simp only [prs, List.length_map, List.length_range] at hl
  subst hl
  exact ⟨rfl, prs_inj h.len h2.len this⟩
theorem isO_false {xs : List Int} {n : Nat} {r : Int} (h : isO xs n r = false) (hr : rises (rk xs n)) {i : Nat} (hi : i < n) : xs.getD (i * 2) 0 ≠ r := by
  intro e
  unfold isO at h
  have h1 := of_decide_eq_false h
  refine h1 ?_
  have : atO xs n r = i := atO_is (by omega) (fun j hj => by have := rkr hr hj hi; omega) (fun _ => by omega)
  rw [this]; exact ⟨hi, e⟩
theorem isO_of {xs : List Int} {n : Nat} {r : Int} (hr : rises (rk xs n)) {i : Nat} (hi : i < n) (e : xs.getD (i * 2) 0 = r) : atO xs n r = i ∧ isO xs n r = true := by
  have : atO xs n r = i := atO_is (by omega) (fun j hj => by have := rkr hr hj hi; omega) (fun _ => by omega)
  refine ⟨this, ?_⟩
  unfold isO
  rw [this]; exact decide_eq_true ⟨hi, e⟩
theorem setL_val {xs : List Int} {a n : Nat} {r v : Int} (hl : xs.length = n * 2) (ha : a < n) (i : Nat) : (setL xs a r v).getD (i * 2) 0 = (if i = a then r else xs.getD (i * 2) 0) ∧ (setL xs a r v).getD (i * 2 + 1) 0 = (if i = a then v else xs.getD (i * 2 + 1) 0) := by
  unfold setL
  by_cases e : i = a
  · subst e
    rw [if_pos rfl, if_pos rfl, getD_set_ne (by omega), getD_set_eq (by omega), getD_set_eq (by rw [List.length_set]; omega)]
    exact ⟨rfl, rfl⟩
  · rw [if_neg e, if_neg e, getD_set_ne (by omega), getD_set_ne (by omega), getD_set_ne (by omega), getD_set_ne (by omega)]
    exact ⟨rfl, rfl⟩
theorem insL_val {xs : List Int} {n a : Nat} {r v : Int} (hl : xs.length = n * 2) (ha : a ≤ n) (i : Nat) : (insL xs a r v).getD (i * 2 + 1) 0 = if i < a then xs.getD (i * 2 + 1) 0 else if i = a then v else xs.getD ((i - 1) * 2 + 1) 0 := by
  rw [List.getD_eq_getElem?_getD, insL_at (by omega)]
  by_cases h1 : i < a
  · rw [if_pos (by omega), if_pos h1, ← List.getD_eq_getElem?_getD]
  · rw [if_neg (by omega), if_neg h1]
    by_cases h2 : i = a
    · subst h2; rw [if_pos (by omega), if_pos rfl, show i * 2 + 1 - i * 2 = 1 by omega]; rfl
    · rw [if_neg (by omega), if_neg h2, ← List.getD_eq_getElem?_getD, show i * 2 + 1 - 2 = (i - 1) * 2 + 1 by omega]
theorem hasE_set {wb : Int → Bool} {m n : Nat} {xs : List Int} (h : OrdV wb m n xs) {r v : Int} (his : isO xs n r = true) (r2 v2 : Int) : hasE n (setL xs (atO xs n r) r v) r2 v2 ↔ (r2 = r ∧ v2 = v) ∨ (r2 ≠ r ∧ hasE n xs r2 v2) := by
  obtain ⟨h1, h2⟩ := isO_true his
  constructor
  · rintro ⟨i, hi, e1, e2⟩
    obtain ⟨s1, s2⟩ := setL_val (r := r) (v := v) h.len h1 i
    rw [s1] at e1; rw [s2] at e2
    by_cases e : i = atO xs n r
    · rw [if_pos e] at e1 e2; exact .inl ⟨e1.symm, e2.symm⟩
    · rw [if_neg e] at e1 e2
      refine .inr ⟨fun e3 => ?_, i, hi, e1, e2⟩
      subst e3
      exact e (isO_of h.rise hi e1).1.symm
  · rintro (⟨rfl, rfl⟩ | ⟨hne, i, hi, e1, e2⟩)
    · obtain ⟨s1, s2⟩ := setL_val (r := r2) (v := v2) h.len h1 (atO xs n r2)
      rw [if_pos rfl] at s1 s2
      exact ⟨_, h1, s1, s2⟩
    · obtain ⟨s1, s2⟩ := setL_val (r := r) (v := v) h.len h1 i
      have e : ¬ i = atO xs n r := fun e => hne (by rw [← e1, e, h2])
      rw [if_neg e] at s1 s2
      exact ⟨i, hi, by rw [s1]; exact e1, by rw [s2]; exact e2⟩
theorem hasE_ins {wb : Int → Bool} {m n : Nat} {xs : List Int} (h : OrdV wb m n xs) {r v : Int} (hno : isO xs n r = false) (r2 v2 : Int) : hasE (n + 1) (insL xs (atO xs n r) r v) r2 v2 ↔ (r2 = r ∧ v2 = v) ∨ (r2 ≠ r ∧ hasE n xs r2 v2) := by
  have ha := atO_le xs n r
  constructor
  · rintro ⟨i, hi, e1, e2⟩
    rw [insL_rank h.len ha] at e1; rw [insL_val h.len ha] at e2
    by_cases c1 : i < atO xs n r
    · rw [if_pos c1] at e1 e2
      exact .inr ⟨fun e => isO_false hno h.rise (i := i) (by omega) (by rw [e1, e]), i, by omega, e1, e2⟩
    · rw [if_neg c1] at e1 e2
      by_cases c2 : i = atO xs n r
      · rw [if_pos c2] at e1 e2; exact .inl ⟨e1.symm, e2.symm⟩
      · rw [if_neg c2] at e1 e2
        exact .inr ⟨fun e => isO_false hno h.rise (i := i - 1) (by omega) (by rw [e1, e]), i - 1, by omega, e1, e2⟩
  · rintro (⟨rfl, rfl⟩ | ⟨hne, i, hi, e1, e2⟩)
    · refine ⟨atO xs n r2, by omega, ?_, ?_⟩
      · rw [insL_rank h.len ha, if_neg (by omega), if_pos rfl]
      · rw [insL_val h.len ha, if_neg (by omega), if_pos rfl]
    · by_cases c1 : i < atO xs n r
      · refine ⟨i, by omega, ?_, ?_⟩
        · rw [insL_rank h.len ha, if_pos c1]; exact e1
        · rw [insL_val h.len ha, if_pos c1]; exact e2
      · refine ⟨i + 1, by omega, ?_, ?_⟩
        · rw [insL_rank h.len ha, if_neg (by omega), if_neg (by omega), Nat.add_sub_cancel]; exact e1
        · rw [insL_val h.len ha, if_neg (by omega), if_neg (by omega), Nat.add_sub_cancel]; exact e2
/-- A put that is not refused. -/
theorem put_has {wb : Int → Bool} {wf rf : Int → Int} {m n : Nat} {xs : List Int} {key v : Int} (h : OrdV wb m n xs) (hm : n < m) :
    (ordDo wf rf m n xs 11 key v).2.2.1 = 0 ∧ (ordDo wf rf m n xs 11 key v).1 ≤ n + 1 ∧ ∀ r2 v2, hasE (ordDo wf rf m n xs 11 key v).1 (ordDo wf rf m n xs 11 key v).2.1 r2 v2 ↔ (r2 = rf key ∧ v2 = v) ∨ (r2 ≠ rf key ∧ hasE n xs r2 v2) := by
  cases his : isO xs n (rf key)
  · rw [put_new wf his (by omega)]
    exact ⟨rfl, Nat.le_refl _, hasE_ins h his⟩
  · rw [put_is wf his]
    exact ⟨rfl, Nat.le_succ _, hasE_set h his⟩
/-- Pairs that were put are there, if equal keys have equal values. -/
theorem ldS_has {wb : Int → Bool} {rf : Int → Int} (ru : ∀ a, U64 a → U64 (rf a)) (wr : ∀ a, U64 a → wb (rf a) = true) {m q : Nat} {l : List Int} (hl : AllU l) (hq : q ≤ m)
    (hf : ∀ i j, i < q → j < q → rf (l.getD (i * 2) 0) = rf (l.getD (j * 2) 0) → l.getD (i * 2 + 1) 0 = l.getD (j * 2 + 1) 0) :
    ∀ i, i ≤ q → (ldS rf m l i).2.2.1 = 0 ∧ (ldS rf m l i).1 ≤ i ∧ ∀ r v, hasE (ldS rf m l i).1 (ldS rf m l i).2.1 r v ↔ ∃ j, j < i ∧ r = rf (l.getD (j * 2) 0) ∧ v = l.getD (j * 2 + 1) 0
  | 0, _ => ⟨rfl, Nat.le_refl _, fun r v => ⟨fun ⟨j, hj, _⟩ => absurd hj (Nat.not_lt_zero _), fun ⟨j, hj, _⟩ => absurd hj (Nat.not_lt_zero _)⟩⟩
  | i + 1, hi => by
    obtain ⟨h1, h2, h3⟩ := ldS_has ru wr hl hq hf i (by omega)
    have hv := ldS_v (wb := wb) ru wr (m := m) hl i
    obtain ⟨p1, p2, p3⟩ := put_has (wf := fun x => x) (rf := rf) (key := l.getD (i * 2) 0) (v := l.getD (i * 2 + 1) 0) hv (by omega)
    have e : ldS rf m l (i + 1) = ordDo (fun x => x) rf m (ldS rf m l i).1 (ldS rf m l i).2.1 11 (l.getD (i * 2) 0) (l.getD (i * 2 + 1) 0) := by
      show (if _ then _ else _) = _
      rw [if_pos h1]
    rw [e]
    refine ⟨p1, by omega, fun r v => ?_⟩
    rw [p3, h3]
    constructor
    · rintro (⟨rfl, rfl⟩ | ⟨-, j, hj, e1, e2⟩)
      · exact ⟨i, by omega, rfl, rfl⟩
      · exact ⟨j, by omega, e1, e2⟩
    · rintro ⟨j, hj, e1, e2⟩
      by_cases e : r = rf (l.getD (i * 2) 0)
      · refine .inl ⟨e, ?_⟩
        rw [e2]; exact hf j i (by omega) (by omega) (by rw [← e1, e])
      · refine .inr ⟨e, j, ?_, e1, e2⟩
        by_cases ej : j = i
        · subst ej; exact absurd e1 e
        · omega
/-- A key that was not there put and taken out again. -/
theorem put_del {wb : Int → Bool} {wf rf : Int → Int} {m n : Nat} {xs : List Int} {key v : Int} (h : OrdV wb m n xs) (hno : isO xs n (rf key) = false) :
    ordDo wf rf m (n + 1) (insL xs (atO xs n (rf key)) (rf key) v) 7 key 0 = (n, xs, 0, v) := by
  have ha := atO_le xs n (rf key)
  have hri := insL_rises (v := v) h.len h.rise hno
  have e1 : (insL xs (atO xs n (rf key)) (rf key) v).getD (atO xs n (rf key) * 2) 0 = rf key := by rw [insL_rank h.len ha, if_neg (by omega), if_pos rfl]
  obtain ⟨i1, i2⟩ := isO_of hri (i := atO xs n (rf key)) (by omega) e1
  have e2 : (insL xs (atO xs n (rf key)) (rf key) v).getD (atO xs n (rf key) * 2 + 1) 0 = v := by rw [insL_val h.len ha, if_neg (by omega), if_pos rfl]
  have e3 : delL (insL xs (atO xs n (rf key)) (rf key) v) (atO xs n (rf key)) (atO xs n (rf key) + 1) = xs := by
    have hl := h.len
    unfold delL insL
    rw [List.take_append_of_le_length (by rw [List.length_take]; omega), List.take_take, Nat.min_self]
    rw [List.drop_append, List.drop_of_length_le (by rw [List.length_take]; omega), List.nil_append]
    rw [List.length_take, Nat.min_eq_left (by omega), show (atO xs n (rf key) + 1) * 2 - atO xs n (rf key) * 2 = 2 by omega]
    exact List.take_append_drop _ _
  simp only [ordDo, show ¬ (7 : Int) = 10 by decide, show ¬ (7 : Int) = 11 by decide, if_false, if_true, i2, i1, e2, e3, Nat.add_sub_cancel]
/-- Words at first. -/
theorem wordsO_nil (bf : Int → Int → Bool) (m : Nat) : wordsO bf m 0 [] = List.replicate (2 + 4 * m) 0 := by
  have : rootB bf (rk [] 0) = 0 := rfl
  simp only [wordsO, wst, this]
  refine List.ext_getElem (by simp) fun i h1 h2 => ?_
  rw [List.getElem_set, List.getElem_set]
  simp only [List.getElem_replicate]
  split
  · rfl
  · split <;> rfl
theorem appR_words {bf : Int → Int → Bool} {wf : Int → Int} {wb : Int → Bool} {rf : Int → Int} {p : Int} {m n : Nat} {xs : List Int} (hf : fitsB 4 p m = true) (hv : OrdV wb m n xs) (code key v : Int) :
    appR bf wf wb rf 4 p m (wordsO bf m n xs) code key v = (wordsO bf m (ordDo wf rf m n xs code key v).1 (ordDo wf rf m n xs code key v).2.1, (ordDo wf rf m n xs code key v).2.2.1, (ordDo wf rf m n xs code key v).2.2.2, 0) := by
  obtain ⟨h1, h2, h3, h4⟩ := open_words (bf := bf) hf hv
  rw [show appR bf wf wb rf 4 p m (wordsO bf m n xs) code key v = _ from if_pos h1, h3, h4, Int.toNat_natCast]
theorem atRR_words {bf : Int → Int → Bool} {wf : Int → Int} {wb : Int → Bool} {p : Int} {m n : Nat} {xs : List Int} (hf : fitsB 4 p m = true) (hv : OrdV wb m n xs) (i : Int) : atRR bf wf wb 4 p m (wordsO bf m n xs) i = atR wf n xs i := by
  obtain ⟨h1, h2, h3, h4⟩ := open_words (bf := bf) hf hv
  rw [show atRR bf wf wb 4 p m (wordsO bf m n xs) i = _ from if_pos h1, h3, h4]
theorem wayR_words {bf : Int → Int → Bool} {wb : Int → Bool} {rf : Int → Int} {p : Int} {m n : Nat} {xs : List Int} (hf : fitsB 4 p m = true) (hv : OrdV wb m n xs) (key : Int) : wayR bf wb rf 4 p m (wordsO bf m n xs) key = (wayB bf (rk xs n) (rf key), 0) := by
  obtain ⟨h1, h2, h3, h4⟩ := open_words (bf := bf) hf hv
  rw [show wayR bf wb rf 4 p m (wordsO bf m n xs) key = _ from if_pos h1, h3, h4]
end Go.Proofs.YtlcpcgdecodjfaaGreatDoor
namespace Go.Proofs.YtlcpcgdecodjfaaGreatDoor
open Go.RowKit Go.Proofs.YtlcpcgdecodjfaaGreatDoor.Am
set_option linter.unusedVariables false
set_option linter.unusedSimpArgs false

/-- nil, where a list of numbers is looked for. -/
def fx (k : IntKind) (t : T) : T := match t with
  | .v (.slice none 0 0) => .fl [k] 0 []
  | t => t
/-- A state whose lists may be nil. -/
def fixS (t : T) : T := match t with
  | .agg [a, b, c, d, e] => .agg [a, fx .u64 b, fx .u64 c, fx .i64 d, e]
  | t => t
theorem fx_ok {w : World} {I : Nat → Prop} {m : Nat → Option Nat} {L : Nat → Option (Option Nat)} {k : IntKind} {t : T} {v : Value} (h : TV w I m L t v) : TV w I m L (fx k t) v := by
  unfold fx
  split
  · obtain ⟨rfl, -⟩ := h.v_inv; exact .fl0
  · exact h
theorem fixS_ok {w : World} {I : Nat → Prop} {m : Nat → Option Nat} {L : Nat → Option (Option Nat)} {t : T} {v : Value} (h : TV w I m L t v) : TV w I m L (fixS t) v := by
  unfold fixS
  split
  · obtain ⟨⟨vs⟩, rfl, hv⟩ := h.agg_inv
    change TVs _ _ _ _ _ vs at hv
    cases hv with | cons h1 hv => cases hv with | cons h2 hv => cases hv with | cons h3 hv => cases hv with | cons h4 hv =>
      exact .agg (.cons h1 (.cons (fx_ok h2) (.cons (fx_ok h3) (.cons (fx_ok h4) hv))))
  · exact h
theorem fixSs_ok {w : World} {I : Nat → Prop} {m : Nat → Option Nat} {L : Nat → Option (Option Nat)} {ts : List T} {vs : List Value} (h : TVs w I m L ts vs) : TVs w I m L (ts.map fixS) vs := by
  induction ts generalizing vs with
  | nil => exact h
  | cons t ts ih => cases h with | cons a b => exact .cons (fixS_ok a) (ih b)
theorem pure_fixS {P : Program} {gl : Nat → T} {f : FuncId} {args : List T} {t : T} {bs : Hp} (h : Pure P gl f (args.map fixS) t bs) : Pure P gl f args t bs := fun w vs hg ha => h w vs hg (fixSs_ok ha)
/-- A state that came in; one of its own. -/
abbrev ST (r : Int) (n1 : Nat) (ks : List Int) (n2 : Nat) (vs : List Int) (n3 : Nat) (ws : List Int) (c : Bool) : T := .agg [.v (.int .u64 r), .fl [.u64] n1 ks, .fl [.u64] n2 vs, .fl [.i64] n3 ws, .v (.bool c)]
abbrev SO (r : Int) (n1 n2 n3 : Nat) (c : Bool) : T := .agg [.v (.int .u64 r), .ow 0 1 n1, .ow 1 1 n2, .ow 2 1 n3, .v (.bool c)]
abbrev SH (ks vs ws : List Int) : Hp := [(0, .fl [.u64] ks), (1, .fl [.u64] vs), (2, .fl [.i64] ws)]
set_option maxRecDepth 100000 in
theorem own_pure (r : Int) (n1 : Nat) (ks : List Int) (n2 : Nat) (vs : List Int) (n3 : Nat) (ws : List Int) (c : Bool) (h1 : n1 ≤ 1000) (h2 : n2 ≤ 1000) (h3 : n3 ≤ 1000) : Pure Tryz.prog glR 65 [ST r n1 ks n2 vs n3 ws c] (SO r n1 n2 n3 c) (SH ks vs ws) := by
  refine pure_of (C := ctx0 Tryz.prog) ctx0_good Tryz.func65 (c := bodyOf Tryz.f65) (by rfl) (Nat.le_of_ble_eq_true (by rfl)) 4 0 [0, 1, 2, 3] ?_
  conv => whnf
  refine And.intro (show n1 * 8 ≤ 140737488355328 by omega) ?_
  conv => whnf
  repeat' (first | (refine ifB_t (by assumption) ?_; conv => whnf) | (refine ifB_f (by assumption) ?_; conv => whnf) | (refine ifB_dec (fun h => ?_) (fun h => ?_) <;> (first | (exfalso; omega) | (conv => whnf))) | (refine ifB_eq (fun h => ?_) (fun h => ?_) <;> (first | (exfalso; omega) | (conv => whnf))) | (refine ifB_ne (fun h => ?_) (fun h => ?_) <;> (first | (exfalso; omega) | (conv => whnf))) | (refine ifB_not ?_; conv => whnf) | (refine ifB_and ?_; conv => whnf) | (refine ifB_or ?_; conv => whnf) | (refine And.intro ?_ ?_; (first | omega | assumption | (exact allU_getD (by assumption) _) | (simp only [cutL]; omega) | (refine And.intro ?_ ?_ <;> first | assumption | exact allU_getD (by assumption) _) | (simp only [cutL, IntKind.wrap_u64, IntKind.wrap_i64] at *; omega) | decide); conv => whnf) | (refine ifB_mk (fun h => ?_) (fun h => ?_) <;> (conv => whnf)))
  refine And.intro (show n2 * 8 ≤ 140737488355328 by omega) ?_
  conv => whnf
  repeat' (first | (refine ifB_t (by assumption) ?_; conv => whnf) | (refine ifB_f (by assumption) ?_; conv => whnf) | (refine ifB_dec (fun h => ?_) (fun h => ?_) <;> (first | (exfalso; omega) | (conv => whnf))) | (refine ifB_eq (fun h => ?_) (fun h => ?_) <;> (first | (exfalso; omega) | (conv => whnf))) | (refine ifB_ne (fun h => ?_) (fun h => ?_) <;> (first | (exfalso; omega) | (conv => whnf))) | (refine ifB_not ?_; conv => whnf) | (refine ifB_and ?_; conv => whnf) | (refine ifB_or ?_; conv => whnf) | (refine And.intro ?_ ?_; (first | omega | assumption | (exact allU_getD (by assumption) _) | (simp only [cutL]; omega) | (refine And.intro ?_ ?_ <;> first | assumption | exact allU_getD (by assumption) _) | (simp only [cutL, IntKind.wrap_u64, IntKind.wrap_i64] at *; omega) | decide); conv => whnf) | (refine ifB_mk (fun h => ?_) (fun h => ?_) <;> (conv => whnf)))
  refine And.intro (show n3 * 8 ≤ 140737488355328 by omega) ?_
  conv => whnf
  repeat' (first | (refine ifB_t (by assumption) ?_; conv => whnf) | (refine ifB_f (by assumption) ?_; conv => whnf) | (refine ifB_dec (fun h => ?_) (fun h => ?_) <;> (first | (exfalso; omega) | (conv => whnf))) | (refine ifB_eq (fun h => ?_) (fun h => ?_) <;> (first | (exfalso; omega) | (conv => whnf))) | (refine ifB_ne (fun h => ?_) (fun h => ?_) <;> (first | (exfalso; omega) | (conv => whnf))) | (refine ifB_not ?_; conv => whnf) | (refine ifB_and ?_; conv => whnf) | (refine ifB_or ?_; conv => whnf) | (refine And.intro ?_ ?_; (first | omega | assumption | (exact allU_getD (by assumption) _) | (simp only [cutL]; omega) | (refine And.intro ?_ ?_ <;> first | assumption | exact allU_getD (by assumption) _) | (simp only [cutL, IntKind.wrap_u64, IntKind.wrap_i64] at *; omega) | decide); conv => whnf) | (refine ifB_mk (fun h => ?_) (fun h => ?_) <;> (conv => whnf)))
  repeat' (first | exact trivial | exact rfl | (refine And.intro ?_ ?_) | ((conv => whnf); done) | ((conv => whnf); (first | rfl | (refine congrArg (fun b => T.v (Value.bool b)) ?_; first | rfl | exact (decide_eq_true (by omega)).symm | exact (decide_eq_false (by omega)).symm | exact decide_eq_decide.2 (by omega)) | (refine congrArg (fun b => T.v (Value.int _ b)) ?_; first | rfl | omega) | omega)) | (first | rfl | (refine congrArg (fun b => T.v (Value.bool b)) ?_; first | rfl | exact (decide_eq_true (by omega)).symm | exact (decide_eq_false (by omega)).symm | exact decide_eq_decide.2 (by omega)) | (refine congrArg (fun b => T.v (Value.int _ b)) ?_; first | rfl | omega) | omega))

def eOwn : Entry := ⟨65, 3, fun l => match l.map fixS with | [.agg [.v (.int .u64 r), .fl [.u64] n1 ks, .fl [.u64] n2 vs, .fl [.i64] n3 ws, .v (.bool c)]] => some (some (n1 ≤ 1000 ∧ n2 ≤ 1000 ∧ n3 ≤ 1000), SO r n1 n2 n3 c, SH ks vs ws) | _ => none⟩
theorem eOwn_ok : eOwn.ok Tryz.prog glR := ⟨Am.enters_of Tryz.func65 (by kernel_rfl) (by kernel_rfl), by
  intro args c t bs h hc
  simp only [eOwn] at h
  split at h <;> cases h
  rename_i heq
  replace hc := hc _ rfl
  refine pure_fixS ?_
  rw [heq]
  exact own_pure _ _ _ _ _ _ _ _ hc.1 hc.2.1 hc.2.2⟩
def keyedB (k : Int) : Bool := decide (k = 2 ∨ k = 3 ∨ k = 4)
set_option maxRecDepth 100000 in
theorem keyed_pure (k p n : Int) : Pure Tryz.prog glR 59 [.agg [.v (.int .i64 k), .v (.int .i64 p), .v (.int .i64 n)]] (.v (.bool (keyedB k))) := by
  refine pure_of (C := ctx0 Tryz.prog) ctx0_good Tryz.func59 (c := bodyOf Tryz.f59) (by rfl) (Nat.le_of_ble_eq_true (by rfl)) 4 0 [0, 1, 2] ?_
  conv => whnf
  repeat' (first | (refine ifB_t (by assumption) ?_; conv => whnf) | (refine ifB_f (by assumption) ?_; conv => whnf) | (refine ifB_dec (fun h => ?_) (fun h => ?_) <;> (first | (exfalso; omega) | (conv => whnf))) | (refine ifB_eq (fun h => ?_) (fun h => ?_) <;> (first | (exfalso; omega) | (conv => whnf))) | (refine ifB_ne (fun h => ?_) (fun h => ?_) <;> (first | (exfalso; omega) | (conv => whnf))) | (refine ifB_not ?_; conv => whnf) | (refine ifB_and ?_; conv => whnf) | (refine ifB_or ?_; conv => whnf) | (refine And.intro ?_ ?_; (first | omega | assumption | (exact allU_getD (by assumption) _) | (simp only [cutL]; omega) | (refine And.intro ?_ ?_ <;> first | assumption | exact allU_getD (by assumption) _) | (simp only [cutL, IntKind.wrap_u64, IntKind.wrap_i64] at *; omega) | decide); conv => whnf) | (refine ifB_mk (fun h => ?_) (fun h => ?_) <;> (conv => whnf)))
  all_goals (refine congrArg (fun b => T.v (Value.bool b)) ?_; first | (simp [keyedB, *]; done) | (simp [keyedB, *]; exact beq_eq_decide _ _) | (simp [keyedB, *]; by_cases h4 : k = 4 <;> simp [h4]))

def eKeyed : Entry := ⟨59, 3, fun l => match l with | [.agg [.v (.int .i64 k), .v (.int .i64 p), .v (.int .i64 n)]] => some (none, .v (.bool (keyedB k)), []) | _ => none⟩
theorem eKeyed_ok : eKeyed.ok Tryz.prog glR := ⟨Am.enters_of Tryz.func59 (by kernel_rfl) (by kernel_rfl), by
  intro args c t bs h hc
  simp only [eKeyed] at h
  split at h <;> cases h
  exact keyed_pure _ _ _⟩
set_option maxRecDepth 100000 in
theorem tells_pure (v : Int) : Pure Tryz.prog glR 88 [.v (.int .u64 v)] (.agg [.v (.int .i64 0), .v (.int .u64 v)]) := by
  refine pure_of (C := ctx0 Tryz.prog) ctx0_good Tryz.func88 (c := bodyOf Tryz.f88) (by rfl) (Nat.le_of_ble_eq_true (by rfl)) 4 0 [0, 2] ?_
  conv => whnf
  repeat' (first | (refine ifB_t (by assumption) ?_; conv => whnf) | (refine ifB_f (by assumption) ?_; conv => whnf) | (refine ifB_dec (fun h => ?_) (fun h => ?_) <;> (first | (exfalso; omega) | (conv => whnf))) | (refine ifB_eq (fun h => ?_) (fun h => ?_) <;> (first | (exfalso; omega) | (conv => whnf))) | (refine ifB_ne (fun h => ?_) (fun h => ?_) <;> (first | (exfalso; omega) | (conv => whnf))) | (refine ifB_not ?_; conv => whnf) | (refine ifB_and ?_; conv => whnf) | (refine ifB_or ?_; conv => whnf) | (refine And.intro ?_ ?_; (first | omega | assumption | (exact allU_getD (by assumption) _) | (simp only [cutL]; omega) | (refine And.intro ?_ ?_ <;> first | assumption | exact allU_getD (by assumption) _) | (simp only [cutL, IntKind.wrap_u64, IntKind.wrap_i64] at *; omega) | decide); conv => whnf) | (refine ifB_mk (fun h => ?_) (fun h => ?_) <;> (conv => whnf)))
  repeat' (first | exact trivial | exact rfl | (refine And.intro ?_ ?_) | ((conv => whnf); done) | ((conv => whnf); (first | rfl | (refine congrArg (fun b => T.v (Value.bool b)) ?_; first | rfl | exact (decide_eq_true (by omega)).symm | exact (decide_eq_false (by omega)).symm | exact decide_eq_decide.2 (by omega)) | (refine congrArg (fun b => T.v (Value.int _ b)) ?_; first | rfl | omega) | omega)) | (first | rfl | (refine congrArg (fun b => T.v (Value.bool b)) ?_; first | rfl | exact (decide_eq_true (by omega)).symm | exact (decide_eq_false (by omega)).symm | exact decide_eq_decide.2 (by omega)) | (refine congrArg (fun b => T.v (Value.int _ b)) ?_; first | rfl | omega) | omega))
def eTells : Entry := ⟨88, 3, fun l => match l with | [.v (.int .u64 v)] => some (none, .agg [.v (.int .i64 0), .v (.int .u64 v)], []) | _ => none⟩
theorem eTells_ok : eTells.ok Tryz.prog glR := ⟨Am.enters_of Tryz.func88 (by kernel_rfl) (by kernel_rfl), by
  intro args c t bs h hc
  simp only [eTells] at h
  split at h <;> cases h
  exact tells_pure _⟩
set_option maxRecDepth 100000 in
theorem refuses_pure (e : Int) : Pure Tryz.prog glR 91 [.v (.int .i64 e)] (.agg [.v (.int .i64 e), .v (.int .u64 0)]) := by
  refine pure_of (C := ctx0 Tryz.prog) ctx0_good Tryz.func91 (c := bodyOf Tryz.f91) (by rfl) (Nat.le_of_ble_eq_true (by rfl)) 4 0 [0, 2] ?_
  conv => whnf
  repeat' (first | (refine ifB_t (by assumption) ?_; conv => whnf) | (refine ifB_f (by assumption) ?_; conv => whnf) | (refine ifB_dec (fun h => ?_) (fun h => ?_) <;> (first | (exfalso; omega) | (conv => whnf))) | (refine ifB_eq (fun h => ?_) (fun h => ?_) <;> (first | (exfalso; omega) | (conv => whnf))) | (refine ifB_ne (fun h => ?_) (fun h => ?_) <;> (first | (exfalso; omega) | (conv => whnf))) | (refine ifB_not ?_; conv => whnf) | (refine ifB_and ?_; conv => whnf) | (refine ifB_or ?_; conv => whnf) | (refine And.intro ?_ ?_; (first | omega | assumption | (exact allU_getD (by assumption) _) | (simp only [cutL]; omega) | (refine And.intro ?_ ?_ <;> first | assumption | exact allU_getD (by assumption) _) | (simp only [cutL, IntKind.wrap_u64, IntKind.wrap_i64] at *; omega) | decide); conv => whnf) | (refine ifB_mk (fun h => ?_) (fun h => ?_) <;> (conv => whnf)))
  repeat' (first | exact trivial | exact rfl | (refine And.intro ?_ ?_) | ((conv => whnf); done) | ((conv => whnf); (first | rfl | (refine congrArg (fun b => T.v (Value.bool b)) ?_; first | rfl | exact (decide_eq_true (by omega)).symm | exact (decide_eq_false (by omega)).symm | exact decide_eq_decide.2 (by omega)) | (refine congrArg (fun b => T.v (Value.int _ b)) ?_; first | rfl | omega) | omega)) | (first | rfl | (refine congrArg (fun b => T.v (Value.bool b)) ?_; first | rfl | exact (decide_eq_true (by omega)).symm | exact (decide_eq_false (by omega)).symm | exact decide_eq_decide.2 (by omega)) | (refine congrArg (fun b => T.v (Value.int _ b)) ?_; first | rfl | omega) | omega))
def eRefuses : Entry := ⟨91, 3, fun l => match l with | [.v (.int .i64 e)] => some (none, .agg [.v (.int .i64 e), .v (.int .u64 0)], []) | _ => none⟩
theorem eRefuses_ok : eRefuses.ok Tryz.prog glR := ⟨Am.enters_of Tryz.func91 (by kernel_rfl) (by kernel_rfl), by
  intro args c t bs h hc
  simp only [eRefuses] at h
  split at h <;> cases h
  exact refuses_pure _⟩
def bitI (b : Bool) : Int := if b then 1 else 0
set_option maxRecDepth 100000 in
theorem bit_pure (b : Bool) : Pure Tryz.prog glR 94 [.v (.bool b)] (.v (.int .u64 (bitI b))) := by
  refine pure_of (C := ctx0 Tryz.prog) ctx0_good Tryz.func94 (c := bodyOf Tryz.f94) (by rfl) (Nat.le_of_ble_eq_true (by rfl)) 4 0 [0, 2, 3] ?_
  conv => whnf
  cases b <;> (conv => whnf) <;> rfl
def eBit : Entry := ⟨94, 3, fun l => match l with | [.v (.bool b)] => some (none, .v (.int .u64 (bitI b)), []) | _ => none⟩
theorem eBit_ok : eBit.ok Tryz.prog glR := ⟨Am.enters_of Tryz.func94 (by kernel_rfl) (by kernel_rfl), by
  intro args c t bs h hc
  simp only [eBit] at h
  split at h <;> cases h
  exact bit_pure _⟩
end Go.Proofs.YtlcpcgdecodjfaaGreatDoor
namespace Go.Proofs.YtlcpcgdecodjfaaGreatDoor
open Go.RowKit Go.Proofs.YtlcpcgdecodjfaaGreatDoor.Am
set_option linter.unusedVariables false
set_option linter.unusedSimpArgs false

def valB (k : Int) : Bool := decide (k = 3 ∨ k = 4)
def lssK (k a b : Int) : Bool := if k = 4 then bLess a b else decide (a < b)
def mntV (k x : Int) : Int := if k = 4 then iCanon x else x
def mntB (k x : Int) : Bool := if k = 4 then true else decide (x ≤ 4611686018427387904)
set_option maxRecDepth 100000 in
theorem valued_pure (k p n : Int) : Pure Tryz.prog glR 84 [.agg [.v (.int .i64 k), .v (.int .i64 p), .v (.int .i64 n)]] (.v (.bool (valB k))) := by
  refine pure_of (C := ctx0 Tryz.prog) ctx0_good Tryz.func84 (c := bodyOf Tryz.f84) (by rfl) (Nat.le_of_ble_eq_true (by rfl)) 4 0 [0, 1, 2] ?_
  conv => whnf
  repeat' (first | (refine ifB_t (by assumption) ?_; conv => whnf) | (refine ifB_f (by assumption) ?_; conv => whnf) | (refine ifB_dec (fun h => ?_) (fun h => ?_) <;> (first | (exfalso; omega) | (conv => whnf))) | (refine ifB_eq (fun h => ?_) (fun h => ?_) <;> (first | (exfalso; omega) | (conv => whnf))) | (refine ifB_ne (fun h => ?_) (fun h => ?_) <;> (first | (exfalso; omega) | (conv => whnf))) | (refine ifB_not ?_; conv => whnf) | (refine ifB_and ?_; conv => whnf) | (refine ifB_or ?_; conv => whnf) | (refine And.intro ?_ ?_; (first | omega | assumption | (exact allU_getD (by assumption) _) | (simp only [cutL]; omega) | (refine And.intro ?_ ?_ <;> first | assumption | exact allU_getD (by assumption) _) | (simp only [cutL, IntKind.wrap_u64, IntKind.wrap_i64] at *; omega) | decide); conv => whnf) | (refine ifB_mk (fun h => ?_) (fun h => ?_) <;> (conv => whnf)))
  all_goals (refine congrArg (fun b => T.v (Value.bool b)) ?_; first | (simp [valB, *]; done) | (simp [valB, *]; rfl))
def eValued : Entry := ⟨84, 3, fun l => match l with | [.agg [.v (.int .i64 k), .v (.int .i64 p), .v (.int .i64 n)]] => some (none, .v (.bool (valB k)), []) | _ => none⟩
theorem eValued_ok : eValued.ok Tryz.prog glR := ⟨Am.enters_of Tryz.func84 (by kernel_rfl) (by kernel_rfl), by
  intro args c t bs h hc
  simp only [eValued] at h
  split at h <;> cases h
  exact valued_pure _ _ _⟩
noncomputable def ctxKdA (P : Program) : Ctx := ctx P glR [eRLess, eRCanon] [] (noEq P) [] (fun _ h => by cases h)
theorem ctxKdA_good : (ctxKdA Tryz.prog).good := ctx_good (by kernel_rfl) (AllOk.mem ⟨eRLess_ok, eRCanon_ok, trivial⟩) glR_two
set_option maxRecDepth 100000 in
theorem less9_pure (k p n a b : Int) (ha : U64 a) (hb : U64 b) : Pure Tryz.prog glR 86 [.agg [.v (.int .i64 k), .v (.int .i64 p), .v (.int .i64 n)], .v (.int .u64 a), .v (.int .u64 b)] (.v (.bool (lssK k a b))) := by
  refine pure_of (C := ctxKdA Tryz.prog) ctxKdA_good Tryz.func86 (c := bodyOf Tryz.f86) (by rfl) (Nat.le_of_ble_eq_true (by rfl)) 4 0 [0, 1, 2, 3, 6, 9] ?_
  conv => whnf
  refine ifB_eq (fun h => ?_) (fun h => ?_)
  · conv => whnf
    refine And.intro ⟨ha, hb⟩ ?_
    conv => whnf
    rw [show lssK k a b = bLess a b from if_pos h]
  · conv => whnf
    rw [show lssK k a b = decide (a < b) from if_neg h]
def eLess9 : Entry := ⟨86, 3, fun l => match l with | [.agg [.v (.int .i64 k), .v (.int .i64 p), .v (.int .i64 n)], .v (.int .u64 a), .v (.int .u64 b)] => some (some (U64 a ∧ U64 b), .v (.bool (lssK k a b)), []) | _ => none⟩
theorem eLess9_ok : eLess9.ok Tryz.prog glR := ⟨Am.enters_of Tryz.func86 (by kernel_rfl) (by kernel_rfl), by
  intro args c t bs h hc
  simp only [eLess9] at h
  split at h <;> cases h
  replace hc := hc _ rfl
  exact less9_pure _ _ _ _ _ hc.1 hc.2⟩
set_option maxRecDepth 100000 in
theorem meant_pure (k p n a : Int) (ha : U64 a) : Pure Tryz.prog glR 85 [.agg [.v (.int .i64 k), .v (.int .i64 p), .v (.int .i64 n)], .v (.int .u64 a)] (.tup [.v (.int .u64 (mntV k a)), .v (.bool (mntB k a))]) := by
  refine pure_of (C := ctxKdA Tryz.prog) ctxKdA_good Tryz.func85 (c := bodyOf Tryz.f85) (by rfl) (Nat.le_of_ble_eq_true (by rfl)) 4 0 [0, 1, 2, 4, 5, 8] ?_
  conv => whnf
  refine ifB_eq (fun h => ?_) (fun h => ?_)
  · conv => whnf
    refine And.intro ha ?_
    conv => whnf
    rw [show mntV k a = iCanon a from if_pos h, show mntB k a = true from if_pos h]
    repeat' (first | exact trivial | exact rfl | (refine And.intro ?_ ?_) | ((conv => whnf); done) | ((conv => whnf); (first | rfl | (refine congrArg (fun b => T.v (Value.bool b)) ?_; first | rfl | exact (decide_eq_true (by omega)).symm | exact (decide_eq_false (by omega)).symm | exact decide_eq_decide.2 (by omega)) | (refine congrArg (fun b => T.v (Value.int _ b)) ?_; first | rfl | omega) | omega)) | (first | rfl | (refine congrArg (fun b => T.v (Value.bool b)) ?_; first | rfl | exact (decide_eq_true (by omega)).symm | exact (decide_eq_false (by omega)).symm | exact decide_eq_decide.2 (by omega)) | (refine congrArg (fun b => T.v (Value.int _ b)) ?_; first | rfl | omega) | omega))
  · conv => whnf
    rw [show mntV k a = a from if_neg h, show mntB k a = decide (a ≤ 4611686018427387904) from if_neg h]
    repeat' (first | exact trivial | exact rfl | (refine And.intro ?_ ?_) | ((conv => whnf); done) | ((conv => whnf); (first | rfl | (refine congrArg (fun b => T.v (Value.bool b)) ?_; first | rfl | exact (decide_eq_true (by omega)).symm | exact (decide_eq_false (by omega)).symm | exact decide_eq_decide.2 (by omega)) | (refine congrArg (fun b => T.v (Value.int _ b)) ?_; first | rfl | omega) | omega)) | (first | rfl | (refine congrArg (fun b => T.v (Value.bool b)) ?_; first | rfl | exact (decide_eq_true (by omega)).symm | exact (decide_eq_false (by omega)).symm | exact decide_eq_decide.2 (by omega)) | (refine congrArg (fun b => T.v (Value.int _ b)) ?_; first | rfl | omega) | omega))
def eMeant : Entry := ⟨85, 3, fun l => match l with | [.agg [.v (.int .i64 k), .v (.int .i64 p), .v (.int .i64 n)], .v (.int .u64 a)] => some (some (U64 a), .tup [.v (.int .u64 (mntV k a)), .v (.bool (mntB k a))], []) | _ => none⟩
theorem eMeant_ok : eMeant.ok Tryz.prog glR := ⟨Am.enters_of Tryz.func85 (by kernel_rfl) (by kernel_rfl), by
  intro args c t bs h hc
  simp only [eMeant] at h
  split at h <;> cases h
  replace hc := hc _ rfl
  exact meant_pure _ _ _ _ hc⟩
/-- Are so many keys right? -/
def okKs (k : Int) (ks : List Int) : Nat → Bool
  | 0 => true
  | i + 1 => okKs k ks i && (mntB k (ks.getD i 0) && (decide (mntV k (ks.getD i 0) = ks.getD i 0) && (decide (i = 0) || lssK k (ks.getD (i - 1) 0) (ks.getD i 0))))
theorem okKs_mono {k : Int} {ks : List Int} {i n : Nat} (hi : i ≤ n) (h : okKs k ks n = true) : okKs k ks i = true := by
  induction n with
  | zero => obtain rfl : i = 0 := by omega
            exact h
  | succ n ih =>
    by_cases e : i = n + 1
    · subst e; exact h
    · simp only [okKs, Bool.and_eq_true] at h
      exact ih (by omega) h.1
def keysOk (k n : Int) (ks vs : List Int) : Bool := decide ((ks.length : Int) ≤ n) && ((if valB k = true then decide (vs.length = ks.length) else decide (vs.length = 0)) && okKs k ks ks.length)
theorem keysOk_no {k n : Int} {ks vs : List Int} {i : Nat} (hi : i < ks.length) (h : (mntB k (ks.getD i 0) && (decide (mntV k (ks.getD i 0) = ks.getD i 0) && (decide (i = 0) || lssK k (ks.getD (i - 1) 0) (ks.getD i 0)))) = false) : keysOk k n ks vs = false := by
  have : okKs k ks ks.length = false := by
    cases hq : okKs k ks ks.length with
    | false => rfl
    | true =>
      have := okKs_mono (i := i + 1) (by omega) hq
      simp only [okKs] at this
      rw [h, Bool.and_false] at this; cases this
  unfold keysOk; rw [this, Bool.and_false, Bool.and_false]
noncomputable def ctxKdA2 (P : Program) : Ctx := ctx P glR [eValued, eLess9, eMeant] [] (noEq P) [] (fun _ h => by cases h)
theorem ctxKdA2_good : (ctxKdA2 Tryz.prog).good := ctx_good (by kernel_rfl) (AllOk.mem ⟨eValued_ok, eLess9_ok, eMeant_ok, trivial⟩) glR_two
attribute [local irreducible] lssK mntV mntB valB
set_option maxRecDepth 100000 in
theorem keys9_pure (k p n r : Int) (n1 : Nat) (ks : List Int) (n2 : Nat) (vs : List Int) (n3 : Nat) (ws : List Int) (c : Bool) (hu : AllU ks) : Pure Tryz.prog glR 61 [.agg [.v (.int .i64 k), .v (.int .i64 p), .v (.int .i64 n)], ST r n1 ks n2 vs n3 ws c] (.v (.bool (keysOk k n ks vs))) := by
  refine pure_wf fun hw => ?_
  obtain ⟨-, ⟨-, ⟨w1, w2⟩, ⟨w3, w4⟩, -, -, -⟩, -⟩ := hw
  simp only [List.length_cons, List.length_nil, Nat.zero_add, Nat.mul_one] at w1 w3
  refine pure_of (C := ctxKdA2 Tryz.prog) ctxKdA2_good Tryz.func61 (c := bodyOf Tryz.f61) (by rfl) (Nat.le_of_ble_eq_true (by rfl)) 4 0 [0, 1, 2, 3, 4, 5, 6, 7, 37, 42, 81] ?_
  conv => whnf
  refine ifB_dec (fun h => ?_) (fun h => ?_)
  · conv => whnf
    exact congrArg (fun b => T.v (Value.bool b)) (by unfold keysOk; rw [decide_eq_false (by omega), Bool.false_and])
  conv => whnf
  have hgo : (if valB k = true then decide (vs.length = ks.length) else decide (vs.length = 0)) = false → keysOk k n ks vs = false := fun h => by unfold keysOk; rw [h, Bool.false_and, Bool.and_false]
  have hnn : (ks.length : Int) ≤ n := by omega
  have hend : (if valB k = true then decide (vs.length = ks.length) else decide (vs.length = 0)) = true → okKs k ks n1 = true → keysOk k n ks vs = true := fun h1 h2 => by unfold keysOk; rw [h1, show ks.length = n1 by omega, h2, decide_eq_true (by omega)]; rfl
  have ew : ∀ i : Nat, ks.getD (0 + (i : Int).toNat * (0 + 1)) 0 = ks.getD i 0 := fun i => by simp
  cases hv : valB k
  · conv => whnf
    repeat' (first | (refine ifB_t (by assumption) ?_; conv => whnf) | (refine ifB_f (by assumption) ?_; conv => whnf) | (refine ifB_dec (fun h => ?_) (fun h => ?_) <;> (first | (exfalso; omega) | (conv => whnf))) | (refine ifB_eq (fun h => ?_) (fun h => ?_) <;> (first | (exfalso; omega) | (conv => whnf))) | (refine ifB_ne (fun h => ?_) (fun h => ?_) <;> (first | (exfalso; omega) | (conv => whnf))) | (refine ifB_not ?_; conv => whnf) | (refine ifB_and ?_; conv => whnf) | (refine ifB_or ?_; conv => whnf) | (refine And.intro ?_ ?_; (first | omega | assumption | (exact allU_getD (by assumption) _) | (simp only [cutL]; omega) | (refine And.intro ?_ ?_ <;> first | assumption | exact allU_getD (by assumption) _) | (simp only [cutL, IntKind.wrap_u64, IntKind.wrap_i64] at *; omega) | decide); conv => whnf) | (refine ifB_mk (fun h => ?_) (fun h => ?_) <;> (conv => whnf)))
    · rw [hgo (by rw [hv]; exact decide_eq_false (by omega))]
    rw [hv] at hend; replace hend := hend (decide_eq_true (by omega))
    (refine TW.loopD ctxKdA2_good 0 (base := 0) (lv := [0, 1, 2, 3, 4, 5, 6, 7, 37, 42, 81]) [5] [] [] (fun j : Nat => [.v (.int .i64 j)]) (fun _ => []) (fun j => j ≤ n1 ∧ okKs k ks j = true) (fun j => n1 - j) ?_
     conv => whnf
     refine ⟨⟨0, ⟨rfl, rfl, rfl⟩, Nat.zero_le _, rfl⟩, fun j ⟨hj, ho⟩ => ?_⟩
     conv => whnf
     refine ifB_dec (fun h1 => ?_) (fun h1 => ?_)
     · have hx := allU_getD hu j
       have hx1 := allU_getD hu (j - 1)
       conv => whnf
       refine And.intro (by omega) ?_
       conv => whnf
       rw [ew]
       refine And.intro hx ?_
       conv => whnf
       have hno : (mntB k (ks.getD j 0) && (decide (mntV k (ks.getD j 0) = ks.getD j 0) && (decide (j = 0) || lssK k (ks.getD (j - 1) 0) (ks.getD j 0)))) = false → keysOk k n ks vs = false := fun h => keysOk_no (i := j) (by omega) h
       have hyes : (mntB k (ks.getD j 0) && (decide (mntV k (ks.getD j 0) = ks.getD j 0) && (decide (j = 0) || lssK k (ks.getD (j - 1) 0) (ks.getD j 0)))) = true → okKs k ks (j + 1) = true := fun h => by simp only [okKs]; rw [ho, h]; rfl
       cases hb : mntB k (ks.getD j 0)
       · rw [hb, Bool.false_and] at hno
         conv => whnf
         rw [hno rfl]
       rw [hb, Bool.true_and] at hno hyes
       conv => whnf
       refine And.intro (by omega) ?_
       conv => whnf
       rw [ew]
       by_cases hm : mntV k (ks.getD j 0) = ks.getD j 0
       rotate_left
       · refine ifB_t (show (bif false then true else mntV k (ks.getD j 0) != ks.getD j 0) = true from bne_iff_ne.2 hm) ?_
         conv => whnf
         rw [hno (by rw [decide_eq_false hm, Bool.false_and])]
       rw [decide_eq_true hm, Bool.true_and] at hno hyes
       refine ifB_f (show (bif false then true else mntV k (ks.getD j 0) != ks.getD j 0) = false by rw [hm]; exact bne_self_eq_false _) ?_
       conv => whnf
       refine ifB_dec (fun h0 => ?_) (fun h0 => ?_)
       · rw [decide_eq_false (by omega), Bool.false_or] at hno hyes
         have ej : IntKind.i64.wrap ((j : Int) - 1) = ((j - 1 : Nat) : Int) := by rw [wrap64 (by omega) (by omega)]; omega
         conv => whnf
         rw [ej]
         refine And.intro (by omega) ?_
         conv => whnf
         rw [ew]
         rw [hm]
         refine And.intro ⟨hx1, hx⟩ ?_
         conv => whnf
         cases hs : lssK k (ks.getD (j - 1) 0) (ks.getD j 0)
         · conv => whnf
           rw [hno hs]
         · conv => whnf
           repeat (refine And.intro (by omega) ?_; conv => whnf)
           rw [wsucc (n := n1) (by omega) w2]
           exact ⟨j + 1, [], ⟨rfl, rfl, rfl⟩, ⟨(by omega : j + 1 ≤ n1), hyes hs⟩, by (try dsimp only); omega⟩
       · rw [decide_eq_true (show j = 0 by omega), Bool.true_or] at hyes
         conv => whnf
         repeat (refine And.intro (by omega) ?_; conv => whnf)
         rw [wsucc (n := n1) (by omega) w2]
         exact ⟨j + 1, [], ⟨rfl, rfl, rfl⟩, ⟨(by omega : j + 1 ≤ n1), hyes rfl⟩, by (try dsimp only); omega⟩
     · conv => whnf
       obtain rfl : j = n1 := by omega
       rw [hend ho])
  · conv => whnf
    repeat' (first | (refine ifB_t (by assumption) ?_; conv => whnf) | (refine ifB_f (by assumption) ?_; conv => whnf) | (refine ifB_dec (fun h => ?_) (fun h => ?_) <;> (first | (exfalso; omega) | (conv => whnf))) | (refine ifB_eq (fun h => ?_) (fun h => ?_) <;> (first | (exfalso; omega) | (conv => whnf))) | (refine ifB_ne (fun h => ?_) (fun h => ?_) <;> (first | (exfalso; omega) | (conv => whnf))) | (refine ifB_not ?_; conv => whnf) | (refine ifB_and ?_; conv => whnf) | (refine ifB_or ?_; conv => whnf) | (refine And.intro ?_ ?_; (first | omega | assumption | (exact allU_getD (by assumption) _) | (simp only [cutL]; omega) | (refine And.intro ?_ ?_ <;> first | assumption | exact allU_getD (by assumption) _) | (simp only [cutL, IntKind.wrap_u64, IntKind.wrap_i64] at *; omega) | decide); conv => whnf) | (refine ifB_mk (fun h => ?_) (fun h => ?_) <;> (conv => whnf)))
    · rw [hgo (by rw [hv]; exact decide_eq_false (by omega))]
    rw [hv] at hend; replace hend := hend (decide_eq_true (by omega))
    (refine TW.loopD ctxKdA2_good 0 (base := 0) (lv := [0, 1, 2, 3, 4, 5, 6, 7, 37, 42, 81]) [5] [] [] (fun j : Nat => [.v (.int .i64 j)]) (fun _ => []) (fun j => j ≤ n1 ∧ okKs k ks j = true) (fun j => n1 - j) ?_
     conv => whnf
     refine ⟨⟨0, ⟨rfl, rfl, rfl⟩, Nat.zero_le _, rfl⟩, fun j ⟨hj, ho⟩ => ?_⟩
     conv => whnf
     refine ifB_dec (fun h1 => ?_) (fun h1 => ?_)
     · have hx := allU_getD hu j
       have hx1 := allU_getD hu (j - 1)
       conv => whnf
       refine And.intro (by omega) ?_
       conv => whnf
       rw [ew]
       refine And.intro hx ?_
       conv => whnf
       have hno : (mntB k (ks.getD j 0) && (decide (mntV k (ks.getD j 0) = ks.getD j 0) && (decide (j = 0) || lssK k (ks.getD (j - 1) 0) (ks.getD j 0)))) = false → keysOk k n ks vs = false := fun h => keysOk_no (i := j) (by omega) h
       have hyes : (mntB k (ks.getD j 0) && (decide (mntV k (ks.getD j 0) = ks.getD j 0) && (decide (j = 0) || lssK k (ks.getD (j - 1) 0) (ks.getD j 0)))) = true → okKs k ks (j + 1) = true := fun h => by simp only [okKs]; rw [ho, h]; rfl
       cases hb : mntB k (ks.getD j 0)
       · rw [hb, Bool.false_and] at hno
         conv => whnf
         rw [hno rfl]
       rw [hb, Bool.true_and] at hno hyes
       conv => whnf
       refine And.intro (by omega) ?_
       conv => whnf
       rw [ew]
       by_cases hm : mntV k (ks.getD j 0) = ks.getD j 0
       rotate_left
       · refine ifB_t (show (bif false then true else mntV k (ks.getD j 0) != ks.getD j 0) = true from bne_iff_ne.2 hm) ?_
         conv => whnf
         rw [hno (by rw [decide_eq_false hm, Bool.false_and])]
       rw [decide_eq_true hm, Bool.true_and] at hno hyes
       refine ifB_f (show (bif false then true else mntV k (ks.getD j 0) != ks.getD j 0) = false by rw [hm]; exact bne_self_eq_false _) ?_
       conv => whnf
       refine ifB_dec (fun h0 => ?_) (fun h0 => ?_)
       · rw [decide_eq_false (by omega), Bool.false_or] at hno hyes
         have ej : IntKind.i64.wrap ((j : Int) - 1) = ((j - 1 : Nat) : Int) := by rw [wrap64 (by omega) (by omega)]; omega
         conv => whnf
         rw [ej]
         refine And.intro (by omega) ?_
         conv => whnf
         rw [ew]
         rw [hm]
         refine And.intro ⟨hx1, hx⟩ ?_
         conv => whnf
         cases hs : lssK k (ks.getD (j - 1) 0) (ks.getD j 0)
         · conv => whnf
           rw [hno hs]
         · conv => whnf
           repeat (refine And.intro (by omega) ?_; conv => whnf)
           rw [wsucc (n := n1) (by omega) w2]
           exact ⟨j + 1, [], ⟨rfl, rfl, rfl⟩, ⟨(by omega : j + 1 ≤ n1), hyes hs⟩, by (try dsimp only); omega⟩
       · rw [decide_eq_true (show j = 0 by omega), Bool.true_or] at hyes
         conv => whnf
         repeat (refine And.intro (by omega) ?_; conv => whnf)
         rw [wsucc (n := n1) (by omega) w2]
         exact ⟨j + 1, [], ⟨rfl, rfl, rfl⟩, ⟨(by omega : j + 1 ≤ n1), hyes rfl⟩, by (try dsimp only); omega⟩
     · conv => whnf
       obtain rfl : j = n1 := by omega
       rw [hend ho])

def eKeys9 : Entry := ⟨61, 3, fun l => match l.map fixS with | [.agg [.v (.int .i64 k), .v (.int .i64 p), .v (.int .i64 n)], .agg [.v (.int .u64 r), .fl [.u64] n1 ks, .fl [.u64] n2 vs, .fl [.i64] n3 ws, .v (.bool c)]] => some (some (AllU ks), .v (.bool (keysOk k n ks vs)), []) | _ => none⟩
theorem eKeys9_ok : eKeys9.ok Tryz.prog glR := ⟨Am.enters_of Tryz.func61 (by kernel_rfl) (by kernel_rfl), by
  intro args c t bs h hc
  simp only [eKeys9] at h
  split at h <;> cases h
  rename_i heq
  replace hc := hc _ rfl
  refine pure_fixS ?_
  rw [heq]
  exact keys9_pure _ _ _ _ _ _ _ _ _ _ _ hc⟩

end Go.Proofs.YtlcpcgdecodjfaaGreatDoor
namespace Go.Proofs.YtlcpcgdecodjfaaGreatDoor
open Go.RowKit Go.Proofs.YtlcpcgdecodjfaaGreatDoor.Am
set_option linter.unusedVariables false
set_option linter.unusedSimpArgs false

/-- A list with one more at a place, without that at a place. -/
def insK (ks : List Int) (a : Nat) (w : Int) : List Int := ks.take a ++ w :: ks.drop a
def delK (ks : List Int) (a : Nat) : List Int := ks.take a ++ ks.drop (a + 1)
/-- Is a state of a Set, a Dict or an Order right? -/
def rightT (k p n r : Int) (ks vs ws : List Int) (c : Bool) : Bool := fitsB k p n && (decide (r = 0) && (decide (ws.length = 0) && (!c && keysOk k n ks vs)))
noncomputable def ctxKdB (P : Program) : Ctx := ctx P glR [eRFits, eKeyed, eKeys9] [] (noEq P) [] (fun _ h => by cases h)
theorem ctxKdB_good : (ctxKdB Tryz.prog).good := ctx_good (by kernel_rfl) (AllOk.mem ⟨eRFits_ok, eKeyed_ok, eKeys9_ok, trivial⟩) glR_two
attribute [local irreducible] fitsB keysOk
set_option maxRecDepth 100000 in
theorem rightTb_pure (k p n r : Int) (hk : k = 2 ∨ k = 3 ∨ k = 4) (n1 : Nat) (ks : List Int) (n2 : Nat) (vs : List Int) (n3 : Nat) (ws : List Int) (c : Bool) (hu : AllU ks) (h1 : n1 ≤ 1000) (h2 : n2 ≤ 1000) : Pure Tryz.prog glR 28 [.agg [.v (.int .i64 k), .v (.int .i64 p), .v (.int .i64 n)], ST r n1 ks n2 vs n3 ws c] (.v (.bool (rightT k p n r ks vs ws c))) := by
  refine pure_wf fun hw => ?_
  obtain ⟨-, ⟨-, ⟨w1, -⟩, ⟨w2, -⟩, ⟨w3, w4⟩, -, -⟩, -⟩ := hw
  simp only [List.length_cons, List.length_nil, Nat.zero_add, Nat.mul_one] at w1 w2 w3
  have k1 : k ≠ 1 := by omega
  have k5 : k ≠ 5 := by omega
  have hkd : keyedB k = true := by unfold keyedB; exact decide_eq_true hk
  refine pure_of (C := ctxKdB Tryz.prog) ctxKdB_good Tryz.func28 (c := bodyOf Tryz.f28) (by rfl) (Nat.le_of_ble_eq_true (by rfl)) 4 0 [0, 1, 2, 3, 4, 7, 45, 46, 56] ?_
  conv => whnf
  cases hf : fitsB k p n
  · conv => whnf
    exact congrArg (fun b => T.v (Value.bool b)) (by unfold rightT; rw [hf]; rfl)
  conv => whnf
  repeat' (first | (refine ifB_t (by assumption) ?_; conv => whnf) | (refine ifB_f (by assumption) ?_; conv => whnf) | (refine ifB_dec (fun h => ?_) (fun h => ?_) <;> (first | (exfalso; omega) | (conv => whnf))) | (refine ifB_eq (fun h => ?_) (fun h => ?_) <;> (first | (exfalso; omega) | (conv => whnf))) | (refine ifB_ne (fun h => ?_) (fun h => ?_) <;> (first | (exfalso; omega) | (conv => whnf))) | (refine ifB_not ?_; conv => whnf) | (refine ifB_and ?_; conv => whnf) | (refine ifB_or ?_; conv => whnf) | (refine And.intro ?_ ?_; (first | omega | assumption | (exact allU_getD (by assumption) _) | (simp only [cutL]; omega) | (refine And.intro ?_ ?_ <;> first | assumption | exact allU_getD (by assumption) _) | (simp only [cutL, IntKind.wrap_u64, IntKind.wrap_i64] at *; omega) | decide); conv => whnf) | (refine ifB_mk (fun h => ?_) (fun h => ?_) <;> (conv => whnf)))
  all_goals (refine congrArg (fun b => T.v (Value.bool b)) ?_; unfold rightT; rw [Bool.eq_iff_iff])
  all_goals first | (simp [*]; done) | (simp [*]; omega) | (simp_all; done) | (simp_all; omega)
set_option maxRecDepth 100000 in
theorem with_pure (n1 : Nat) (ks : List Int) (a : Nat) (w : Int) (hn : n1 ≤ 1000) (ha : a ≤ n1) : Pure Tryz.prog glR 114 [.fl [.u64] n1 ks, .v (.int .i64 a), .v (.int .u64 w)] (.ow 0 1 (n1 + 1)) [(0, .fl [.u64] (insK ks a w))] := by
  refine pure_wf fun hw => ?_
  obtain ⟨⟨w1, w2⟩, -⟩ := hw
  simp only [List.length_cons, List.length_nil, Nat.zero_add, Nat.mul_one] at w1
  refine pure_of (C := ctx0 Tryz.prog) ctx0_good Tryz.func114 (c := bodyOf Tryz.f114) (by rfl) (Nat.le_of_ble_eq_true (by rfl)) 4 0 [0, 1, 2, 6] ?_
  have c1 : cutL n1 none (some (a : Int)) = a := by simp only [cutL]; omega
  have c2 : cutN (0 + 1) none (some (a : Int)) ks = ks.take a := by simp [cutN, mulN_eq]
  have c3 : cutL n1 (some (a : Int)) none = n1 - a := by simp only [cutL]; omega
  have c4 : cutN (0 + 1) (some (a : Int)) none ks = ks.drop a := by simp [cutN, mulN_eq]
  conv => whnf
  refine And.intro (by omega) ?_
  rw [c1, c2]
  conv => whnf
  repeat (refine And.intro (by first | omega | (show a * 8 ≤ 140737488355328; omega)) ?_; (try rw [c1, c2]); (try rw [c3, c4]); conv => whnf)
  rw [show a + 1 + (n1 - a) = n1 + 1 by omega, List.append_assoc]
  repeat' (first | exact trivial | exact rfl | (refine And.intro ?_ ?_) | ((conv => whnf); done) | ((conv => whnf); (first | rfl | (refine congrArg (fun b => T.v (Value.bool b)) ?_; first | rfl | exact (decide_eq_true (by omega)).symm | exact (decide_eq_false (by omega)).symm | exact decide_eq_decide.2 (by omega)) | (refine congrArg (fun b => T.v (Value.int _ b)) ?_; first | rfl | omega) | omega)) | (first | rfl | (refine congrArg (fun b => T.v (Value.bool b)) ?_; first | rfl | exact (decide_eq_true (by omega)).symm | exact (decide_eq_false (by omega)).symm | exact decide_eq_decide.2 (by omega)) | (refine congrArg (fun b => T.v (Value.int _ b)) ?_; first | rfl | omega) | omega))
set_option maxRecDepth 100000 in
theorem without_pure (n1 : Nat) (ks : List Int) (a : Nat) (hn : n1 ≤ 1000) (ha : a < n1) : Pure Tryz.prog glR 113 [.fl [.u64] n1 ks, .v (.int .i64 a)] (.ow 0 1 (n1 - 1)) [(0, .fl [.u64] (delK ks a))] := by
  refine pure_wf fun hw => ?_
  obtain ⟨⟨w1, w2⟩, -⟩ := hw
  simp only [List.length_cons, List.length_nil, Nat.zero_add, Nat.mul_one] at w1
  refine pure_of (C := ctx0 Tryz.prog) ctx0_good Tryz.func113 (c := bodyOf Tryz.f113) (by rfl) (Nat.le_of_ble_eq_true (by rfl)) 4 0 [0, 1, 4] ?_
  have c1 : cutL n1 none (some (a : Int)) = a := by simp only [cutL]; omega
  have c2 : cutN (0 + 1) none (some (a : Int)) ks = ks.take a := by simp [cutN, mulN_eq]
  have c3 : cutL n1 (some ((a + 1 : Nat) : Int)) none = n1 - (a + 1) := by simp only [cutL]; omega
  have c4 : cutN (0 + 1) (some ((a + 1 : Nat) : Int)) none ks = ks.drop (a + 1) := by simp only [cutN, mulN_eq]; congr 1; omega
  have e1 : IntKind.i64.wrap ((a : Int) + 1) = ((a + 1 : Nat) : Int) := wrap64 (by omega) (by omega)
  conv => whnf
  repeat (refine And.intro (by first | omega | (show a * 8 ≤ 140737488355328; omega)) ?_; (try rw [c1, c2]); (try rw [e1]); (try rw [c3, c4]); conv => whnf)
  rw [show a + (n1 - (a + 1)) = n1 - 1 by omega]
  repeat' (first | exact trivial | exact rfl | (refine And.intro ?_ ?_) | ((conv => whnf); done) | ((conv => whnf); (first | rfl | (refine congrArg (fun b => T.v (Value.bool b)) ?_; first | rfl | exact (decide_eq_true (by omega)).symm | exact (decide_eq_false (by omega)).symm | exact decide_eq_decide.2 (by omega)) | (refine congrArg (fun b => T.v (Value.int _ b)) ?_; first | rfl | omega) | omega)) | (first | rfl | (refine congrArg (fun b => T.v (Value.bool b)) ?_; first | rfl | exact (decide_eq_true (by omega)).symm | exact (decide_eq_false (by omega)).symm | exact decide_eq_decide.2 (by omega)) | (refine congrArg (fun b => T.v (Value.int _ b)) ?_; first | rfl | omega) | omega))

def eRightTb : Entry := ⟨28, 3, fun l => match l.map fixS with | [.agg [.v (.int .i64 k), .v (.int .i64 p), .v (.int .i64 n)], .agg [.v (.int .u64 r), .fl [.u64] n1 ks, .fl [.u64] n2 vs, .fl [.i64] n3 ws, .v (.bool c)]] => some (some ((k = 2 ∨ k = 3 ∨ k = 4) ∧ AllU ks ∧ n1 ≤ 1000 ∧ n2 ≤ 1000), .v (.bool (rightT k p n r ks vs ws c)), []) | _ => none⟩
theorem eRightTb_ok : eRightTb.ok Tryz.prog glR := ⟨Am.enters_of Tryz.func28 (by kernel_rfl) (by kernel_rfl), by
  intro args c t bs h hc
  simp only [eRightTb] at h
  split at h <;> cases h
  rename_i heq
  replace hc := hc _ rfl
  refine pure_fixS ?_
  rw [heq]
  exact rightTb_pure _ _ _ _ hc.1 _ _ _ _ _ _ _ hc.2.1 hc.2.2.1 hc.2.2.2⟩

def eWith : Entry := ⟨114, 3, fun l => match l with | [.fl [.u64] n1 ks, .v (.int .i64 a), .v (.int .u64 w)] => some (some (n1 ≤ 1000 ∧ 0 ≤ a ∧ a ≤ n1), .ow 0 1 (n1 + 1), [(0, .fl [.u64] (insK ks a.toNat w))]) | _ => none⟩
theorem eWith_ok : eWith.ok Tryz.prog glR := ⟨Am.enters_of Tryz.func114 (by kernel_rfl) (by kernel_rfl), by
  intro args c t bs h hc
  simp only [eWith] at h
  split at h <;> cases h
  replace hc := hc _ rfl
  exact (by obtain ⟨h1, h2, h3⟩ := hc; obtain ⟨a0, rfl⟩ := Int.eq_ofNat_of_zero_le h2; exact with_pure _ _ a0 _ h1 (by omega))⟩
def eWithout : Entry := ⟨113, 3, fun l => match l with | [.fl [.u64] n1 ks, .v (.int .i64 a)] => some (some (n1 ≤ 1000 ∧ 0 ≤ a ∧ a < n1), .ow 0 1 (n1 - 1), [(0, .fl [.u64] (delK ks a.toNat))]) | _ => none⟩
theorem eWithout_ok : eWithout.ok Tryz.prog glR := ⟨Am.enters_of Tryz.func113 (by kernel_rfl) (by kernel_rfl), by
  intro args c t bs h hc
  simp only [eWithout] at h
  split at h <;> cases h
  replace hc := hc _ rfl
  exact (by obtain ⟨h1, h2, h3⟩ := hc; obtain ⟨a0, rfl⟩ := Int.eq_ofNat_of_zero_le h2; exact without_pure _ _ a0 h1 (by omega))⟩
end Go.Proofs.YtlcpcgdecodjfaaGreatDoor
