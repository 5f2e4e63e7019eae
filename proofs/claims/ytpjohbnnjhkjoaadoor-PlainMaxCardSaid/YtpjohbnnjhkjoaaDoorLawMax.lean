/- The walk of PlainMax. -/
import Derived.Test.YtpjohbnnjhkjoaaDoorAwake14
import Derived.Test.YtpjohbnnjhkjoaaDoorPick14
import Derived.Deep.RegionHeld3
import Derived.Deep.AppendLies
import Derived.Maps.AppendAt
import Derived.Test.YtpjohbnnjhkjoaaDoorPlainP
namespace Go.Proofs.YtpjohbnnjhkjoaaDoor
open Go.RowKit
set_option linter.unusedVariables false
set_option linter.unusedSimpArgs false

/-- append, own row, at a step of a region that draws its order. -/
theorem step_append_own {P : Program} {w : World} {ops : Array Oper} {o : Oper} {a : Act} {K : Act → World → Prop} {Q : Exit → Act → World → Prop} {E : Prop} (hgd : o.guard = none) (s x : Operand) (t : TypeId)
    (ho : o.op = .call { callee := .builtin .append, args := #[s, x], argTypes := #[t, t] })
    (base : Nat) (e : TypeId) (i : TypeInfo) (z : Value) (size bytes : Nat) (ht : P.underlying t = some (.slice e)) (hi : P.info? e = some i) (hz : i.zero = some z)
    (hsize : i.size = size) (hby : i.bytes = bytes) (hzs : z.cells.size = size) (hsz : 0 < size)
    (v : Value) (n : Nat) (xs : List Value) (hs : a.eval s = v) (hown : w.ownsRow base e size v n xs)
    (ad : Addr) (m c : Nat) (news : List Value) (hx : a.eval x = .slice (some ad) m c) (hl : news.length = m * size) (hnews : ∀ j u, news[j]? = some u → w.cell? (ad.add j) = some u) (h1 : ∀ u ∈ news, u.oneCell' = true)
    (h63 : n + m ≤ maxLen) (hbytes : (n + m) * bytes ≤ 140737488355328) (hbase : base ≤ w.heap.size)
    (h : ∀ v' w', w'.ownsRow base e size v' (n + m) (xs ++ news) → w.grownBy w' v.ownBlock → K (a.put o.dst v') w') :
    if Region.wanted o (yielded ops a.tmps) = true then Oper.wp P o a w K Q else E := by
  have hw : Region.wanted o (yielded ops a.tmps) = true := by simp [Region.wanted, hgd]
  rw [if_pos hw]
  obtain ⟨v', w', hr, h2, h3, _, _⟩ := run_append_own_at (P := P) w base t o.type e i z size bytes ht hi hz hsize hby hzs hsz v n xs hown ad m c news hl hnews h1 h63 hbytes hbase
  unfold Oper.wp execOp
  simp only [ho, resolve, invoke, builtin, Sem.run_bind, Sem.run_pure, Result.andThen_ok, List.map_toArray, List.map_cons, List.map_nil, hs, hx, hr]
  exact h v' w' h2 h3
theorem SlI.first {k : IntKind} {w : World} {b off n : Nat} {xs : List Int} (h : SlI k w (some ⟨b, off, none⟩) n xs) (m : Nat) (hm : m ≤ n) : SlI k w (some ⟨b, off, none⟩) m (xs.take m) := by
  refine ⟨by rw [List.length_take, h.1]; omega, ?_⟩
  rcases h.2 with h0 | ⟨b', o', he, hb, hc⟩
  · left; omega
  · cases he
    exact .inr ⟨b, off, rfl, hb, fun i hi => by rw [hc i (by omega), getD_take hi]⟩
theorem SlI.cellsFrom {w2 w : World} {b off n : Nat} {ys : List Int} (h : SlI .u64 w2 (some ⟨b, off, none⟩) n ys) (hB : Below w2.heap.size w2 w) (d m : Nat) (hdm : d + m ≤ n) : ∀ j, j < m → w.cell? ((⟨b, off + d, none⟩ : Addr).add j) = some (.int .u64 (((ys.drop d).take m).getD j 0)) := by
  intro j hj
  rcases h.2 with h0 | ⟨b', o', he, hb, hc⟩
  · omega
  · cases he
    have : (⟨b, off + d, none⟩ : Addr).add j = ⟨b, off + (d + j), none⟩ := by simp [Addr.add, Nat.add_assoc]
    rw [this, getD_take hj, getD_drop, ← hc (d + j) (by omega)]
    exact hB.cell (p := ⟨b, off + (d + j), none⟩) hb
theorem step_app_u64 {w : World} {ops : Array Oper} {o : Oper} {a : Act} {K : Act → World → Prop} {Q : Exit → Act → World → Prop} {E : Prop} (hgd : o.guard = none) (s x : Operand)
    (ho : o.op = .call { callee := .builtin .append, args := #[s, x], argTypes := #[24, 24] }) (B : Nat) (W0 : World)
    (v : Value) (hs : a.eval s = v) (n : Nat) (xs : List Int) (hown : w.ownsRow B 27 1 v n (xs.map (Value.int .u64))) (hB : Below B W0 w) (hB0 : B ≤ W0.heap.size)
    (ad : Addr) (m c : Nat) (hx : a.eval x = .slice (some ad) m c) (ys : List Int) (hl : ys.length = m) (hc : ∀ j, j < m → w.cell? (ad.add j) = some (.int .u64 (ys.getD j 0))) (hle : n + m ≤ 4096)
    (h : ∀ v' w', w'.ownsRow B 27 1 v' (n + m) ((xs ++ ys).map (Value.int .u64)) → Below B W0 w' → K (a.put o.dst v') w') :
    if Region.wanted o (yielded ops a.tmps) = true then Oper.wp Tryd.prog o a w K Q else E := by
  obtain ⟨i0, hi, hz0, hz1, hz2⟩ := info_parts info_u64
  refine step_append_own hgd s x _ ho B 27 i0 (.int .u64 0) 1 8 Tryd.underlying24 hi hz0 hz1 hz2 rfl (by decide) v n _ hs hown ad m c (ys.map (Value.int .u64)) hx (by simp [hl]) ?_ ?_ (by unfold maxLen; omega) (by omega) (Nat.le_trans hB0 hB.size) ?_
  · intro j u hj
    have hlt : j < ys.length := by
      have := (List.getElem?_eq_some_iff.1 hj).1
      simpa using this
    rw [getD_map_int ys j hlt] at hj
    cases hj
    exact hc j (by omega)
  · intro u hu
    obtain ⟨x, _, rfl⟩ := List.mem_map.1 hu
    rfl
  · intro v' w' ho' hg
    rw [← List.map_append] at ho'
    exact h v' w' ho' (hB.grown hg (Nat.le_trans hB0 hB.size) (fun k hk => (hown.lt k hk).1))
theorem OwnRow.toSl {w : World} {B : Nat} {v : Value} {n : Nat} {xs : List Int} (h : w.ownsRow B 27 1 v n (xs.map (Value.int .u64))) : ∃ a cap, v = .slice a n cap ∧ SlI .u64 w a n xs := by
  have hl : xs.length = n := by have := h.1; simp at this; exact this
  rcases h.2 with ⟨rfl, h0⟩ | ⟨g, cap, cur, rfl, h1, h2, h3⟩
  · exact ⟨none, 0, by rw [h0], hl, .inl h0⟩
  · refine ⟨_, cap, rfl, hl, .inr ⟨g, 0, rfl, (h.lt g rfl).2, fun i hi => ?_⟩⟩
    rw [Nat.zero_add, h.cellAt i (by omega)]
    exact getD_map_int xs i (by omega)
theorem fold_own (k : Int) (hk : k = 2 ∨ k = 3 ∨ k = 4) (W0 : World) (B : Nat) (v : Value) (n : Nat) (xs : List Int) (w : World) (h : w.ownsRow B 27 1 v n (xs.map (Value.int .u64))) (hB : Below B W0 w) (hB0 : B ≤ W0.heap.size) (hx : AllU xs) (hl : n ≤ 4096) (r : Int) (hr : foldReg k xs = r) :
    Calls Tryd.prog 11 #[.int .i64 k, v] w fun e w' => e = .returned (.tuple #[.int .u64 r, .int .i64 0]) ∧ Below B W0 w' := by
  subst hr
  obtain ⟨a, cap, rfl, hs⟩ := OwnRow.toSl h
  refine (fold_any k hk a n cap xs w hs hx (by omega)).mono ?_
  rintro e w' ⟨rfl, hb⟩
  exact ⟨rfl, hB.trans (hb.mono (Nat.le_trans hB0 hB.size))⟩
theorem allU_rot {ys : List Int} (h : AllU ys) (a b c d : Nat) : AllU ([] ++ (ys.drop a).take b ++ (ys.drop c).take d) := by
  intro x hx
  simp only [List.nil_append, List.mem_append] at hx
  rcases hx with hx | hx <;> exact h x (List.mem_of_mem_drop (List.mem_of_mem_take hx))
theorem allU_one {ys : List Int} (h : AllU ys) (c d : Nat) : AllU ([] ++ (ys.drop c).take d) := by
  intro x hx
  rw [List.nil_append] at hx
  exact h x (List.mem_of_mem_drop (List.mem_of_mem_take hx))
theorem mem_one (ys : List Int) (n : Nat) (hn : ys.length = n) (v : Int) : v ∈ ys ↔ v ∈ [] ++ (ys.drop 0).take n := by
  rw [List.drop_zero, List.nil_append, List.take_of_length_le (by omega)]
theorem allU_take {xs : List Int} (h : AllU xs) (m : Nat) : AllU (xs.take m) := fun x hx => h x (List.mem_of_mem_take hx)

set_option maxRecDepth 10000 in
set_option maxHeartbeats 1000000 in
theorem max_few (b off n cap : Nat) (xs : List Int) (turn : Int) (w : World) (ho : Objs w) (hs : SlI .u64 w (some ⟨b, off, none⟩) n xs) (hx : AllU xs) (hn : n ≤ cap) (hc : (cap : Int) ≤ 9223372036854775807) (ht : I64 turn) (hcond : (n : Int) ≤ 20) :
    Calls Tryd.prog 7 #[.slice (some ⟨b, off, none⟩) n cap, .int .i64 turn] w fun e w' => e = .returned (.bool true) ∧ Below w.heap.size w w' := by
  go_enter Tryd.func7, Tryd.ntmps7
  go_wp2_with fail
  refine (awake_any w ho).mono ?_
  rintro e w1 ⟨rfl, hb1⟩
  have HB1 : Hid (Below w.heap.size w w1) := hb1
  have HS1 : Hid (SlI .u64 w1 (some ⟨b, off, none⟩) n (xs.take n)) := (hs.below hb1 (Nat.le_refl _)).first _ (by omega)
  have HX : Hid (AllU (xs.take n)) := allU_take hx _
  clear hs hb1 ho hx
  generalize xs.take n = ys at *
  go_wp2_with fail
  refine (pick14_any turn (n + 1 : Int) ht (by omega) (by omega) w1).mono ?_
  rintro e w1' ⟨rfl, rfl⟩
  obtain ⟨k0, k1⟩ := ipick_bounds turn (n := (n + 1 : Int)) (by omega)
  generalize ipick turn _ = k at *
  obtain ⟨K, rfl⟩ := Int.eq_ofNat_of_zero_le k0
  go_wp2_with fail
  refine (fold_any 3 (by omega) _ _ _ ys w1 HS1.out HX.out (by omega)).mono ?_
  rintro e w2 ⟨rfl, hb2⟩
  have HB2 : Hid (Below w.heap.size w w2) := HB1.out.trans (hb2.mono HB1.out.size)
  have HS2 : Hid (SlI .u64 w2 (some ⟨b, off, none⟩) n ys) := HS1.out.below hb2 (Nat.le_refl _)
  clear hb2 HS1 HB1
  go_wp2_with fail
  by_cases hK : (K : Int) < (n : Int)
  · have n1 : ¬ cap = K := by omega
    have n2 : ¬ K = cap := by omega
    have b1 : (K : Int) ≤ (n : Int) := by omega
    have b2 : ((n : Int)) ≤ (cap : Int) := by omega
    have b3 : (K : Int) ≤ (cap : Int) := by omega
    have hS : Below w2.heap.size w2 w2 := Below.refl _ _
    go_region_held3 (fun w' => Below w2.heap.size w2 w') (first | assumption | exact (Below.refl _ _).drew | exact Below.alloc (by assumption) (by assumption) _)
      (first
        | (refine step_app_u64 (by rfl) _ _ (by rfl) w2.heap.size w2 (.slice none 0 0) (by rfl) 0 [] (World.ownsRow_nil _ _ _ _) (by assumption) (Nat.le_refl _) ⟨b, off + K, none⟩ _ _ (by rfl) ((ys.drop K).take (n - K)) (by rw [List.length_take, List.length_drop, HS2.out.1]; omega) (HS2.out.cellsFrom (by assumption) K _ (by omega)) (by omega) ?_; intro v1 w3 hown1 hb3)
        | (refine step_app_u64 (by rfl) _ _ (by rfl) w2.heap.size w2 _ (by rfl) _ _ (by assumption) (by assumption) (Nat.le_refl _) ⟨b, off + 0, none⟩ _ _ (by rfl) ((ys.drop 0).take K) (by rw [List.length_take, List.length_drop, HS2.out.1]; omega) (HS2.out.cellsFrom (by assumption) 0 _ (by omega)) (by omega) ?_; intro v2 w4 hown2 hb4)
        | (go_at_call 11; refine (fold_own 3 (by omega) w2 w2.heap.size _ _ _ _ (by assumption) (by assumption) (Nat.le_refl _) (allU_rot HX.out _ _ _ _) (by omega) (foldReg 3 ys) (max_same _ _ (allU_rot HX.out _ _ _ _) HX.out (fun v => (mem_rot ys K _ HS2.out.1 v).symm))).mono ?_; rintro e w5 ⟨rfl, hb5⟩))
    have HB5 : Hid (Below w.heap.size w w5) := HB2.out.trans (hb5.mono HB2.out.size)
    have HS5 : Hid (SlI .u64 w5 (some ⟨b, off, none⟩) n ys) := HS2.out.below hb5 (Nat.le_refl _)
    have HHAS : Hid (hasB (foldReg 3 ys) ys n = true) := hasB_all ys _ HS2.out.1
    have HL : Hid (∀ v, (v = 0 ∨ v ∈ ys) → bLess (foldReg 3 ys) v = false) := fun v h => max_less ys v h
    have HUA : Hid (U64 (foldReg 3 ys)) := u64_foldReg 3 ys HX.out
    clear HS2 HB2 hb5
    generalize foldReg 3 ys = A at *
    go_wp2_with fail
    go_loopw [13, 12] (fun i h wr => ∃ k : Nat, i = .int .i64 k ∧ (k : Int) ≤ (n : Int) ∧ Hid (h = .bool (hasB A ys k)) ∧ Hid (∃ q, wr = w5.drewN q)) (fun i _ _ => ((n : Int) - intOf i).toNat)
    case atStart => exact ⟨0, rfl, by omega, by (show _ = _; unfold hasB; simp), 0, rfl⟩
    case round =>
      obtain ⟨k, rfl, hk, HH, HW⟩ := hrel
      obtain ⟨q, rfl⟩ := HW.out
      have hh := HH.out
      subst hh
      by_cases hlt : (k : Int) < (n : Int)
      · obtain ⟨b', off', he, hb, hcc⟩ := HS5.out.2.resolve_left (by omega)
        cases he
        have hck := hcc k (by omega)
        have hkl : k < ys.length := by rw [HS5.out.1]; omega
        have HV : Hid (U64 (ys.getD k 0)) := HX.out.at hkl
        have HLv : Hid (bLess A (ys.getD k 0) = false) := HL.out _ (.inr (by rw [List.getD_eq_getElem?_getD, List.getElem?_eq_getElem hkl]; exact List.getElem_mem hkl))
        have HST : Hid (hasB A ys (k + 1) = (hasB A ys k || (A == iCanon (ys.getD k 0)))) := hasB_step hkl
        clear hcc hkl
        generalize ys.getD k 0 = v at *
        have hv := HV.out
        have hA := HUA.out
        cases hh : hasB A ys k
        · rw [hh] at HST
          go_wp2_with (first
            | (go_at_call 26; refine (canon_any _ hv _).mono ?_; rintro e w' ⟨rfl, rfl⟩)
            | (go_at_call 27; refine (less_any _ _ hA hv _).mono ?_; rintro e w' ⟨rfl, rfl⟩; rw [HLv.out]))
          go_roundw
          case rel => exact ⟨k + 1, by go_num, by omega, by (show _ = _; rw [HST.out]; rfl), q, rfl⟩
          case measure => simp [intOf]; omega
        · rw [hh] at HST
          go_wp2_with (first
            | (go_at_call 26; refine (canon_any _ hv _).mono ?_; rintro e w' ⟨rfl, rfl⟩)
            | (go_at_call 27; refine (less_any _ _ hA hv _).mono ?_; rintro e w' ⟨rfl, rfl⟩; rw [HLv.out]))
          go_roundw
          case rel => exact ⟨k + 1, by go_num, by omega, by (show _ = _; rw [HST.out]; rfl), q, rfl⟩
          case measure => simp [intOf]; omega
      · have hkn : k = n := by omega
        subst hkn
        have hA := HUA.out
        have hL0 := HL.out 0 (.inl rfl)
        rw [HHAS.out]
        go_wp2_with (go_at_call 27; refine (less_any _ _ hA (u64_of (by decide)) _).mono ?_; rintro e w' ⟨rfl, rfl⟩; rw [hL0])
        go_ret
        exact ⟨rfl, HB5.out.trans ((quiet_below ⟨_, rfl⟩ : Below w5.heap.size w5 (w5.drewN q)).mono HB5.out.size)⟩
  · have hKM : n = K := by omega
    subst hKM
    have b2 : ((n : Int)) ≤ (cap : Int) := by omega
    have hS : Below w2.heap.size w2 w2 := Below.refl _ _
    by_cases hcn : n = cap
    · subst hcn
      go_region_held3 (fun w' => Below w2.heap.size w2 w') (first | assumption | exact (Below.refl _ _).drew | exact Below.alloc (by assumption) (by assumption) _)
        (first
          | (refine step_app_u64 (by rfl) _ _ (by rfl) w2.heap.size w2 (.slice none 0 0) (by rfl) 0 [] (World.ownsRow_nil _ _ _ _) (by assumption) (Nat.le_refl _) ⟨b, off + 0, none⟩ _ _ (by rfl) ((ys.drop 0).take n) (by rw [List.length_take, List.length_drop, HS2.out.1]; omega) (HS2.out.cellsFrom (by assumption) 0 _ (by omega)) (by omega) ?_; intro v2 w4 hown2 hb4)
          | (go_at_call 11; refine (fold_own 3 (by omega) w2 w2.heap.size _ _ _ _ (by assumption) (by assumption) (Nat.le_refl _) (allU_one HX.out _ _) (by omega) (foldReg 3 ys) (max_same _ _ (allU_one HX.out _ _) HX.out (fun v => (mem_one ys _ HS2.out.1 v).symm))).mono ?_; rintro e w5 ⟨rfl, hb5⟩))
      have HB5 : Hid (Below w.heap.size w w5) := HB2.out.trans (hb5.mono HB2.out.size)
      have HS5 : Hid (SlI .u64 w5 (some ⟨b, off, none⟩) n ys) := HS2.out.below hb5 (Nat.le_refl _)
      have HHAS : Hid (hasB (foldReg 3 ys) ys n = true) := hasB_all ys _ HS2.out.1
      have HL : Hid (∀ v, (v = 0 ∨ v ∈ ys) → bLess (foldReg 3 ys) v = false) := fun v h => max_less ys v h
      have HUA : Hid (U64 (foldReg 3 ys)) := u64_foldReg 3 ys HX.out
      clear HS2 HB2 hb5
      generalize foldReg 3 ys = A at *
      go_wp2_with fail
      go_loopw [13, 12] (fun i h wr => ∃ k : Nat, i = .int .i64 k ∧ (k : Int) ≤ (n : Int) ∧ Hid (h = .bool (hasB A ys k)) ∧ Hid (∃ q, wr = w5.drewN q)) (fun i _ _ => ((n : Int) - intOf i).toNat)
      case atStart => exact ⟨0, rfl, by omega, by (show _ = _; unfold hasB; simp), 0, rfl⟩
      case round =>
        obtain ⟨k, rfl, hk, HH, HW⟩ := hrel
        obtain ⟨q, rfl⟩ := HW.out
        have hh := HH.out
        subst hh
        by_cases hlt : (k : Int) < (n : Int)
        · obtain ⟨b', off', he, hb, hcc⟩ := HS5.out.2.resolve_left (by omega)
          cases he
          have hck := hcc k (by omega)
          have hkl : k < ys.length := by rw [HS5.out.1]; omega
          have HV : Hid (U64 (ys.getD k 0)) := HX.out.at hkl
          have HLv : Hid (bLess A (ys.getD k 0) = false) := HL.out _ (.inr (by rw [List.getD_eq_getElem?_getD, List.getElem?_eq_getElem hkl]; exact List.getElem_mem hkl))
          have HST : Hid (hasB A ys (k + 1) = (hasB A ys k || (A == iCanon (ys.getD k 0)))) := hasB_step hkl
          clear hcc hkl
          generalize ys.getD k 0 = v at *
          have hv := HV.out
          have hA := HUA.out
          cases hh : hasB A ys k
          · rw [hh] at HST
            go_wp2_with (first
              | (go_at_call 26; refine (canon_any _ hv _).mono ?_; rintro e w' ⟨rfl, rfl⟩)
              | (go_at_call 27; refine (less_any _ _ hA hv _).mono ?_; rintro e w' ⟨rfl, rfl⟩; rw [HLv.out]))
            go_roundw
            case rel => exact ⟨k + 1, by go_num, by omega, by (show _ = _; rw [HST.out]; rfl), q, rfl⟩
            case measure => simp [intOf]; omega
          · rw [hh] at HST
            go_wp2_with (first
              | (go_at_call 26; refine (canon_any _ hv _).mono ?_; rintro e w' ⟨rfl, rfl⟩)
              | (go_at_call 27; refine (less_any _ _ hA hv _).mono ?_; rintro e w' ⟨rfl, rfl⟩; rw [HLv.out]))
            go_roundw
            case rel => exact ⟨k + 1, by go_num, by omega, by (show _ = _; rw [HST.out]; rfl), q, rfl⟩
            case measure => simp [intOf]; omega
        · have hkn : k = n := by omega
          subst hkn
          have hA := HUA.out
          have hL0 := HL.out 0 (.inl rfl)
          rw [HHAS.out]
          go_wp2_with (go_at_call 27; refine (less_any _ _ hA (u64_of (by decide)) _).mono ?_; rintro e w' ⟨rfl, rfl⟩; rw [hL0])
          go_ret
          exact ⟨rfl, HB5.out.trans ((quiet_below ⟨_, rfl⟩ : Below w5.heap.size w5 (w5.drewN q)).mono HB5.out.size)⟩
    · have n1 : ¬ cap = n := by omega
      go_region_held3 (fun w' => Below w2.heap.size w2 w') (first | assumption | exact (Below.refl _ _).drew | exact Below.alloc (by assumption) (by assumption) _)
        (first
          | (refine step_app_u64 (by rfl) _ _ (by rfl) w2.heap.size w2 (.slice none 0 0) (by rfl) 0 [] (World.ownsRow_nil _ _ _ _) (by assumption) (Nat.le_refl _) ⟨b, off + 0, none⟩ _ _ (by rfl) ((ys.drop 0).take n) (by rw [List.length_take, List.length_drop, HS2.out.1]; omega) (HS2.out.cellsFrom (by assumption) 0 _ (by omega)) (by omega) ?_; intro v2 w4 hown2 hb4)
          | (go_at_call 11; refine (fold_own 3 (by omega) w2 w2.heap.size _ _ _ _ (by assumption) (by assumption) (Nat.le_refl _) (allU_one HX.out _ _) (by omega) (foldReg 3 ys) (max_same _ _ (allU_one HX.out _ _) HX.out (fun v => (mem_one ys _ HS2.out.1 v).symm))).mono ?_; rintro e w5 ⟨rfl, hb5⟩))
      have HB5 : Hid (Below w.heap.size w w5) := HB2.out.trans (hb5.mono HB2.out.size)
      have HS5 : Hid (SlI .u64 w5 (some ⟨b, off, none⟩) n ys) := HS2.out.below hb5 (Nat.le_refl _)
      have HHAS : Hid (hasB (foldReg 3 ys) ys n = true) := hasB_all ys _ HS2.out.1
      have HL : Hid (∀ v, (v = 0 ∨ v ∈ ys) → bLess (foldReg 3 ys) v = false) := fun v h => max_less ys v h
      have HUA : Hid (U64 (foldReg 3 ys)) := u64_foldReg 3 ys HX.out
      clear HS2 HB2 hb5
      generalize foldReg 3 ys = A at *
      go_wp2_with fail
      go_loopw [13, 12] (fun i h wr => ∃ k : Nat, i = .int .i64 k ∧ (k : Int) ≤ (n : Int) ∧ Hid (h = .bool (hasB A ys k)) ∧ Hid (∃ q, wr = w5.drewN q)) (fun i _ _ => ((n : Int) - intOf i).toNat)
      case atStart => exact ⟨0, rfl, by omega, by (show _ = _; unfold hasB; simp), 0, rfl⟩
      case round =>
        obtain ⟨k, rfl, hk, HH, HW⟩ := hrel
        obtain ⟨q, rfl⟩ := HW.out
        have hh := HH.out
        subst hh
        by_cases hlt : (k : Int) < (n : Int)
        · obtain ⟨b', off', he, hb, hcc⟩ := HS5.out.2.resolve_left (by omega)
          cases he
          have hck := hcc k (by omega)
          have hkl : k < ys.length := by rw [HS5.out.1]; omega
          have HV : Hid (U64 (ys.getD k 0)) := HX.out.at hkl
          have HLv : Hid (bLess A (ys.getD k 0) = false) := HL.out _ (.inr (by rw [List.getD_eq_getElem?_getD, List.getElem?_eq_getElem hkl]; exact List.getElem_mem hkl))
          have HST : Hid (hasB A ys (k + 1) = (hasB A ys k || (A == iCanon (ys.getD k 0)))) := hasB_step hkl
          clear hcc hkl
          generalize ys.getD k 0 = v at *
          have hv := HV.out
          have hA := HUA.out
          cases hh : hasB A ys k
          · rw [hh] at HST
            go_wp2_with (first
              | (go_at_call 26; refine (canon_any _ hv _).mono ?_; rintro e w' ⟨rfl, rfl⟩)
              | (go_at_call 27; refine (less_any _ _ hA hv _).mono ?_; rintro e w' ⟨rfl, rfl⟩; rw [HLv.out]))
            go_roundw
            case rel => exact ⟨k + 1, by go_num, by omega, by (show _ = _; rw [HST.out]; rfl), q, rfl⟩
            case measure => simp [intOf]; omega
          · rw [hh] at HST
            go_wp2_with (first
              | (go_at_call 26; refine (canon_any _ hv _).mono ?_; rintro e w' ⟨rfl, rfl⟩)
              | (go_at_call 27; refine (less_any _ _ hA hv _).mono ?_; rintro e w' ⟨rfl, rfl⟩; rw [HLv.out]))
            go_roundw
            case rel => exact ⟨k + 1, by go_num, by omega, by (show _ = _; rw [HST.out]; rfl), q, rfl⟩
            case measure => simp [intOf]; omega
        · have hkn : k = n := by omega
          subst hkn
          have hA := HUA.out
          have hL0 := HL.out 0 (.inl rfl)
          rw [HHAS.out]
          go_wp2_with (go_at_call 27; refine (less_any _ _ hA (u64_of (by decide)) _).mono ?_; rintro e w' ⟨rfl, rfl⟩; rw [hL0])
          go_ret
          exact ⟨rfl, HB5.out.trans ((quiet_below ⟨_, rfl⟩ : Below w5.heap.size w5 (w5.drewN q)).mono HB5.out.size)⟩

set_option maxRecDepth 10000 in
set_option maxHeartbeats 1000000 in
theorem max_many (b off n cap : Nat) (xs : List Int) (turn : Int) (w : World) (ho : Objs w) (hs : SlI .u64 w (some ⟨b, off, none⟩) n xs) (hx : AllU xs) (hn : n ≤ cap) (hc : (cap : Int) ≤ 9223372036854775807) (ht : I64 turn) (hcond : 20 < (n : Int)) :
    Calls Tryd.prog 7 #[.slice (some ⟨b, off, none⟩) n cap, .int .i64 turn] w fun e w' => e = .returned (.bool true) ∧ Below w.heap.size w w' := by
  go_enter Tryd.func7, Tryd.ntmps7
  go_wp2_with fail
  refine (awake_any w ho).mono ?_
  rintro e w1 ⟨rfl, hb1⟩
  have HB1 : Hid (Below w.heap.size w w1) := hb1
  have HS1 : Hid (SlI .u64 w1 (some ⟨b, off, none⟩) 20 (xs.take 20)) := (hs.below hb1 (Nat.le_refl _)).first _ (by omega)
  have HX : Hid (AllU (xs.take 20)) := allU_take hx _
  clear hs hb1 ho hx
  generalize xs.take 20 = ys at *
  go_wp2_with fail
  refine (pick14_any turn (21 : Int) ht (by omega) (by omega) w1).mono ?_
  rintro e w1' ⟨rfl, rfl⟩
  obtain ⟨k0, k1⟩ := ipick_bounds turn (n := (21 : Int)) (by omega)
  generalize ipick turn _ = k at *
  obtain ⟨K, rfl⟩ := Int.eq_ofNat_of_zero_le k0
  go_wp2_with fail
  refine (fold_any 3 (by omega) _ _ _ ys w1 HS1.out HX.out (by omega)).mono ?_
  rintro e w2 ⟨rfl, hb2⟩
  have HB2 : Hid (Below w.heap.size w w2) := HB1.out.trans (hb2.mono HB1.out.size)
  have HS2 : Hid (SlI .u64 w2 (some ⟨b, off, none⟩) 20 ys) := HS1.out.below hb2 (Nat.le_refl _)
  clear hb2 HS1 HB1
  go_wp2_with fail
  by_cases hK : (K : Int) < (20 : Int)
  · have n1 : ¬ cap = K := by omega
    have n2 : ¬ K = cap := by omega
    have b1 : (K : Int) ≤ (20 : Int) := by omega
    have b2 : ((20 : Int)) ≤ (cap : Int) := by omega
    have b3 : (K : Int) ≤ (cap : Int) := by omega
    have hS : Below w2.heap.size w2 w2 := Below.refl _ _
    go_region_held3 (fun w' => Below w2.heap.size w2 w') (first | assumption | exact (Below.refl _ _).drew | exact Below.alloc (by assumption) (by assumption) _)
      (first
        | (refine step_app_u64 (by rfl) _ _ (by rfl) w2.heap.size w2 (.slice none 0 0) (by rfl) 0 [] (World.ownsRow_nil _ _ _ _) (by assumption) (Nat.le_refl _) ⟨b, off + K, none⟩ _ _ (by rfl) ((ys.drop K).take (20 - K)) (by rw [List.length_take, List.length_drop, HS2.out.1]; omega) (HS2.out.cellsFrom (by assumption) K _ (by omega)) (by omega) ?_; intro v1 w3 hown1 hb3)
        | (refine step_app_u64 (by rfl) _ _ (by rfl) w2.heap.size w2 _ (by rfl) _ _ (by assumption) (by assumption) (Nat.le_refl _) ⟨b, off + 0, none⟩ _ _ (by rfl) ((ys.drop 0).take K) (by rw [List.length_take, List.length_drop, HS2.out.1]; omega) (HS2.out.cellsFrom (by assumption) 0 _ (by omega)) (by omega) ?_; intro v2 w4 hown2 hb4)
        | (go_at_call 11; refine (fold_own 3 (by omega) w2 w2.heap.size _ _ _ _ (by assumption) (by assumption) (Nat.le_refl _) (allU_rot HX.out _ _ _ _) (by omega) (foldReg 3 ys) (max_same _ _ (allU_rot HX.out _ _ _ _) HX.out (fun v => (mem_rot ys K _ HS2.out.1 v).symm))).mono ?_; rintro e w5 ⟨rfl, hb5⟩))
    have HB5 : Hid (Below w.heap.size w w5) := HB2.out.trans (hb5.mono HB2.out.size)
    have HS5 : Hid (SlI .u64 w5 (some ⟨b, off, none⟩) 20 ys) := HS2.out.below hb5 (Nat.le_refl _)
    have HHAS : Hid (hasB (foldReg 3 ys) ys 20 = true) := hasB_all ys _ HS2.out.1
    have HL : Hid (∀ v, (v = 0 ∨ v ∈ ys) → bLess (foldReg 3 ys) v = false) := fun v h => max_less ys v h
    have HUA : Hid (U64 (foldReg 3 ys)) := u64_foldReg 3 ys HX.out
    clear HS2 HB2 hb5
    generalize foldReg 3 ys = A at *
    go_wp2_with fail
    go_loopw [13, 12] (fun i h wr => ∃ k : Nat, i = .int .i64 k ∧ (k : Int) ≤ (20 : Int) ∧ Hid (h = .bool (hasB A ys k)) ∧ Hid (∃ q, wr = w5.drewN q)) (fun i _ _ => ((20 : Int) - intOf i).toNat)
    case atStart => exact ⟨0, rfl, by omega, by (show _ = _; unfold hasB; simp), 0, rfl⟩
    case round =>
      obtain ⟨k, rfl, hk, HH, HW⟩ := hrel
      obtain ⟨q, rfl⟩ := HW.out
      have hh := HH.out
      subst hh
      by_cases hlt : (k : Int) < (20 : Int)
      · obtain ⟨b', off', he, hb, hcc⟩ := HS5.out.2.resolve_left (by omega)
        cases he
        have hck := hcc k (by omega)
        have hkl : k < ys.length := by rw [HS5.out.1]; omega
        have HV : Hid (U64 (ys.getD k 0)) := HX.out.at hkl
        have HLv : Hid (bLess A (ys.getD k 0) = false) := HL.out _ (.inr (by rw [List.getD_eq_getElem?_getD, List.getElem?_eq_getElem hkl]; exact List.getElem_mem hkl))
        have HST : Hid (hasB A ys (k + 1) = (hasB A ys k || (A == iCanon (ys.getD k 0)))) := hasB_step hkl
        clear hcc hkl
        generalize ys.getD k 0 = v at *
        have hv := HV.out
        have hA := HUA.out
        cases hh : hasB A ys k
        · rw [hh] at HST
          go_wp2_with (first
            | (go_at_call 26; refine (canon_any _ hv _).mono ?_; rintro e w' ⟨rfl, rfl⟩)
            | (go_at_call 27; refine (less_any _ _ hA hv _).mono ?_; rintro e w' ⟨rfl, rfl⟩; rw [HLv.out]))
          go_roundw
          case rel => exact ⟨k + 1, by go_num, by omega, by (show _ = _; rw [HST.out]; rfl), q, rfl⟩
          case measure => simp [intOf]; omega
        · rw [hh] at HST
          go_wp2_with (first
            | (go_at_call 26; refine (canon_any _ hv _).mono ?_; rintro e w' ⟨rfl, rfl⟩)
            | (go_at_call 27; refine (less_any _ _ hA hv _).mono ?_; rintro e w' ⟨rfl, rfl⟩; rw [HLv.out]))
          go_roundw
          case rel => exact ⟨k + 1, by go_num, by omega, by (show _ = _; rw [HST.out]; rfl), q, rfl⟩
          case measure => simp [intOf]; omega
      · have hkn : k = 20 := by omega
        subst hkn
        have hA := HUA.out
        have hL0 := HL.out 0 (.inl rfl)
        rw [HHAS.out]
        go_wp2_with (go_at_call 27; refine (less_any _ _ hA (u64_of (by decide)) _).mono ?_; rintro e w' ⟨rfl, rfl⟩; rw [hL0])
        go_ret
        exact ⟨rfl, HB5.out.trans ((quiet_below ⟨_, rfl⟩ : Below w5.heap.size w5 (w5.drewN q)).mono HB5.out.size)⟩
  · have hKM : 20 = K := by omega
    subst hKM
    have b2 : ((20 : Int)) ≤ (cap : Int) := by omega
    have hS : Below w2.heap.size w2 w2 := Below.refl _ _
    by_cases hcn : 20 = cap
    · subst hcn
      go_region_held3 (fun w' => Below w2.heap.size w2 w') (first | assumption | exact (Below.refl _ _).drew | exact Below.alloc (by assumption) (by assumption) _)
        (first
          | (refine step_app_u64 (by rfl) _ _ (by rfl) w2.heap.size w2 (.slice none 0 0) (by rfl) 0 [] (World.ownsRow_nil _ _ _ _) (by assumption) (Nat.le_refl _) ⟨b, off + 0, none⟩ _ _ (by rfl) ((ys.drop 0).take 20) (by rw [List.length_take, List.length_drop, HS2.out.1]; omega) (HS2.out.cellsFrom (by assumption) 0 _ (by omega)) (by omega) ?_; intro v2 w4 hown2 hb4)
          | (go_at_call 11; refine (fold_own 3 (by omega) w2 w2.heap.size _ _ _ _ (by assumption) (by assumption) (Nat.le_refl _) (allU_one HX.out _ _) (by omega) (foldReg 3 ys) (max_same _ _ (allU_one HX.out _ _) HX.out (fun v => (mem_one ys _ HS2.out.1 v).symm))).mono ?_; rintro e w5 ⟨rfl, hb5⟩))
      have HB5 : Hid (Below w.heap.size w w5) := HB2.out.trans (hb5.mono HB2.out.size)
      have HS5 : Hid (SlI .u64 w5 (some ⟨b, off, none⟩) 20 ys) := HS2.out.below hb5 (Nat.le_refl _)
      have HHAS : Hid (hasB (foldReg 3 ys) ys 20 = true) := hasB_all ys _ HS2.out.1
      have HL : Hid (∀ v, (v = 0 ∨ v ∈ ys) → bLess (foldReg 3 ys) v = false) := fun v h => max_less ys v h
      have HUA : Hid (U64 (foldReg 3 ys)) := u64_foldReg 3 ys HX.out
      clear HS2 HB2 hb5
      generalize foldReg 3 ys = A at *
      go_wp2_with fail
      go_loopw [13, 12] (fun i h wr => ∃ k : Nat, i = .int .i64 k ∧ (k : Int) ≤ (20 : Int) ∧ Hid (h = .bool (hasB A ys k)) ∧ Hid (∃ q, wr = w5.drewN q)) (fun i _ _ => ((20 : Int) - intOf i).toNat)
      case atStart => exact ⟨0, rfl, by omega, by (show _ = _; unfold hasB; simp), 0, rfl⟩
      case round =>
        obtain ⟨k, rfl, hk, HH, HW⟩ := hrel
        obtain ⟨q, rfl⟩ := HW.out
        have hh := HH.out
        subst hh
        by_cases hlt : (k : Int) < (20 : Int)
        · obtain ⟨b', off', he, hb, hcc⟩ := HS5.out.2.resolve_left (by omega)
          cases he
          have hck := hcc k (by omega)
          have hkl : k < ys.length := by rw [HS5.out.1]; omega
          have HV : Hid (U64 (ys.getD k 0)) := HX.out.at hkl
          have HLv : Hid (bLess A (ys.getD k 0) = false) := HL.out _ (.inr (by rw [List.getD_eq_getElem?_getD, List.getElem?_eq_getElem hkl]; exact List.getElem_mem hkl))
          have HST : Hid (hasB A ys (k + 1) = (hasB A ys k || (A == iCanon (ys.getD k 0)))) := hasB_step hkl
          clear hcc hkl
          generalize ys.getD k 0 = v at *
          have hv := HV.out
          have hA := HUA.out
          cases hh : hasB A ys k
          · rw [hh] at HST
            go_wp2_with (first
              | (go_at_call 26; refine (canon_any _ hv _).mono ?_; rintro e w' ⟨rfl, rfl⟩)
              | (go_at_call 27; refine (less_any _ _ hA hv _).mono ?_; rintro e w' ⟨rfl, rfl⟩; rw [HLv.out]))
            go_roundw
            case rel => exact ⟨k + 1, by go_num, by omega, by (show _ = _; rw [HST.out]; rfl), q, rfl⟩
            case measure => simp [intOf]; omega
          · rw [hh] at HST
            go_wp2_with (first
              | (go_at_call 26; refine (canon_any _ hv _).mono ?_; rintro e w' ⟨rfl, rfl⟩)
              | (go_at_call 27; refine (less_any _ _ hA hv _).mono ?_; rintro e w' ⟨rfl, rfl⟩; rw [HLv.out]))
            go_roundw
            case rel => exact ⟨k + 1, by go_num, by omega, by (show _ = _; rw [HST.out]; rfl), q, rfl⟩
            case measure => simp [intOf]; omega
        · have hkn : k = 20 := by omega
          subst hkn
          have hA := HUA.out
          have hL0 := HL.out 0 (.inl rfl)
          rw [HHAS.out]
          go_wp2_with (go_at_call 27; refine (less_any _ _ hA (u64_of (by decide)) _).mono ?_; rintro e w' ⟨rfl, rfl⟩; rw [hL0])
          go_ret
          exact ⟨rfl, HB5.out.trans ((quiet_below ⟨_, rfl⟩ : Below w5.heap.size w5 (w5.drewN q)).mono HB5.out.size)⟩
    · have n1 : ¬ cap = 20 := by omega
      go_region_held3 (fun w' => Below w2.heap.size w2 w') (first | assumption | exact (Below.refl _ _).drew | exact Below.alloc (by assumption) (by assumption) _)
        (first
          | (refine step_app_u64 (by rfl) _ _ (by rfl) w2.heap.size w2 (.slice none 0 0) (by rfl) 0 [] (World.ownsRow_nil _ _ _ _) (by assumption) (Nat.le_refl _) ⟨b, off + 0, none⟩ _ _ (by rfl) ((ys.drop 0).take 20) (by rw [List.length_take, List.length_drop, HS2.out.1]; omega) (HS2.out.cellsFrom (by assumption) 0 _ (by omega)) (by omega) ?_; intro v2 w4 hown2 hb4)
          | (go_at_call 11; refine (fold_own 3 (by omega) w2 w2.heap.size _ _ _ _ (by assumption) (by assumption) (Nat.le_refl _) (allU_one HX.out _ _) (by omega) (foldReg 3 ys) (max_same _ _ (allU_one HX.out _ _) HX.out (fun v => (mem_one ys _ HS2.out.1 v).symm))).mono ?_; rintro e w5 ⟨rfl, hb5⟩))
      have HB5 : Hid (Below w.heap.size w w5) := HB2.out.trans (hb5.mono HB2.out.size)
      have HS5 : Hid (SlI .u64 w5 (some ⟨b, off, none⟩) 20 ys) := HS2.out.below hb5 (Nat.le_refl _)
      have HHAS : Hid (hasB (foldReg 3 ys) ys 20 = true) := hasB_all ys _ HS2.out.1
      have HL : Hid (∀ v, (v = 0 ∨ v ∈ ys) → bLess (foldReg 3 ys) v = false) := fun v h => max_less ys v h
      have HUA : Hid (U64 (foldReg 3 ys)) := u64_foldReg 3 ys HX.out
      clear HS2 HB2 hb5
      generalize foldReg 3 ys = A at *
      go_wp2_with fail
      go_loopw [13, 12] (fun i h wr => ∃ k : Nat, i = .int .i64 k ∧ (k : Int) ≤ (20 : Int) ∧ Hid (h = .bool (hasB A ys k)) ∧ Hid (∃ q, wr = w5.drewN q)) (fun i _ _ => ((20 : Int) - intOf i).toNat)
      case atStart => exact ⟨0, rfl, by omega, by (show _ = _; unfold hasB; simp), 0, rfl⟩
      case round =>
        obtain ⟨k, rfl, hk, HH, HW⟩ := hrel
        obtain ⟨q, rfl⟩ := HW.out
        have hh := HH.out
        subst hh
        by_cases hlt : (k : Int) < (20 : Int)
        · obtain ⟨b', off', he, hb, hcc⟩ := HS5.out.2.resolve_left (by omega)
          cases he
          have hck := hcc k (by omega)
          have hkl : k < ys.length := by rw [HS5.out.1]; omega
          have HV : Hid (U64 (ys.getD k 0)) := HX.out.at hkl
          have HLv : Hid (bLess A (ys.getD k 0) = false) := HL.out _ (.inr (by rw [List.getD_eq_getElem?_getD, List.getElem?_eq_getElem hkl]; exact List.getElem_mem hkl))
          have HST : Hid (hasB A ys (k + 1) = (hasB A ys k || (A == iCanon (ys.getD k 0)))) := hasB_step hkl
          clear hcc hkl
          generalize ys.getD k 0 = v at *
          have hv := HV.out
          have hA := HUA.out
          cases hh : hasB A ys k
          · rw [hh] at HST
            go_wp2_with (first
              | (go_at_call 26; refine (canon_any _ hv _).mono ?_; rintro e w' ⟨rfl, rfl⟩)
              | (go_at_call 27; refine (less_any _ _ hA hv _).mono ?_; rintro e w' ⟨rfl, rfl⟩; rw [HLv.out]))
            go_roundw
            case rel => exact ⟨k + 1, by go_num, by omega, by (show _ = _; rw [HST.out]; rfl), q, rfl⟩
            case measure => simp [intOf]; omega
          · rw [hh] at HST
            go_wp2_with (first
              | (go_at_call 26; refine (canon_any _ hv _).mono ?_; rintro e w' ⟨rfl, rfl⟩)
              | (go_at_call 27; refine (less_any _ _ hA hv _).mono ?_; rintro e w' ⟨rfl, rfl⟩; rw [HLv.out]))
            go_roundw
            case rel => exact ⟨k + 1, by go_num, by omega, by (show _ = _; rw [HST.out]; rfl), q, rfl⟩
            case measure => simp [intOf]; omega
        · have hkn : k = 20 := by omega
          subst hkn
          have hA := HUA.out
          have hL0 := HL.out 0 (.inl rfl)
          rw [HHAS.out]
          go_wp2_with (go_at_call 27; refine (less_any _ _ hA (u64_of (by decide)) _).mono ?_; rintro e w' ⟨rfl, rfl⟩; rw [hL0])
          go_ret
          exact ⟨rfl, HB5.out.trans ((quiet_below ⟨_, rfl⟩ : Below w5.heap.size w5 (w5.drewN q)).mono HB5.out.size)⟩
end Go.Proofs.YtpjohbnnjhkjoaaDoor
