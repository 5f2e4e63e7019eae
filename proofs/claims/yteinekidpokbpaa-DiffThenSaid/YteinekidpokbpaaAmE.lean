/- Operations that lead to memory, and loads: they do what the machine says. -/
import Derived.Test.YteinekidpokbpaaAmD
namespace Go.Proofs.Yteinekidpokbpaa.Am
set_option linter.unusedVariables false
set_option linter.unusedSimpArgs false
open Go.RowKit

theorem add_at (b o n : Nat) : (⟨b, o, none⟩ : Addr).add n = ⟨b, o + n, none⟩ := by
  unfold Addr.add
  by_cases h : n = 0
  · subst h; simp
  · simp [h]
theorem alive_lens {g : Mem} {k : Nat} (h : g.alive k = true) : ∃ l, lens g k = some (some l) := by
  unfold Mem.alive at h
  split at h
  · rename_i ks xs e; exact ⟨_, lens_of e⟩
  · rename_i cs e; exact ⟨_, lens_of e⟩
  · cases h

section
variable {P : Program} {w : World} {I : Nat → Prop} {m : Nat → Option Nat} {L : Nat → Option (Option Nat)}

theorem TV.os_inv {k sz off n l : Nat} {y : Value} (h : TV w I m L (.os k sz off n) y) (hl : L k = some (some l)) :
    0 < sz ∧ (off + n) * sz ≤ l ∧ ((n = 0 ∧ ∃ a, y = .slice a 0 0) ∨ ∃ cap b, m k = some b ∧ y = .slice (some ⟨b, off * sz, none⟩) n cap ∧ (n ≤ cap ∧ n ≤ 9223372036854775807) ∧ Room w b ((off + cap) * sz)) := by
  cases h with
  | osx e => rw [hl] at e; cases e
  | os0 e h hz => rw [hl] at e; cases e; exact ⟨hz, by simpa using h, .inl ⟨rfl, _, rfl⟩⟩
  | os e hm h hc hz hr => rw [hl] at e; cases e; exact ⟨hz, h, .inr ⟨_, _, hm, rfl, hc, hr⟩⟩
theorem TV.mp_inv {k l : Nat} {y : Value} (h : TV w I m L (.mp k) y) (hl : L k = some (some l)) : ∃ b, m k = some b ∧ y = .map (some b) := by
  cases h with
  | mpx e => rw [hl] at e; cases e
  | mp e hm => exact ⟨_, hm, rfl⟩
theorem TV.op_inv {k b st i e l : Nat} {y : Value} (h : TV w I m L (.op k b st i e) y) (hl : L k = some (some l)) : b + i * st + e ≤ l ∧ ∃ bb, m k = some bb ∧ y = .pointer (some ⟨bb, b + i * st, none⟩) := by
  cases h with
  | opx e => rw [hl] at e; cases e
  | op e hm h => rw [hl] at e; cases e; exact ⟨h, _, hm, rfl⟩
theorem TV.fl_inv {ks : List IntKind} {n : Nat} {xs : List Int} {y : Value} (h : TV w I m L (.fl ks n xs) y) :
    (n = 0 ∧ xs = [] ∧ ∃ a cap, y = .slice a 0 cap) ∨ ∃ b off cap, y = .slice (some ⟨b, off, none⟩) n cap ∧ I b ∧ b < w.heap.size ∧ ks ≠ [] ∧ xs.length = n * ks.length ∧ (n ≤ cap ∧ n ≤ 9223372036854775807) ∧ 0 < n ∧ FlatAt w b off ks xs := by
  cases h with
  | fl0 => exact .inl ⟨rfl, rfl, _, _, rfl⟩
  | fl hI hb hk hn hc hp h => exact .inr ⟨_, _, _, rfl, hI, hb, hk, hn, hc, hp, h⟩
theorem TV.sl_inv {n sz : Nat} {cs : List T} {y : Value} (h : TV w I m L (.sl n sz cs) y) :
    (n = 0 ∧ cs = [] ∧ ∃ a cap, y = .slice a 0 cap) ∨ ∃ b off cap vs, y = .slice (some ⟨b, off, none⟩) n cap ∧ I b ∧ b < w.heap.size ∧ cs.length = n * sz ∧ (n ≤ cap ∧ n ≤ 9223372036854775807) ∧ 0 < n ∧ TVs w I m L cs vs ∧ CellsAt w b off vs := by
  cases h with
  | sl0 => exact .inl ⟨rfl, rfl, _, _, rfl⟩
  | sl hI hb hn hc hp hv h => exact .inr ⟨_, _, _, _, rfl, hI, hb, hn, hc, hp, hv, h⟩

theorem run_indexAt_slice {t : TypeId} {e : TypeId} {s b off n cap : Nat} {kd : IntKind} {i : Int} (hu : P.underlying t = some (.slice e)) (hs : sz? P e = some s) (h0 : 0 ≤ i) (h1 : i < n) :
    (Instr.indexAt t (.slice (some ⟨b, off, none⟩) n cap) (.int kd i)).run P w = .ok (.pointer (some ⟨b, off + i.toNat * s, none⟩)) w := by
  simp [Instr.indexAt, asIntOf, run_underlying, hu, h0, h1, sz_some hs, add_at]
theorem run_indexAt_array {t : TypeId} {e : TypeId} {s b off n : Nat} {kd : IntKind} {i : Int} (hu : P.underlying t = some (.array n e)) (hs : sz? P e = some s) (h0 : 0 ≤ i) (h1 : i < n) :
    (Instr.indexAt t (.pointer (some ⟨b, off, none⟩)) (.int kd i)).run P w = .ok (.pointer (some ⟨b, off + i.toNat * s, none⟩)) w := by
  simp [Instr.indexAt, asIntOf, run_underlying, hu, h0, h1, sz_some hs, add_at, Instr.sureAddr]

theorem TV.fp_inv {ks : List IntKind} {xs : List Int} {b0 st i e : Nat} {y : Value} (h : TV w I m L (.fp ks xs b0 st i e) y) :
    ∃ b off, y = .pointer (some ⟨b, off + (b0 + i * st), none⟩) ∧ I b ∧ b < w.heap.size ∧ ks ≠ [] ∧ b0 + i * st + e ≤ xs.length ∧ FlatAt w b off ks xs := by
  cases h with | fp hI hb hk he h => exact ⟨_, _, rfl, hI, hb, hk, he, h⟩
theorem TV.sp_inv {cs : List T} {i : Nat} {y : Value} (h : TV w I m L (.sp cs i) y) :
    ∃ b off vs, y = .pointer (some ⟨b, off + i, none⟩) ∧ I b ∧ b < w.heap.size ∧ TVs w I m L cs vs ∧ CellsAt w b off vs := by
  cases h with | sp hI hb hv h => exact ⟨_, _, _, rfl, hI, hb, hv, h⟩
end

theorem mul_lt_of {i n s : Nat} (h : i < n) : i * s + s ≤ n * s := by
  have : (i + 1) * s ≤ n * s := Nat.mul_le_mul_right s h
  rw [Nat.add_mul, Nat.one_mul] at this; exact this

theorem idxN_mul {j q st s : Nat} (h : st % s = 0) : idxN j (st / s) q * s = j * st + q * s := by
  rw [idxN_eq, Nat.add_mul, Nat.mul_assoc, Nat.div_mul_cancel (Nat.dvd_of_mod_eq_zero h)]
section
variable {P : Program} {w : World} {I : Nat → Prop} {m : Nat → Option Nat} {g : Mem}
theorem indexAddrT_ok {t : TypeId} {x i : T} {lit : Bool} {vx vi : Value} {o : Out} (h : indexAddrT P g t x i lit = some o) (ho : o.ok)
    (hx : TV w I m (lens g) x vx) (hi : TV w I m (lens g) i vi) : PureOk P (Instr.indexAt t vx vi) w I m (lens g) o := by
  unfold indexAddrT at h
  split at h
  · -- fl
    rename_i e ks n xs kd q hu
    obtain ⟨rfl, -⟩ := hi.v_inv
    split at h
    · rename_i s hs
      split at h
      · rename_i hsk; rw [Nat.beq_eq] at hsk
        refine pureC h ho fun hq => ?_
        rcases hx.fl_inv with ⟨rfl, rfl, a, cap, rfl⟩ | ⟨b, off, cap, rfl, hI, hb, hk, hn, hc, hp, hf⟩
        · omega
        · refine ⟨_, run_indexAt_slice hu hs hq.1 hq.2, ?_⟩
          rw [show off + q.toNat * s = off + (0 + q.toNat * s) by omega]
          refine .fp hI hb hk ?_ hf
          have := mul_lt_of (s := s) (show q.toNat < n by omega)
          rw [hn, ← hsk]; omega
      · cases h
    · cases h
  · -- sl
    rename_i e n sz cs kd q hu
    obtain ⟨rfl, -⟩ := hi.v_inv
    split at h
    · rename_i s hs
      split at h
      · refine pureC h ho fun hq => ?_
        rcases hx.sl_inv with ⟨rfl, rfl, a, cap, rfl⟩ | ⟨b, off, cap, vs, rfl, hI, hb, hn, hc, hp, hv, hf⟩
        · omega
        · exact ⟨_, run_indexAt_slice hu hs hq.1 hq.2, .sp hI hb hv hf⟩
      · cases h
    · cases h
  · -- os
    rename_i e k sz off n kd q hu
    obtain ⟨rfl, -⟩ := hi.v_inv
    split at h
    · rename_i s hs
      split at h
      · rename_i hsk
        simp only [Bool.and_eq_true, Nat.beq_eq] at hsk
        obtain ⟨hsk, hal⟩ := hsk
        obtain ⟨l, hl⟩ := alive_lens hal
        refine pureC h ho fun hq => ?_
        obtain ⟨hz, hle, h3⟩ := hx.os_inv hl
        rcases h3 with ⟨rfl, a, rfl⟩ | ⟨cap, bb, hm, rfl, hc, hr⟩
        · omega
        · refine ⟨_, run_indexAt_slice hu hs hq.1 hq.2, ?_⟩
          subst hsk
          rw [show addN off q.toNat = off + q.toNat from by unfold addN; cases e : Nat.beq off 0 with | false => rfl | true => rw [Nat.eq_of_beq_eq_true e]; simp]
          rw [show off * s + q.toNat * s = 0 + (off + q.toNat) * s by rw [Nat.add_mul]; omega]
          refine .op hl hm ?_
          have := mul_lt_of (s := s) (show off + q.toNat < off + n by omega)
          omega
      · cases h
    · cases h
  · -- array behind fp
    rename_i n e ks xs b st j wd kd q hu
    obtain ⟨rfl, -⟩ := hi.v_inv
    split at h
    · rename_i s hs
      obtain ⟨bb, off, rfl, hI, hb, hk, he, hf⟩ := hx.fp_inv
      cases lit
      · simp only [cond_false] at h
        split at h
        · rename_i hc
          simp only [Bool.and_eq_true, Nat.beq_eq, Nat.ble_eq] at hc
          obtain ⟨h0, hc⟩ := hc
          have e := idxN_mul (j := j) (q := q.toNat) h0
          refine pureC h ho fun hq => ?_
          refine ⟨_, run_indexAt_array hu hs hq.1 hq.2, ?_⟩
          rw [show off + (b + j * st) + q.toNat * s = off + (b + idxN j (st / s) q.toNat * s) by omega]
          refine .fp hI hb hk ?_ hf
          have := mul_lt_of (s := s) (show q.toNat < n by omega)
          omega
        · cases h
      · simp only [cond_true] at h
        split at h
        · rename_i hc
          rw [Nat.ble_eq, Nat.add_mul] at hc
          refine pureC h ho fun hq => ?_
          refine ⟨_, run_indexAt_array hu hs hq.1 hq.2, ?_⟩
          rw [show off + (b + j * st) + q.toNat * s = off + (b + q.toNat * s + j * st) by omega]
          exact .fp hI hb hk (by omega) hf
        · cases h
    · cases h
  · -- array behind sp
    rename_i n e cs j kd q hu
    obtain ⟨rfl, -⟩ := hi.v_inv
    split at h
    · rename_i s hs
      obtain ⟨bb, off, vs, rfl, hI, hb, hv, hf⟩ := hx.sp_inv
      refine pureC h ho fun hq => ⟨_, run_indexAt_array hu hs hq.1 hq.2, ?_⟩
      rw [Nat.add_assoc]
      exact .sp hI hb hv hf
    · cases h
  · -- array behind op
    rename_i n e k b st j wd kd q hu
    obtain ⟨rfl, -⟩ := hi.v_inv
    split at h
    · rename_i s hs
      split at h
      · rename_i hal
        obtain ⟨l, hl⟩ := alive_lens hal
        obtain ⟨hle, bo, hm, rfl⟩ := hx.op_inv hl
        cases lit
        · simp only [cond_false] at h
          split at h
          · rename_i hc
            simp only [Bool.and_eq_true, Nat.beq_eq, Nat.ble_eq] at hc
            obtain ⟨h0, hc⟩ := hc
            have e := idxN_mul (j := j) (q := q.toNat) h0
            refine pureC h ho fun hq => ⟨_, run_indexAt_array hu hs hq.1 hq.2, ?_⟩
            rw [show b + j * st + q.toNat * s = b + idxN j (st / s) q.toNat * s by omega]
            refine .op hl hm ?_
            have := mul_lt_of (s := s) (show q.toNat < n by omega)
            omega
          · cases h
        · simp only [cond_true] at h
          split at h
          · rename_i hc
            rw [Nat.ble_eq, Nat.add_mul] at hc
            refine pureC h ho fun hq => ⟨_, run_indexAt_array hu hs hq.1 hq.2, ?_⟩
            rw [show b + j * st + q.toNat * s = b + q.toNat * s + j * st by omega]
            exact .op hl hm (by omega)
          · cases h
      · cases h
    · cases h
  · cases h

theorem run_fieldAt {t : TypeId} {fs : Array Field} {fd : Field} {s b off f : Nat} (hu : P.underlying t = some (.struct fs)) (hf : fs[f]? = some fd) (hs : sz? P fd.type = some (s + 1)) :
    (Instr.fieldAt t (.pointer (some ⟨b, off, none⟩)) f).run P w = .ok (.pointer (some ⟨b, off + fd.offset, none⟩)) w := by
  simp [Instr.fieldAt, run_underlying, hu, hf, Instr.sureAddr, fieldPlace, sz_some hs, add_at]
theorem fieldAddrT_ok {t : TypeId} {x : T} {f : Nat} {vx : Value} {o : Out} (h : fieldAddrT P g t x f = some o) (hx : TV w I m (lens g) x vx) : PureOk P (Instr.fieldAt t vx f) w I m (lens g) o := by
  unfold fieldAddrT at h
  split at h
  · rename_i fs hu
    split at h
    · rename_i fd hf
      split at h
      · rename_i s hs
        split at h
        · rename_i ks xs b st i wd
          split at h
          · rename_i hc; rw [Nat.ble_eq] at hc
            obtain ⟨bb, off, rfl, hI, hb, hk, he, hfl⟩ := hx.fp_inv
            refine pureO h ⟨_, run_fieldAt hu hf hs, ?_⟩
            rw [show off + (b + i * st) + fd.offset = off + (b + fd.offset + i * st) by omega]
            exact .fp hI hb hk (by omega) hfl
          · cases h
        · rename_i cs j
          obtain ⟨bb, off, vs, rfl, hI, hb, hv, hfl⟩ := hx.sp_inv
          refine pureO h ⟨_, run_fieldAt hu hf hs, ?_⟩
          rw [Nat.add_assoc]
          exact .sp hI hb hv hfl
        · rename_i k b st i wd
          split at h
          · rename_i hc
            rw [Bool.and_eq_true, Nat.ble_eq] at hc
            obtain ⟨l, hl⟩ := alive_lens hc.1
            obtain ⟨hle, bo, hm, rfl⟩ := hx.op_inv hl
            refine pureO h ⟨_, run_fieldAt hu hf hs, ?_⟩
            rw [show b + i * st + fd.offset = b + fd.offset + i * st by omega]
            exact .op hl hm (by omega)
          · cases h
        · cases h
      · cases h
    · cases h
  · cases h

theorem sameK_getD {k : IntKind} : ∀ {r : List IntKind}, sameK k r = true → ∀ i, i < r.length → r.getD i .i64 = k
  | [], _, i, h => by simp at h
  | x :: r, hs, 0, _ => by
    simp only [sameK, Bool.and_eq_true] at hs
    exact eq_of_beq hs.1
  | x :: r, hs, i + 1, h => by
    simp only [sameK, Bool.and_eq_true] at hs
    have := sameK_getD hs.2 i (by simpa using h)
    simpa using this
theorem sameK_kc {k : IntKind} {r : List IntKind} (hs : sameK k r = true) (i : Nat) : kc (k :: r) i = k := by
  unfold kc
  have hl : i % (k :: r).length < (k :: r).length := Nat.mod_lt _ (by simp)
  exact sameK_getD (r := k :: r) (by simp only [sameK, Bool.and_eq_true]; exact ⟨beq_self_eq_true k, hs⟩) _ hl
theorem kat_kc (ks : List IntKind) (b st i : Nat) : kat ks b st i = kc ks (b + i * st) := by
  unfold kat
  split
  · rename_i k
    unfold kc
    simp [Nat.mod_one]
  · rename_i k r hr
    split
    · rename_i h; rw [Nat.beq_eq] at h; subst h; unfold kc; rw [Nat.add_mul_mod_self_right]
    · cases hs : sameK k r
      · rfl
      · exact (sameK_kc hs _).symm
  · rfl
theorem loadCells_ok {a : Addr} {vs : List Value} (n : Nat) (hn : n ≤ vs.length) (h : ∀ i v, vs[i]? = some v → w.cell? (a.add i) = some v) :
    (loadCells a n).run P w = .ok (vs.take n).toArray w := by
  have key : ∀ (n i : Nat) (acc : Array Value), i + n ≤ vs.length → (loadCellsFrom a i n acc).run P w = .ok (acc ++ ((vs.drop i).take n).toArray) w := by
    intro n
    induction n with
    | zero => intro i acc _; simp [loadCellsFrom]
    | succ n ih =>
      intro i acc hi
      have hlt : i < vs.length := by omega
      have hv := h i vs[i] (List.getElem?_eq_getElem hlt)
      simp only [loadCellsFrom, Sem.run_bind, run_load, hv, Result.andThen_ok]
      rw [ih (i + 1) _ (by omega)]
      congr 1
      apply Array.ext'
      simp only [Array.toList_append, Array.toList_push, List.append_assoc]
      congr 1
      rw [List.drop_eq_getElem_cons hlt]
      rfl
  unfold loadCells
  rw [key n 0 #[] (by omega)]
  simp

def flatVals (ks : List IntKind) (xs : List Int) (b st i : Nat) : Nat → Nat → List Value
  | 0, _ => []
  | n + 1, j => .int (kat ks (b + j) st i) (xs.getD (b + i * st + j) 0) :: flatVals ks xs b st i n (j + 1)
theorem flatVals_get (ks : List IntKind) (xs : List Int) (b st i : Nat) : ∀ (n j q : Nat), q < n → (flatVals ks xs b st i n j)[q]? = some (.int (kc ks (b + i * st + (j + q))) (xs.getD (b + i * st + (j + q)) 0)) := by
  intro n
  induction n with
  | zero => intro j q h; omega
  | succ n ih =>
    intro j q h
    cases q with
    | zero => simp only [flatVals, List.getElem?_cons_zero, kat_kc, Nat.add_zero]; rw [show b + j + i * st = b + i * st + j by omega]
    | succ q => simp only [flatVals, List.getElem?_cons_succ]; rw [ih (j + 1) q (by omega)]; rw [show j + 1 + q = j + (q + 1) by omega]
theorem flatVals_length (ks : List IntKind) (xs : List Int) (b st i : Nat) : ∀ (n j : Nat), (flatVals ks xs b st i n j).length = n := by
  intro n; induction n with
  | zero => intro j; rfl
  | succ n ih => intro j; simp [flatVals, ih]
theorem flatCells_vals {L : Nat → Option (Option Nat)} (ks : List IntKind) (xs : List Int) (b st i : Nat) : ∀ (n j : Nat), TVs w I m L (flatCells ks xs b st i n j) (flatVals ks xs b st i n j) := by
  intro n; induction n with
  | zero => intro j; exact .nil
  | succ n ih => intro j; exact .cons (.v rfl) (ih _)

theorem loadFlat_ok {t : TypeId} {ks : List IntKind} {xs : List Int} {b0 st i wd bb off : Nat} {r : T} {L : Nat → Option (Option Nat)} (h : loadFlat P t ks xs b0 st i wd = some r) (he : b0 + i * st + wd ≤ xs.length)
    (hf : FlatAt w bb off ks xs) : ∃ v, (Instr.loadAt t (.pointer (some ⟨bb, off + (b0 + i * st), none⟩))).run P w = .ok v w ∧ TV w I m L r v := by
  have hcell : ∀ q, q < wd → w.cell? ((⟨bb, off + (b0 + i * st), none⟩ : Addr).add q) = some (.int (kc ks (b0 + i * st + (0 + q))) (xs.getD (b0 + i * st + (0 + q)) 0)) := by
    intro q hq
    rw [add_at, Nat.add_assoc off, Nat.zero_add]
    have hlt : b0 + i * st + q < xs.length := by omega
    rw [hf _ _ (List.getElem?_eq_getElem hlt), List.getD_eq_getElem?_getD, List.getElem?_eq_getElem hlt]; rfl
  unfold loadFlat at h
  split at h
  · rename_i s ha hs
    split at h
    · rename_i hc; rw [Nat.ble_eq] at hc
      cases h
      refine ⟨.agg (flatVals ks xs b0 st i s 0).toArray, ?_, .agg (by simpa using flatCells_vals ks xs b0 st i s 0)⟩
      have hl := loadCells_ok (P := P) (w := w) (a := ⟨bb, off + (b0 + i * st), none⟩) (vs := flatVals ks xs b0 st i s 0) s (by rw [flatVals_length]; exact Nat.le_refl _) (fun q v hv => by
        have hq : q < s := by have := (List.getElem?_eq_some_iff.1 hv).1; rwa [flatVals_length] at this
        rw [flatVals_get _ _ _ _ _ _ _ _ hq] at hv; cases hv
        exact hcell q (by omega))
      rw [List.take_of_length_le (by rw [flatVals_length]; exact Nat.le_refl _)] at hl
      simp [Instr.loadAt, Instr.sureAddr, loadVar, agg_some ha, sz_some hs, hl]
    · cases h
  · rename_i ha
    split at h
    · rename_i hc; rw [Nat.ble_eq] at hc
      cases h
      refine ⟨_, ?_, .v rfl⟩
      have := hcell 0 (by omega)
      rw [add_at, Nat.add_zero, Nat.zero_add, Nat.add_zero, ← kat_kc] at this
      simp [Instr.loadAt, Instr.sureAddr, loadVar, agg_some ha, this]
    · cases h
  · cases h
theorem loadCellsT_ok {t : TypeId} {cs : List T} {vs : List Value} {i bb off : Nat} {r : T} {L : Nat → Option (Option Nat)} (h : loadCellsT P t cs i = some r) (hv : TVs w I m L cs vs)
    (hf : CellsAt w bb off vs) : ∃ v, (Instr.loadAt t (.pointer (some ⟨bb, off + i, none⟩))).run P w = .ok v w ∧ TV w I m L r v := by
  unfold loadCellsT at h
  split at h
  · rename_i s ha hs
    split at h
    · rename_i hc; rw [Nat.ble_eq] at hc
      cases h
      have hlen := hv.length
      refine ⟨.agg ((vs.drop i).take s).toArray, ?_, .agg (by simpa using (hv.drop i).take s)⟩
      have hl := loadCells_ok (P := P) (w := w) (a := ⟨bb, off + i, none⟩) (vs := vs.drop i) s (by simp; omega) (fun q v hq => by
        rw [add_at, Nat.add_assoc]; rw [List.getElem?_drop] at hq; exact hf _ _ hq)
      simp [Instr.loadAt, Instr.sureAddr, loadVar, agg_some ha, sz_some hs, hl]
    · cases h
  · rename_i ha
    obtain ⟨v, h1, h2⟩ := hv.get h
    refine ⟨v, ?_, h2⟩
    simp [Instr.loadAt, Instr.sureAddr, loadVar, agg_some ha, hf _ _ h1]
  · cases h
theorem loadT_ok {w0 O} (hr : HR w0 w O m g) {t : TypeId} {x r : T} {vx : Value} (h : loadT P g t x = some r) (hx : TV w (Im m g) m (lens g) x vx) :
    ∃ v, (Instr.loadAt t vx).run P w = .ok v w ∧ TV w (Im m g) m (lens g) r v := by
  unfold loadT at h
  split at h
  · obtain ⟨bb, off, rfl, hI, hb, hk, he, hf⟩ := hx.fp_inv; exact loadFlat_ok h he hf
  · obtain ⟨bb, off, vs, rfl, hI, hb, hv, hf⟩ := hx.sp_inv; exact loadCellsT_ok h hv hf
  · rename_i k b st i wd
    split at h
    · rename_i ks xs e
      obtain ⟨hle, bo, hm, rfl⟩ := hx.op_inv (lens_of e)
      have hb := hr.blk k _ e
      rw [hm] at hb
      have := loadFlat_ok (bb := bo) (off := 0) (w := w) (I := Im m g) (m := m) (L := lens g) h hle hb.2.2.2
      rwa [Nat.zero_add] at this
    · rename_i cs e
      obtain ⟨hle, bo, hm, rfl⟩ := hx.op_inv (lens_of e)
      have hb := hr.blk k _ e
      rw [hm] at hb
      obtain ⟨vs, hv, _, _, hf⟩ := hb
      have := loadCellsT_ok (bb := bo) (off := 0) (w := w) h hv hf
      rwa [Nat.zero_add] at this
    · cases h
  · cases h
theorem nilT_ok {x : T} {vx : Value} {o : Out} (h : nilT g x = some o) (hx : TV w I m (lens g) x vx) {op : Operand} {ρ : Operand → Value} (hρ : ρ op = vx) :
    (∃ v, (execOp ρ ⟨none, .nilCheck op, 0, "", #[], none⟩).run P w = .ok (.value v) w ∧ o.up = [] ∧ TV w I m (lens g) o.t v) := by
  have key : ∀ v, TV w I m (lens g) x v → o = ⟨none, x, []⟩ → (execOp ρ ⟨none, .nilCheck op, 0, "", #[], none⟩).run P w = .ok (.value v) w →
      (∃ v, (execOp ρ ⟨none, .nilCheck op, 0, "", #[], none⟩).run P w = .ok (.value v) w ∧ o.up = [] ∧ TV w I m (lens g) o.t v) := by
    rintro v hv rfl hr; exact ⟨v, hr, rfl, hv⟩
  unfold nilT at h
  split at h
  · cases h; obtain ⟨bb, off, rfl, _⟩ := hx.fp_inv; exact key _ hx rfl (by simp [execOp, hρ])
  · cases h; obtain ⟨bb, off, vs, rfl, _⟩ := hx.sp_inv; exact key _ hx rfl (by simp [execOp, hρ])
  · cases h; cases hx with | ifc hy => exact key _ (.ifc hy) rfl (by simp [execOp, hρ])
  · split at h
    · rename_i hal; cases h
      obtain ⟨l, hl⟩ := alive_lens hal
      obtain ⟨hle, bo, hm, rfl⟩ := hx.op_inv hl
      exact key _ hx rfl (by simp [execOp, hρ])
    · cases h
  · cases h; obtain ⟨rfl, hp⟩ := hx.v_inv; exact key _ hx rfl (by simp [execOp, hρ])
  · cases h; cases hx with | fn ha hc => exact key _ (.fn ha hc) rfl (by simp [execOp, hρ])
  · cases h
end
end Go.Proofs.Yteinekidpokbpaa.Am
