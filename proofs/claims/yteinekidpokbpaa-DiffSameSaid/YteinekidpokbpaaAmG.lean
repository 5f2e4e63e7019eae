/- Slices: their lengths, parts, what is appended, what is made: as the machine says. -/
import Derived.Test.YteinekidpokbpaaAmF
namespace Go.Proofs.Yteinekidpokbpaa.Am
set_option linter.unusedVariables false
set_option linter.unusedSimpArgs false
open Go.RowKit

theorem TV.low_ok {w : World} {I : Nat → Prop} {m : Nat → Option Nat} {L : Nat → Option (Option Nat)} {t : T} {v : Value} (h : TV w I m L t v) : TV w I m L t.low v := by
  cases t <;> first | exact h | (cases h with | ow h _ => exact h)

section
variable {P : Program} {w0 w : World} {O : Env} {m : Nat → Option Nat} {g : Mem}

theorem lenT_ok {I : Nat → Prop} {t : TypeId} {x : T} {vx : Value} {o : Out} {ty : TypeId} (hM : ∀ k kk vk es b, g k = some (.mp kk vk es) → m k = some b → ∃ ms c, w.heap[b]? = some (.map ms c) ∧ ((ms.toList.map (fun e => (e.key, e.val)) = es.map fun p => (Value.int kk p.1, mval vk p.2)) ∧ MapKept.Stamped ms c)) (h : lenT P g t x = some o) (hx : TV w I m (lens g) x vx) : PureOk P (Builtin.len_ #[t] ty #[vx]) w I m (lens g) o := by
  unfold lenT at h
  split at h
  · rename_i e ks n xs hu
    rcases hx.fl_inv with ⟨rfl, rfl, a, cap, rfl⟩ | ⟨b, off, cap, rfl, _⟩
    · exact pureV h rfl (by simp [Builtin.len_, run_underlying, hu, goInt])
    · exact pureV h rfl (by simp [Builtin.len_, run_underlying, hu, goInt])
  · rename_i e n sz cs hu
    rcases hx.sl_inv with ⟨rfl, rfl, a, cap, rfl⟩ | ⟨b, off, cap, vs, rfl, _⟩
    · exact pureV h rfl (by simp [Builtin.len_, run_underlying, hu, goInt])
    · exact pureV h rfl (by simp [Builtin.len_, run_underlying, hu, goInt])
  · rename_i e k sz off n hu
    split at h
    · rename_i hal
      obtain ⟨l, hl⟩ := alive_lens hal
      obtain ⟨_, _, h3⟩ := hx.os_inv hl
      rcases h3 with ⟨rfl, a, rfl⟩ | ⟨cap, b, hm, rfl, _⟩
      · exact pureV h rfl (by simp [Builtin.len_, run_underlying, hu, goInt])
      · exact pureV h rfl (by simp [Builtin.len_, run_underlying, hu, goInt])
    · cases h
  · rename_i e hu
    obtain ⟨rfl, -⟩ := hx.v_inv
    exact pureV h rfl (by simp [Builtin.len_, run_underlying, hu, goInt])
  · rename_i n e hu
    exact pureV h rfl (by cases vx <;> simp [Builtin.len_, run_underlying, hu, goInt])
  · rename_i e1 e2 k hu
    split at h
    · rename_i kk vk es hgk
      obtain ⟨b, hm, rfl⟩ := hx.mp_inv (lens_of hgk)
      obtain ⟨ms, c, h1, h2⟩ := hM k kk vk es b hgk hm
      exact pureV h rfl (by
        have := congrArg List.length h2.1
        simp only [List.length_map, Array.length_toList] at this
        simp [Builtin.len_, run_underlying, hu, goInt, MapKept.run_getObj_map h1, this])
    · cases h
  · rename_i hu
    obtain ⟨rfl, -⟩ := hx.v_inv
    exact pureV h rfl (by simp [Builtin.len_, run_underlying, hu, goInt])
  · cases h

theorem addN_eq (n s : Nat) : addN n s = n + s := by
  unfold addN
  cases e : Nat.beq n 0
  · rfl
  · have := Nat.eq_of_beq_eq_true e; subst this; simp
theorem mulN_eq (n s : Nat) : mulN n s = n * s := by
  unfold mulN
  cases e : Nat.beq s 1
  · rfl
  · have := Nat.eq_of_beq_eq_true e; subst this; simp

/-! ### parts of slices -/
/-- An operand that may be missing. -/
def OTV (w : World) (I : Nat → Prop) (m : Nat → Option Nat) (L : Nat → Option (Option Nat)) : Option T → Option Value → Prop
  | none, none => True
  | some a, some b => TV w I m L a b
  | _, _ => False
def voI : Option Value → Option Int → Prop
  | none, none => True
  | some (.int _ x), some y => x = y
  | _, _ => False
theorem intO_ok {I : Nat → Prop} {L : Nat → Option (Option Nat)} {t : Option T} {v : Option Value} {x : Option Int} (h : intO t = some x) (hv : OTV w I m L t v) : voI v x := by
  unfold intO at h
  split at h
  · cases h; cases v <;> first | exact hv | trivial
  · cases h
    cases v with
    | none => exact hv.elim
    | some b => obtain ⟨rfl, -⟩ := TV.v_inv hv; rfl
  · cases h

theorem run_sliceBounds {isS : Bool} {len cap : Nat} {lo hi : Option Value} {l h : Option Int} (hl : voI lo l) (hh : voI hi h) (hc : len ≤ cap) (ho : ∀ p, cutC len l h = some p → p) :
    (Instr.sliceBounds isS len cap lo hi none).run P w = .ok (loN l, hiN len h, cap) w ∧ loN l ≤ hiN len h ∧ hiN len h ≤ len ∧ cutL len l h = hiN len h - loN l := by
  cases l with
  | none =>
    cases lo with
    | some _ => cases ‹Value› <;> exact hl.elim
    | none =>
      cases h with
      | none =>
        cases hi with
        | some _ => cases ‹Value› <;> exact hh.elim
        | none => exact ⟨by simp [Instr.sliceBounds, loN, hiN], Nat.zero_le _, Nat.le_refl _, by simp [cutL, loN, hiN]⟩
      | some h =>
        cases hi with
        | none => exact hh.elim
        | some vh =>
          cases vh <;> try exact hh.elim
          rename_i k x
          have hh : x = h := hh
          subst hh
          have hp := ho _ rfl
          refine ⟨?_, Nat.zero_le _, by show x.toNat ≤ len; omega, by simp [cutL, loN, hiN]⟩
          simp [loN, hiN, Instr.sliceBounds, Instr.sliceBound, asIntOf, hp.1, show x ≤ (cap : Int) by omega]
  | some l =>
    cases lo with
    | none => exact hl.elim
    | some vl =>
      cases vl <;> try exact hl.elim
      rename_i k y
      have hl : y = l := hl
      subst hl
      cases h with
      | none =>
        cases hi with
        | some _ => cases ‹Value› <;> exact hh.elim
        | none =>
          have hp := ho _ rfl
          refine ⟨?_, by show y.toNat ≤ len; omega, Nat.le_refl _, by simp [cutL, loN, hiN]⟩
          simp [loN, hiN, Instr.sliceBounds, Instr.sliceBound, asIntOf, hp.1, hp.2]
      | some h =>
        cases hi with
        | none => exact hh.elim
        | some vh =>
          cases vh <;> try exact hh.elim
          rename_i k' x
          have hh : x = h := hh
          subst hh
          have hp := ho _ rfl
          refine ⟨?_, by show y.toNat ≤ x.toNat; omega, by show x.toNat ≤ len; omega, by simp [cutL, loN, hiN]⟩
          have h1 : (0 : Int) ≤ x := by omega
          have h2 : y ≤ (x.toNat : Int) := by omega
          simp [loN, hiN, Instr.sliceBounds, Instr.sliceBound, asIntOf, hp.1, h1, show x ≤ (cap : Int) by omega, show y ≤ max x 0 by omega]

theorem cutN_get {α : Type} {s n : Nat} {l h : Option Int} {xs : List α} (hn : xs.length = n * s) (h1 : loN l ≤ hiN n h) (h2 : hiN n h ≤ n) :
    (cutN s l h xs).length = (hiN n h - loN l) * s ∧ ∀ i, i < (hiN n h - loN l) * s → (cutN s l h xs)[i]? = xs[loN l * s + i]? := by
  have hm : hiN n h * s ≤ n * s := Nat.mul_le_mul_right s h2
  have hm2 : loN l * s ≤ hiN n h * s := Nat.mul_le_mul_right s h1
  have e : cutN s l h xs = (xs.take (hiN n h * s)).drop (loN l * s) := by
    cases l <;> cases h <;> simp only [cutN, mulN_eq, loN, hiN]
    · rw [← hn, List.take_length, Nat.zero_mul, List.drop_zero]
    · rw [Nat.zero_mul, List.drop_zero]
    · rw [← hn, List.take_length]
  rw [e, Nat.sub_mul]
  refine ⟨by simp; omega, fun i hi => ?_⟩
  rw [List.getElem?_drop, List.getElem?_take_of_lt (by omega)]

theorem sliceT_ok (hr0 : HR w0 w O m g) {t : TypeId} {x : T} {lo hi : Option T} {vx : Value} {vlo vhi : Option Value} {o : Out} (h : sliceT P g t x lo hi = some o) (ho : o.ok) (hx : TV w (Im m g) m (lens g) x vx)
    (hlo : OTV w (Im m g) m (lens g) lo vlo) (hhi : OTV w (Im m g) m (lens g) hi vhi) :
    PureOk P (Instr.sliceAt t vx vlo vhi none) w (Im m g) m (lens g) o := by
  unfold sliceT at h
  split at h
  · rename_i l hh e1 e2
    have hl' := intO_ok (w := w) e1 hlo
    have hh' := intO_ok (w := w) e2 hhi
    split at h
    · rename_i e hu
      split at h
      · rename_i s hs
        split at h
        · -- fl
          rename_i ks n xs
          split at h
          · rename_i hk; rw [Nat.beq_eq] at hk
            cases h
            rcases hx.fl_inv with ⟨rfl, rfl, a, cap, rfl⟩ | ⟨b, off, cap, rfl, hI, hb, hk0, hn, hc, hp, hf⟩
            · obtain ⟨r, b1, b2, b3⟩ := run_sliceBounds (P := P) (w := w) (isS := true) (cap := cap) hl' hh' (Nat.zero_le _) ho
              refine ⟨_, by simp only [Instr.sliceAt, Instr.slice, Sem.run_bind, run_underlying, hu, Result.andThen_ok, r, sz_some hs, Sem.run_pure]; rfl, rfl, ?_⟩
              have e0 : cutL 0 l hh = 0 := by rw [b3]; omega
              have e3 : cutN (s + 1) l hh ([] : List Int) = [] := by cases l <;> cases hh <;> simp [cutN]
              rw [e0, e3]
              have e4 : hiN 0 hh - loN l = 0 := by omega
              rw [e4]; exact .fl0
            · obtain ⟨r, b1, b2, b3⟩ := run_sliceBounds (P := P) (w := w) (isS := true) (cap := cap) hl' hh' hc.1 ho
              refine ⟨_, by simp only [Instr.sliceAt, Instr.slice, Sem.run_bind, run_underlying, hu, Result.andThen_ok, r, sz_some hs, Sem.run_pure]; rfl, rfl, ?_⟩
              obtain ⟨c1, c2⟩ := cutN_get (l := l) (h := hh) (hk ▸ hn) b1 b2
              rw [b3]
              change loN l ≤ hiN n hh at b1
              change hiN n hh ≤ n at b2
              change TV w _ m _ (.fl ks (hiN n hh - loN l) _) (.slice (if cap = loN l then some _ else (some _).map _) (hiN n hh - loN l) (cap - loN l))
              by_cases hz : hiN n hh - loN l = 0
              · have : cutN (s + 1) l hh xs = [] := List.eq_nil_of_length_eq_zero (by rw [c1, hz, Nat.zero_mul])
                rw [hz, this]; exact .fl0
              · rw [if_neg (by omega)]
                simp only [Option.map_some, add_at]
                refine .fl hI hb hk0 (by rw [c1, hk]) (by omega) (by omega) (fun i y hy => ?_)
                have hi : i < (hiN n hh - loN l) * (s + 1) := by rw [← c1]; exact (List.getElem?_eq_some_iff.1 hy).1
                rw [c2 i hi] at hy
                have := hf _ _ hy
                rw [Nat.add_assoc, this]
                have e5 : kc ks (loN l * (s + 1) + i) = kc ks i := by unfold kc; rw [hk, Nat.add_comm, Nat.add_mul_mod_self_right]
                rw [e5]
          · cases h
        · -- sl
          rename_i n sz cs
          split at h
          · rename_i hk; rw [Nat.beq_eq] at hk
            subst hk
            cases h
            rcases hx.sl_inv with ⟨rfl, rfl, a, cap, rfl⟩ | ⟨b, off, cap, vs, rfl, hI, hb, hn, hc, hp, hv, hf⟩
            · obtain ⟨r, b1, b2, b3⟩ := run_sliceBounds (P := P) (w := w) (isS := true) (cap := cap) hl' hh' (Nat.zero_le _) ho
              refine ⟨_, by simp only [Instr.sliceAt, Instr.slice, Sem.run_bind, run_underlying, hu, Result.andThen_ok, r, sz_some hs, Sem.run_pure]; rfl, rfl, ?_⟩
              have e0 : cutL 0 l hh = 0 := by rw [b3]; omega
              have e3 : cutN (s + 1) l hh ([] : List T) = [] := by cases l <;> cases hh <;> simp [cutN]
              rw [e0, e3]
              have e4 : hiN 0 hh - loN l = 0 := by omega
              rw [e4]; exact .sl0
            · obtain ⟨r, b1, b2, b3⟩ := run_sliceBounds (P := P) (w := w) (isS := true) (cap := cap) hl' hh' hc.1 ho
              refine ⟨_, by simp only [Instr.sliceAt, Instr.slice, Sem.run_bind, run_underlying, hu, Result.andThen_ok, r, sz_some hs, Sem.run_pure]; rfl, rfl, ?_⟩
              obtain ⟨c1, c2⟩ := cutN_get (l := l) (h := hh) hn b1 b2
              have hvl : vs.length = n * (s + 1) := by rw [← hv.length, hn]
              obtain ⟨d1, d2⟩ := cutN_get (l := l) (h := hh) hvl b1 b2
              rw [b3]
              change loN l ≤ hiN n hh at b1
              change hiN n hh ≤ n at b2
              change TV w _ m _ (.sl (hiN n hh - loN l) _ _) (.slice (if cap = loN l then some _ else (some _).map _) (hiN n hh - loN l) (cap - loN l))
              by_cases hz : hiN n hh - loN l = 0
              · have : cutN (s + 1) l hh cs = [] := List.eq_nil_of_length_eq_zero (by rw [c1, hz, Nat.zero_mul])
                rw [hz, this]; exact .sl0
              · rw [if_neg (by omega)]
                simp only [Option.map_some, add_at]
                have hvc : TVs w (Im m g) m (lens g) (cutN (s + 1) l hh cs) (cutN (s + 1) l hh vs) := by
                  cases l <;> cases hh <;> simp only [cutN]
                  · exact hv
                  · exact hv.take _
                  · exact hv.drop _
                  · exact (hv.take _).drop _
                refine .sl hI hb c1 (by omega) (by omega) hvc (fun i y hy => ?_)
                have hi : i < (hiN n hh - loN l) * (s + 1) := by rw [← d1]; exact (List.getElem?_eq_some_iff.1 hy).1
                rw [d2 i hi] at hy
                have := hf _ _ hy
                rw [Nat.add_assoc, this]
          · cases h
        · -- os
          rename_i k sz off n
          split at h
          · rename_i hk
            rw [Bool.and_eq_true, Nat.beq_eq] at hk
            obtain ⟨hal, rfl⟩ := hk
            obtain ⟨L1, hL⟩ := alive_lens hal
            cases h
            obtain ⟨hz, hle, h3⟩ := hx.os_inv hL
            rcases h3 with ⟨rfl, a, rfl⟩ | ⟨cap, b, hm, rfl, hc, hr⟩
            · obtain ⟨r, b1, b2, b3⟩ := run_sliceBounds (P := P) (w := w) (isS := true) (cap := 0) hl' hh' (Nat.zero_le _) ho
              refine ⟨_, by simp only [Instr.sliceAt, Instr.slice, Sem.run_bind, run_underlying, hu, Result.andThen_ok, r, sz_some hs, Sem.run_pure]; rfl, rfl, ?_⟩
              change loN l ≤ hiN 0 hh at b1
              change hiN 0 hh ≤ 0 at b2
              have e0 : cutL 0 l hh = 0 := by rw [b3]; change hiN 0 hh - loN l = 0; omega
              have e1 : loN l = 0 := by omega
              have e2 : addN off (loN l) = off := by rw [addN_eq, e1]; rfl
              rw [e0]
              change TV w _ m _ (.os k _ (addN off (loN l)) 0) (.slice (if 0 = loN l then a else a.map _) (hiN 0 hh - loN l) (0 - loN l))
              rw [e2, e1, if_pos rfl, show hiN 0 hh - 0 = 0 by omega]
              exact .os0 hL (by simpa using hle) hz
            · obtain ⟨r, b1, b2, b3⟩ := run_sliceBounds (P := P) (w := w) (isS := true) (cap := cap) hl' hh' hc.1 ho
              refine ⟨_, by simp only [Instr.sliceAt, Instr.slice, Sem.run_bind, run_underlying, hu, Result.andThen_ok, r, sz_some hs, Sem.run_pure]; rfl, rfl, ?_⟩
              change loN l ≤ hiN n hh at b1
              change hiN n hh ≤ n at b2
              have e2 : addN off (loN l) = off + loN l := addN_eq _ _
              rw [b3]
              change TV w _ m _ (.os k _ (addN off (loN l)) (hiN n hh - loN l)) (.slice (if cap = loN l then some _ else (some _).map _) (hiN n hh - loN l) (cap - loN l))
              rw [e2]
              have hle2 : (off + loN l + (hiN n hh - loN l)) * (s + 1) ≤ L1 := Nat.le_trans (Nat.mul_le_mul_right _ (by omega)) hle
              by_cases hq : cap = loN l
              · rw [if_pos hq, show hiN n hh - loN l = 0 by omega, show cap - loN l = 0 by omega]
                refine .os0 hL ?_ hz
                exact Nat.le_trans (Nat.mul_le_mul_right _ (by omega)) hle
              · rw [if_neg hq]
                simp only [Option.map_some, add_at]
                rw [← Nat.add_mul]
                refine .os hL hm hle2 (by omega) hz ?_
                rw [show off + loN l + (cap - loN l) = off + cap by omega]; exact hr
          · cases h
        · -- nil
          cases h
          obtain ⟨rfl, -⟩ := hx.v_inv
          obtain ⟨r, b1, b2, b3⟩ := run_sliceBounds (P := P) (w := w) (isS := true) (len := 0) (cap := 0) hl' hh' (Nat.zero_le _) ho
          refine ⟨_, by simp only [Instr.sliceAt, Instr.slice, Sem.run_bind, run_underlying, hu, Result.andThen_ok, r, sz_some hs, Sem.run_pure]; rfl, rfl, ?_⟩
          change loN l ≤ hiN 0 hh at b1
          change hiN 0 hh ≤ 0 at b2
          change TV w _ m _ _ (.slice (if 0 = loN l then none else _) (hiN 0 hh - loN l) (0 - loN l))
          rw [show loN l = 0 by omega, show hiN 0 hh = 0 by omega, if_pos rfl]
          exact .v rfl
        · cases h
      · cases h
    · rename_i n e hu
      split at h
      · rename_i s hs
        split at h
        · rename_i k b st i wd
          split at h
          · rename_i hk
            simp only [Bool.and_eq_true, Nat.beq_eq, Nat.ble_eq] at hk
            obtain ⟨⟨⟨⟨hal, rfl⟩, rfl⟩, hw⟩, hn40⟩ := hk
            obtain ⟨L1, hL⟩ := alive_lens hal
            cases h
            obtain ⟨hle, bb, hm, rfl⟩ := hx.op_inv hL
            obtain ⟨r, b1, b2, b3⟩ := run_sliceBounds (P := P) (w := w) (isS := false) (cap := n) hl' hh' (Nat.le_refl _) ho
            refine ⟨_, by simp only [Instr.sliceAt, Sem.run_bind, run_underlying, hu, Result.andThen_ok, Instr.sureAddr, r, sz_some hs, Sem.run_pure]; rfl, rfl, ?_⟩
            change loN l ≤ hiN n hh at b1
            change hiN n hh ≤ n at b2
            rw [b3]
            change TV w _ m _ (.os k _ (loN l) (hiN n hh - loN l)) (.slice (some (if n = loN l then _ else _)) (hiN n hh - loN l) (n - loN l))
            have hle2 : (loN l + (hiN n hh - loN l)) * (s + 1) ≤ L1 := Nat.le_trans (Nat.mul_le_mul_right _ (show _ ≤ n by omega)) (by omega)
            by_cases hq : n = loN l
            · rw [if_pos hq, show hiN n hh - loN l = 0 by omega, show n - loN l = 0 by omega]
              exact .os0 hL (Nat.le_trans (Nat.mul_le_mul_right _ (show _ ≤ n by omega)) (by omega)) (by omega)
            · rw [if_neg hq]
              simp only [add_at]
              rw [show 0 + 0 * st + loN l * (s + 1) = loN l * (s + 1) by omega]
              refine .os hL hm hle2 (by omega) (by omega) ?_
              rw [show loN l + (n - loN l) = n by omega]
              obtain ⟨B, hB, hBl⟩ := lens_some hL
              have hbv := hr0.blk k B hB
              rw [hm] at hbv
              exact (BVb.room hbv hBl).mono (by omega)
          · cases h
        · cases h
      · cases h
    · cases h
  · cases h
end
end Go.Proofs.Yteinekidpokbpaa.Am
