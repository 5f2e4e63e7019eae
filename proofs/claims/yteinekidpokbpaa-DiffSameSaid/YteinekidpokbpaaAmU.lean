/- nil in a cell of a block, as a slice of the machine's own. -/
import Derived.Test.YteinekidpokbpaaAmT
namespace Go.Proofs.Yteinekidpokbpaa.Am
set_option linter.unusedVariables false
set_option linter.unusedSimpArgs false
open Go.RowKit

theorem TVs.setAt {w : World} {I : Nat → Prop} {m : Nat → Option Nat} {L : Nat → Option (Option Nat)} : ∀ {cs : List T} {vs : List Value} {i : Nat} {t u : T}, TVs w I m L cs vs → cs[i]? = some t → (∀ v, TV w I m L t v → TV w I m L u v) → TVs w I m L (cs.set i u) vs
  | _ :: _, _, 0, t, u, .cons h r, hi, hu => by cases hi; exact .cons (hu _ h) r
  | _ :: cs, _ :: vs, i + 1, t, u, .cons h r, hi, hu => .cons h (TVs.setAt (i := i) r hi hu)
  | [], _, i, t, u, h, hi, hu => by cases hi
theorem Rl.nilOwnB {C : Ctx} {n : Nat} {w0 : World} {O : Env} {ts : Sl} {H : Hp} {a : Act} {w : World} (h : Rl C n w0 O ts H a w) {kb i key sz : Nat} {cs : List T} {B : Blk} (hb : H.get kb = some (.cs cs)) (hi : cs[i]? = some (.v (.slice none 0 0))) (hk : H.get key = none)
    (hB : B = .cs [] ∨ ∃ k ks, B = .fl (k :: ks) []) (hz : 0 < sz) : Rl C n w0 O ts ((kb, .cs (cs.set i (.ow key sz 0))) :: (key, B) :: H) a w := by
  obtain ⟨m, g1, g2, g3, g4, g5⟩ := h
  have hg : Hp.get ((key, B) :: H) = upd H.get [(key, B)] := get_append [(key, B)] H
  have hg2 : Hp.get ((kb, .cs (cs.set i (.ow key sz 0))) :: (key, B) :: H) = upd (upd H.get [(key, B)]) [(kb, .cs (cs.set i (.ow key sz 0)))] := by
    rw [← hg]; exact get_append [(kb, _)] ((key, B) :: H)
  have hbv : BV O w (Im (mk1 m key none) (upd H.get [(key, B)])) (mk1 m key none) (lens (upd H.get [(key, B)])) B none := by
    rcases hB with rfl | ⟨k, ks, rfl⟩
    · exact rfl
    · exact ⟨by simp, rfl⟩
  have hlen : B.len? = some 0 := by rcases hB with rfl | ⟨k, ks, rfl⟩ <;> rfl
  have hN := g1.newB (k := key) (n := none) (b := B) (Below.refl _ w) hk (fun q hq => by cases hq) hbv
  have G := Goes.new g1 (k := key) (n := none) (b := B) (Below.refl _ w) hk (fun q hq => by cases hq)
  have hlk : lens (upd H.get [(key, B)]) key = some (some 0) := by rw [lens_upd, if_pos rfl, hlen]
  have hne : kb ≠ key := by rintro rfl; rw [hk] at hb; cases hb
  have hb2 : upd H.get [(key, B)] kb = some (.cs cs) := by rw [upd_one, if_neg (Ne.symm hne)]; exact hb
  have hl2 : lens (upd H.get [(key, B)]) kb = some (some cs.length) := by rw [lens_of hb2]; rfl
  have hv := hN.blk kb _ hb2
  cases hm : mk1 m key none kb with
  | none => rw [hm] at hv; have hv : cs = [] := hv; rw [hv] at hi; cases hi
  | some b =>
    rw [hm] at hv
    obtain ⟨vs, a1, a2, a3, a4⟩ := hv
    have hll : (Blk.cs (cs.set i (.ow key sz 0))).len? = some cs.length := by simp [Blk.len?]
    have G2 := Goes.setB hN hl2 hm (OnlyB.refl w b) hll
    have hlk2 : lens (upd (upd H.get [(key, B)]) [(kb, .cs (cs.set i (.ow key sz 0)))]) key = some (some 0) := by rw [lens_upd, if_neg hne]; exact hlk
    have h2 := hN.setB hl2 hm (OnlyB.refl w b) hll ⟨vs, TVs.setAt (a1.goes G2) hi (fun v hv => by
      obtain ⟨rfl, -⟩ := hv.v_inv
      exact .ow (.os0 hlk2 (by omega) hz) (.inr (by rw [hlk2]; simp))), a2, a3, a4⟩
    refine ⟨mk1 m key none, by rw [hg2]; exact h2, fun j => ?_, by rw [hg2]; exact (g3.goes G).goes G2, ⟨(g4.1.goes G.odd).goes G2.odd, g4.2⟩, g5⟩
    rw [hg2]
    exact ((g2 j).goes G).goes G2
/-- nil in a cell of a block, as a slice of the machine's own that has nothing. -/
theorem TW.nilOwnB {C : Ctx} {n : Nat} {rd : Bool} {c : Code} {ts : Sl} {H : Hp} {K : Exit → Sl → Hp → Prop} (kb i key sz : Nat) (cs : List T) (B : Blk) (hb : H.get kb = some (.cs cs)) (hi : cs[i]? = some (.v (.slice none 0 0))) (hk : H.get key = none)
    (hB : B = .cs [] ∨ ∃ k ks, B = .fl (k :: ks) []) (hz : 0 < sz) (h : TW C n rd c ts ((kb, .cs (cs.set i (.ow key sz 0))) :: (key, B) :: H) K) : TW C n rd c ts H K :=
  ⟨fun ro hro w0 O a w hr => h.out ro hro w0 O a w (hr.nilOwnB hb hi hk hB hz)⟩
/-- A whole slice of the machine's own told as a part of its block. -/
theorem Rl.lowS {C : Ctx} {n : Nat} {w0 : World} {O : Env} {ts : Sl} {H : Hp} {a : Act} {w : World} (h : Rl C n w0 O ts H a w) {i k sz q : Nat} (hi : tget ts i = .ow k sz q) : Rl C n w0 O ((i, .os k sz 0 q) :: ts) H a w := by
  obtain ⟨m, g1, g2, g3, g4, g5⟩ := h
  refine ⟨m, g1, fun j => ?_, g3, g4, g5⟩
  simp only [tget]
  split
  · rename_i e
    have := Nat.eq_of_beq_eq_true e
    subst this
    have hv := g2 i
    rw [hi] at hv
    cases hv with | ow hh _ => exact hh
  · exact g2 j
theorem TW.lowS {C : Ctx} {n : Nat} {rd : Bool} {c : Code} {ts : Sl} {H : Hp} {K : Exit → Sl → Hp → Prop} (i k sz q : Nat) (hi : tget ts i = .ow k sz q) (h : TW C n rd c ((i, .os k sz 0 q) :: ts) H K) : TW C n rd c ts H K :=
  ⟨fun ro hro w0 O a w hr => h.out ro hro w0 O a w (hr.lowS hi)⟩
end Go.Proofs.Yteinekidpokbpaa.Am
