/- What a function makes of its arguments, by a table of others. -/
import Derived.Test.YteinekidpokbpaaAmP
import Derived.LoopNIn
namespace Go.Proofs.Yteinekidpokbpaa.Am
set_option linter.unusedVariables false
set_option linter.unusedSimpArgs false
open Go.RowKit

/-- nil as a slice of the machine's own, that has nothing. -/
theorem Rl.nilOwn {C : Ctx} {n : Nat} {w0 : World} {O : Env} {ts : Sl} {H : Hp} {a : Act} {w : World} (h : Rl C n w0 O ts H a w) {i key sz : Nat} {B : Blk} (hi : tget ts i = .v (.slice none 0 0)) (hk : H.get key = none)
    (hB : B = .cs [] ∨ ∃ k ks, B = .fl (k :: ks) []) (hz : 0 < sz) : Rl C n w0 O ((i, .ow key sz 0) :: ts) ((key, B) :: H) a w := by
  obtain ⟨m, g1, g2, g3, g4, g5⟩ := h
  have hg : Hp.get ((key, B) :: H) = upd H.get [(key, B)] := get_append [(key, B)] H
  have hbv : BV O w (Im (mk1 m key none) (upd H.get [(key, B)])) (mk1 m key none) (lens (upd H.get [(key, B)])) B none := by
    rcases hB with rfl | ⟨k, ks, rfl⟩
    · exact rfl
    · exact ⟨by simp, rfl⟩
  have hlen : B.len? = some 0 := by rcases hB with rfl | ⟨k, ks, rfl⟩ <;> rfl
  have hN := g1.newB (k := key) (n := none) (b := B) (Below.refl _ w) hk (fun q hq => by cases hq) hbv
  have G := Goes.new g1 (k := key) (n := none) (b := B) (Below.refl _ w) hk (fun q hq => by cases hq)
  have hlk : lens (upd H.get [(key, B)]) key = some (some 0) := by rw [lens_upd, if_pos rfl, hlen]
  refine ⟨mk1 m key none, by rw [hg]; exact hN, fun j => ?_, by rw [hg]; exact g3.goes G, ⟨g4.1.goes G.odd, g4.2⟩, g5⟩
  rw [hg]
  simp only [tget]
  split
  · rename_i e
    have := Nat.eq_of_beq_eq_true e
    subst this
    have hv := g2 i
    rw [hi] at hv
    obtain ⟨hv, -⟩ := hv.v_inv
    rw [hv]
    exact .ow (.os0 hlk (by omega) hz) (.inr (by rw [hlk]; simp))
  · exact (g2 j).goes G
theorem TW.nilOwn {C : Ctx} {n : Nat} {rd : Bool} {c : Code} {ts : Sl} {H : Hp} {K : Exit → Sl → Hp → Prop} (i key sz : Nat) (B : Blk) (hi : tget ts i = .v (.slice none 0 0)) (hk : H.get key = none)
    (hB : B = .cs [] ∨ ∃ k ks, B = .fl (k :: ks) []) (hz : 0 < sz) (h : TW C n rd c ((i, .ow key sz 0) :: ts) ((key, B) :: H) K) : TW C n rd c ts H K :=
  ⟨fun ro hro w0 O a w hr => h.out ro hro w0 O a w (hr.nilOwn hi hk hB hz)⟩

/-! ### pure functions -/
def mapO (f : T → Option T) : List T → Option (List T)
  | [] => some []
  | t :: r => match f t with
    | none => none
    | some u => match mapO f r with
      | some us => some (u :: us)
      | none => none
/-- A value that leads to no block of the machine's own: what it leads to is taken as it stands. imm: may it lead to what was there? -/
def inT (imm : Bool) (g : Mem) : Nat → T → Option T
  | d, t => match t with
    | .v x => some (.v x)
    | .fl ks n xs => match imm with
      | true => some (.fl ks n xs)
      | false => match n, xs with
        | 0, [] => some (.fl ks 0 [])
        | _, _ => none
    | .fp ks xs b st i e => match imm with
      | true => some (.fp ks xs b st i e)
      | false => none
    | .ow k sz n => match g k with
      | some (.fl ks xs) => match Nat.beq ks.length sz with
        | true => some (.fl ks n xs)
        | false => none
      | some (.cs cs) => match d with
        | 0 => none
        | d + 1 => match mapO (inT imm g d) cs with
          | some us => some (.sl n sz us)
          | none => none
      | _ => none
    | .os k sz off n => match g k with
      | some (.fl ks xs) => match Nat.beq ks.length sz with
        | true => some (.fl ks n ((xs.drop (mulN off sz)).take (mulN n sz)))
        | false => none
      | _ => none
    | .agg cs => match d with
      | 0 => none
      | d + 1 => match mapO (inT imm g d) cs with
        | some us => some (.agg us)
        | none => none
    | .tup cs => match d with
      | 0 => none
      | d + 1 => match mapO (inT imm g d) cs with
        | some us => some (.tup us)
        | none => none
    | .op k b st i e => match g k with
      | some (.fl ks xs) => some (.fp ks xs b st i e)
      | some (.cs cs) => match d with
        | 0 => none
        | d + 1 => match mapO (inT imm g d) cs with
          | some us => some (.sp us (b + i * st))
          | none => none
      | _ => none
    | .fn f a c => match d with
      | 0 => none
      | d + 1 => match mapO (inT imm g d) a, mapO (inT imm g d) c with
        | some a, some c => some (.fn f a c)
        | _, _ => none
    | .ifc t x => match d with
      | 0 => none
      | d + 1 => match inT imm g d x with
        | some x => some (.ifc t x)
        | none => none
    | .sp cs i => match imm, d with
      | true, d + 1 => match mapO (inT imm g d) cs with
        | some us => some (.sp us i)
        | none => none
      | _, _ => none
    | .sl n sz cs => match imm, d with
      | true, d + 1 => match mapO (inT imm g d) cs with
        | some us => some (.sl n sz us)
        | none => none
      | _, _ => none
    | _ => none

theorem mapO_ok {w w' : World} {I I' m m' L L'} {f : T → Option T} (hf : ∀ t u v, f t = some u → TV w I m L t v → TV w' I' m' L' u v) : ∀ {cs us : List T} {vs : List Value}, mapO f cs = some us → TVs w I m L cs vs → TVs w' I' m' L' us vs := by
  intro cs
  induction cs with
  | nil => intro us vs h hv; cases h; cases hv; exact .nil
  | cons c cs ih =>
    intro us vs h hv
    cases hv with
    | cons hc hr =>
      simp only [mapO] at h
      split at h
      · cases h
      · rename_i u e1
        split at h
        · rename_i us e2; cases h; exact .cons (hf _ _ _ e1 hc) (ih e2 hr)
        · cases h

def noM : Nat → Option Nat := fun _ => none
def noL : Nat → Option (Option Nat) := fun _ => none
theorem inT_ok {w0 w : World} {O : Env} {m : Nat → Option Nat} {g : Mem} (h : HR w0 w O m g) {imm : Bool} {J : Nat → Prop} (hi : imm = true → ∀ b, Im m g b → J b) (ho : ∀ b, Own m (lens g) b → J b) :
    ∀ (d : Nat) (t u : T) (v : Value), inT imm g d t = some u → TV w (Im m g) m (lens g) t v → TV w J noM noL u v := by
  have fl0 : ∀ {ks : List IntKind} {xs : List Int} {n : Nat} {a : Option Addr} {cap : Nat}, n = 0 → xs.length = 0 → TV w J noM noL (.fl ks n xs) (.slice a n cap) := by
    intro ks xs n a cap h0 h1
    subst h0
    have : xs = [] := List.eq_nil_of_length_eq_zero h1
    subst this; exact .fl0
  have core : ∀ (d : Nat), (∀ d', d = d' + 1 → ∀ (t u : T) (v : Value), inT imm g d' t = some u → TV w (Im m g) m (lens g) t v → TV w J noM noL u v) →
      ∀ (t u : T) (v : Value), inT imm g d t = some u → TV w (Im m g) m (lens g) t v → TV w J noM noL u v := by
    intro d ih t u v hu hv
    unfold inT at hu
    split at hu
    · cases hu; obtain ⟨rfl, hp⟩ := hv.v_inv; exact .v hp
    · split at hu
      · cases hu
        rcases hv.fl_inv with ⟨rfl, rfl, a, cap, rfl⟩ | ⟨b, off, cap, rfl, hI, hb, hk, hn, hc, hp, hf⟩
        · exact .fl0
        · exact .fl (hi rfl _ hI) hb hk hn hc hp hf
      · split at hu
        · cases hu
          rcases hv.fl_inv with ⟨_, _, a, cap, rfl⟩ | ⟨b, off, cap, _, _, _, _, _, _, hp, _⟩
          · exact .fl0
          · omega
        · cases hu
    · split at hu
      · cases hu
        obtain ⟨b, off, rfl, hI, hb, hk, he, hf⟩ := hv.fp_inv
        exact .fp (hi rfl _ hI) hb hk he hf
      · cases hu
    · -- ow
      rename_i k sz n
      split at hu
      · rename_i ks xs e
        split at hu
        · rename_i hk
          have hk := Nat.eq_of_beq_eq_true hk
          cases hu
          have hL := lens_of e
          cases hv with
          | ow hos hl =>
            have hlen : n * sz = xs.length := by
              rcases hl with hl | hl <;> rw [hL] at hl
              · cases hl
              · injection hl with hl; injection hl with hl; exact hl.symm
            obtain ⟨hz, hle, h3⟩ := hos.os_inv hL
            rcases h3 with ⟨h0, a, rfl⟩ | ⟨cap, b, hm, rfl, hc, hr⟩
            · have : xs.length = 0 := by rw [← hlen, h0, Nat.zero_mul]
              have := fl0 (ks := ks) (a := a) (cap := 0) h0 this
              rwa [h0] at this ⊢
            · by_cases h0 : n = 0
              · exact fl0 h0 (by rw [← hlen, h0, Nat.zero_mul])
              · have hbv := h.blk k _ e
                rw [hm] at hbv
                rw [Nat.zero_mul]
                exact .fl (ho _ ⟨k, _, hL, hm⟩) hbv.2.1.lt hbv.1 (by rw [← hlen, hk]) hc (by omega) hbv.2.2.2
        · cases hu
      · rename_i cs e
        split at hu
        · cases hu
        · rename_i d'
          split at hu
          · rename_i us hus
            cases hu
            have hL := lens_of e
            have hll : ∀ {cs us : List T}, mapO (inT imm g d') cs = some us → us.length = cs.length := by
              intro cs
              induction cs with
              | nil => intro us h; cases h; rfl
              | cons c cs ih2 =>
                intro us h
                simp only [mapO] at h
                split at h
                · cases h
                · split at h
                  · rename_i us' e2; cases h; simp [ih2 e2]
                  · cases h
            cases hv with
            | ow hos hl =>
              have hlen : n * sz = cs.length := by
                rcases hl with hl | hl <;> rw [hL] at hl
                · cases hl
                · injection hl with hl; injection hl with hl; exact hl.symm
              obtain ⟨hz, hle, h3⟩ := hos.os_inv hL
              have sl0 : ∀ {a : Option Addr} {cap : Nat}, n = 0 → TV w J noM noL (.sl n sz us) (.slice a n cap) := by
                intro a cap h0
                have h1 : us.length = 0 := by rw [hll hus, ← hlen, h0, Nat.zero_mul]
                subst h0
                have : us = [] := List.eq_nil_of_length_eq_zero h1
                subst this; exact .sl0
              rcases h3 with ⟨h0, a, rfl⟩ | ⟨cap, b, hm, rfl, hc, hr⟩
              · have := sl0 (a := a) (cap := 0) h0
                rwa [h0] at this ⊢
              · by_cases h0 : n = 0
                · exact sl0 h0
                · have hbv := h.blk k _ e
                  rw [hm] at hbv
                  obtain ⟨vs, v1, v2, v3, v4⟩ := hbv
                  rw [Nat.zero_mul]
                  exact .sl (ho _ ⟨k, _, hL, hm⟩) v2.lt (by rw [hll hus, hlen]) hc (by omega) (mapO_ok (fun t u v => ih d' rfl t u v) hus v1) v4
          · cases hu
      · cases hu
    · -- os
      rename_i k sz off n
      split at hu
      · rename_i ks xs e
        split at hu
        · rename_i hk
          have hk := Nat.eq_of_beq_eq_true hk
          cases hu
          have hL := lens_of e
          obtain ⟨hz, hle, h3⟩ := hv.os_inv hL
          rw [Nat.add_mul] at hle
          simp only [mulN_eq]
          rcases h3 with ⟨h0, a, rfl⟩ | ⟨cap, b, hm, rfl, hc, hr⟩
          · have := fl0 (ks := ks) (xs := List.take (n * sz) (List.drop (off * sz) xs)) (a := a) (cap := 0) h0 (by simp [h0])
            rwa [h0] at this ⊢
          · by_cases h0 : n = 0
            · exact fl0 h0 (by simp [h0])
            · have hbv := h.blk k _ e
              rw [hm] at hbv
              refine .fl (ho _ ⟨k, _, hL, hm⟩) hbv.2.1.lt hbv.1 (by simp [hk]; omega) hc (by omega) (fun i x hx => ?_)
              have hlt : i < n * sz := by have := (List.getElem?_eq_some_iff.1 hx).1; simp at this; omega
              rw [List.getElem?_take_of_lt hlt, List.getElem?_drop] at hx
              have := hbv.2.2.2 _ _ hx
              rw [Nat.zero_add] at this
              rw [this, kc_mod (by rw [← hk]; exact Nat.mul_mod_left _ _)]
        · cases hu
      · cases hu
    · split at hu
      · cases hu
      · rename_i d'
        split at hu
        · rename_i us hus; cases hu; obtain ⟨vs, rfl, hvs⟩ := hv.agg_inv; exact .agg (mapO_ok (fun t u v => ih d' rfl t u v) hus hvs)
        · cases hu
    · split at hu
      · cases hu
      · rename_i d'
        split at hu
        · rename_i us hus; cases hu; obtain ⟨vs, rfl, hvs⟩ := hv.tup_inv; exact .tup (mapO_ok (fun t u v => ih d' rfl t u v) hus hvs)
        · cases hu
    · -- op
      rename_i k b st i e
      split at hu
      · rename_i ks xs eg
        cases hu
        have hL := lens_of eg
        obtain ⟨hle, bb, hm, rfl⟩ := hv.op_inv hL
        have hbv := h.blk k _ eg
        rw [hm] at hbv
        have := TV.fp (w := w) (I := J) (m := noM) (L := noL) (off := 0) (ho _ ⟨k, _, hL, hm⟩) hbv.2.1.lt hbv.1 hle hbv.2.2.2
        rwa [Nat.zero_add] at this
      · rename_i cs eg
        split at hu
        · cases hu
        · rename_i d'
          split at hu
          · rename_i us hus
            cases hu
            have hL := lens_of eg
            obtain ⟨hle, bb, hm, rfl⟩ := hv.op_inv hL
            have hbv := h.blk k _ eg
            rw [hm] at hbv
            obtain ⟨vs, v1, v2, v3, v4⟩ := hbv
            have := TV.sp (w := w) (I := J) (m := noM) (L := noL) (i := b + i * st) (off := 0) (ho _ ⟨k, _, hL, hm⟩) v2.lt (mapO_ok (fun t u v => ih d' rfl t u v) hus v1) v4
            rwa [Nat.zero_add] at this
          · cases hu
      · cases hu
    · split at hu
      · cases hu
      · rename_i d'
        split at hu
        · rename_i e1 e2
          cases hu
          cases hv with
          | fn ha hc => exact .fn (mapO_ok (fun t u v => ih d' rfl t u v) e1 ha) (mapO_ok (fun t u v => ih d' rfl t u v) e2 hc)
        · cases hu
    · split at hu
      · cases hu
      · rename_i d'
        split at hu
        · rename_i e1
          cases hu
          cases hv with
          | ifc hx => exact .ifc (ih d' rfl _ _ _ e1 hx)
        · cases hu
    · split at hu
      · rename_i d'
        split at hu
        · rename_i us hus
          cases hu
          obtain ⟨b, off, vs, rfl, hI, hb, hvs, hf⟩ := hv.sp_inv
          exact .sp (hi rfl _ hI) hb (mapO_ok (fun t u v => ih d' rfl t u v) hus hvs) hf
        · cases hu
      · cases hu
    · split at hu
      · rename_i d'
        split at hu
        · rename_i us hus
          cases hu
          rcases hv.sl_inv with ⟨rfl, rfl, a, cap, rfl⟩ | ⟨b, off, cap, vs, rfl, hI, hb, hn, hc, hp, hvs, hf⟩
          · cases hus; exact .sl0
          · have hm := mapO_ok (fun t u v => ih d' rfl t u v) hus hvs
            exact .sl (hi rfl _ hI) hb (by rw [hm.length, ← hvs.length, hn]) hc hp hm hf
        · cases hu
      · cases hu
    · cases hu
  intro d
  induction d with
  | zero => exact core 0 (fun d' h => by omega)
  | succ d ih => exact core (d + 1) (fun d' h => by have : d = d' := by omega
                                                    subst this; exact ih)
theorem inTs_ok {w0 w : World} {O : Env} {m : Nat → Option Nat} {g : Mem} (h : HR w0 w O m g) {d : Nat} {ts us : List T} {vs : List Value} (hu : mapO (inT true g d) ts = some us) (hv : TVs w (Im m g) m (lens g) ts vs) :
    TVs w (fun _ => True) noM noL us vs :=
  mapO_ok (fun t u v hh hv => inT_ok h (J := fun _ => True) (fun _ _ _ => trivial) (fun _ _ => trivial) d t u v hh hv) hu hv

/-- The program's variables, ahead of all calls. -/
def GlP (gl : Nat → T) (w : World) : Prop := ∀ g, TV w (fun _ => True) noM noL (gl g) (.pointer (some ⟨g, 0, none⟩))
theorem Goes.pure {w w' : World} (h : Below w.heap.size w w') {I : Nat → Prop} : Goes w w' I I noM noM noL noL :=
  ⟨⟨fun _ _ hI => hI, h.size, fun b o hb _ => h.cell (p := ⟨b, o, none⟩) hb, fun k s hs => (by cases hs), fun b n hr => (SameB.of_block (h.block _ hr.lt)).room _ hr⟩, fun b o ho _ => (h.block b (Array.getElem?_eq_some_iff.1 ho).1).trans ho⟩

mutual
def noImm : T → Bool
  | .v _ => true
  | .os _ _ _ _ => true
  | .ow _ _ _ => true
  | .op _ _ _ _ _ => true
  | .agg cs => noImms cs
  | .tup cs => noImms cs
  | .ifc _ x => noImm x
  | .fn _ a c => noImms a && noImms c
  | _ => false
def noImms : List T → Bool
  | [] => true
  | t :: r => noImm t && noImms r
end
def noImmB : Hp → Bool
  | [] => true
  | (_, .fl _ _) :: r => noImmB r
  | (_, .cs cs) :: r => noImms cs && noImmB r
  | _ => false
theorem noImm_ok {w : World} {I I' : Nat → Prop} {m : Nat → Option Nat} {L : Nat → Option (Option Nat)} {t : T} {v : Value} (hv : TV w I m L t v) : noImm t = true → TV w I' m L t v := by
  refine TV.rec (motive_1 := fun t v _ => noImm t = true → TV w I' m L t v) (motive_2 := fun ts vs _ => noImms ts = true → TVs w I' m L ts vs) ?_ ?_ ?_ ?_ ?_ ?_ ?_ ?_ ?_ ?_ ?_ ?_ ?_ ?_ ?_ ?_ ?_ ?_ ?_ ?_ ?_ ?_ hv
  · intro x h _; exact .v h
  · intro ks a cap h; cases h
  · intro ks n xs b off cap _ _ _ _ _ _ _ h; cases h
  · intro ks xs b0 st i e b off _ _ _ _ _ h; cases h
  · intro sz a cap h; cases h
  · intro n sz cs vs b off cap _ _ _ _ _ _ _ _ h; cases h
  · intro cs i vs b off _ _ _ _ _ h; cases h
  · intro k sz off n n' cap a h _; exact .osx h
  · intro k sz off l a h hl hz _; exact .os0 h hl hz
  · intro k sz off n l cap b h hm hl hc hz hr _; exact .os h hm hl hc hz hr
  · intro k sz n x h hl ih _; exact .ow (ih rfl) hl
  · intro k b st i e a h _; exact .opx h
  · intro k b st i e l bb h hm hl _; exact .op h hm hl
  · intro k a h _; exact .mpx h
  · intro k b h hm _; exact .mp h hm
  · intro cs vs h ih hh; exact .agg (ih hh)
  · intro cs vs h ih hh; exact .tup (ih hh)
  · intro t x y h ih hh; exact .ifc (ih hh)
  · intro f a c as cs ha hc iha ihc hh
    rw [noImm, Bool.and_eq_true] at hh
    exact .fn (iha hh.1) (ihc hh.2)
  · intro x h; cases h
  · intro _; exact .nil
  · intro t v ts vs h r ih1 ih2 hh
    rw [noImms, Bool.and_eq_true] at hh
    exact .cons (ih1 hh.1) (ih2 hh.2)
theorem noImms_ok {w : World} {I I' : Nat → Prop} {m : Nat → Option Nat} {L : Nat → Option (Option Nat)} {ts : List T} {vs : List Value} (hv : TVs w I m L ts vs) (h : noImms ts = true) : TVs w I' m L ts vs := by
  induction ts generalizing vs with
  | nil => cases hv; exact .nil
  | cons t ts ih =>
    rw [noImms, Bool.and_eq_true] at h
    cases hv with | cons a b => exact .cons (noImm_ok a h.1) (ih b h.2)
theorem lens_nil : lens (Hp.get []) = noL := by funext k; rfl
/-- No frame waits; no old block may be turned. -/
def Env.start (w : World) : Env := ⟨fun _ => False, fun _ => ⟨#[], []⟩, w.heap.size, w.heap.size, fun _ d _ hd => by cases hd⟩
theorem HR.nil (w : World) : HR w w (Env.start w) noM (Hp.get []) :=
  ⟨Fr.refl _ _, ⟨Nat.le_refl _, Nat.le_refl _, Nat.le_refl _⟩, fun k b h => (by cases h), fun k k' l l' n h => by (rw [lens_nil] at h; cases h), fun k l n h => by (rw [lens_nil] at h; cases h)⟩
theorem Im.nil (b : Nat) : Im noM (Hp.get []) b := by rintro ⟨k, l, h, _⟩; rw [lens_nil] at h; cases h
/-- A function that makes t of args, with blocks bs of its own, and leaves what was there as it was. -/
def Pure (P : Program) (gl : Nat → T) (f : FuncId) (args : List T) (t : T) (bs : Hp := []) : Prop :=
  ∀ w vs, GlP gl w → TVs w (fun _ => True) noM noL args vs → Calls P f vs.toArray w fun e w' => ∃ v m, e = .returned v ∧ HR w w' (Env.start w) m (Hp.get bs) ∧ TV w' (Im m (Hp.get bs)) m (lens (Hp.get bs)) t v

/-! ### what a walk is to end with -/
/-- nil, where a slice of the function's own is looked for. -/
def nrm1 (bs : Hp) (x : Value) (t : T) (H : Hp) (K : T → Hp → Prop) : Prop := match x with
  | .slice none 0 0 => match t with
    | .ow i sz _ => match isNew H.get (900000 + i) && Nat.blt 0 sz with
      | true => match bs.get i with
        | some (.fl (k :: ks) _) => K (.ow (900000 + i) sz 0) ((900000 + i, .fl (k :: ks) []) :: H)
        | some (.cs _) => K (.ow (900000 + i) sz 0) ((900000 + i, .cs []) :: H)
        | _ => K (.v (.slice none 0 0)) H
      | false => K (.v (.slice none 0 0)) H
    | _ => K (.v (.slice none 0 0)) H
  | x => K (.v x) H
def nrmL (f : T → T → Hp → (T → Hp → Prop) → Prop) : List T → List T → Hp → (List T → Hp → Prop) → Prop
  | u :: us, t :: ts, H, K => f u t H fun u H => nrmL f us ts H fun us H => K (u :: us) H
  | us, _, H, K => K us H
def nrm (bs : Hp) : Nat → T → T → Hp → (T → Hp → Prop) → Prop
  | 0, u, _, H, K => K u H
  | d + 1, u, t, H, K => match u with
    | .v x => nrm1 bs x t H K
    | .tup us => match t with
      | .tup ts => nrmL (nrm bs d) us ts H fun us H => K (.tup us) H
      | _ => K (.tup us) H
    | .agg us => match t with
      | .agg ts => nrmL (nrm bs d) us ts H fun us H => K (.agg us) H
      | _ => K (.agg us) H
    | u => K u H
def dedup : List Nat → List Nat → List Nat
  | [], acc => acc
  | k :: r, acc => match memN acc k with
    | true => dedup r acc
    | false => dedup r (acc ++ [k])
def keysB (H : Hp) : List Nat → List Nat
  | [] => []
  | k :: r => match H.get k with
    | some (.cs cs) => keysTs cs ++ keysB H r
    | _ => keysB H r
def reach (H : Hp) (u : T) : List Nat :=
  let l := dedup (keysT u) []
  let l := dedup (keysB H l) l
  let l := dedup (keysB H l) l
  dedup (keysB H l) l
def numb : List Nat → Nat → List (Nat × Nat)
  | [], _ => []
  | k :: r, i => (k, i) :: numb r (i + 1)
mutual
/-- Two tellings of a value are one. -/
def eqD : T → T → Prop
  | .tup a, t => match t with
    | .tup b => eqDs a b
    | t => T.tup a = t
  | .agg a, t => match t with
    | .agg b => eqDs a b
    | t => T.agg a = t
  | .ow k sz n, t => match t with
    | .ow k' sz' n' => match Nat.beq k k' && Nat.beq sz sz' with
      | true => n = n'
      | false => False
    | t => T.ow k sz n = t
  | u, t => u = t
def eqDs : List T → List T → Prop
  | [], [] => True
  | a :: r, b :: s => eqD a b ∧ eqDs r s
  | _, _ => False
end
def eqH : Hp → Hp → Prop
  | [], [] => True
  | (k, b) :: r, (k', b') :: r' => match Nat.beq k k' with
    | true => (match b with
      | .fl ks xs => match b' with
        | .fl ks' xs' => ks = ks' ∧ xs = xs'
        | b' => Blk.fl ks xs = b'
      | .cs cs => match b' with
        | .cs cs' => eqDs cs cs'
        | b' => Blk.cs cs = b'
      | b => b = b') ∧ eqH r r'
    | false => False
  | _, _ => False
mutual
theorem eqD_eq : ∀ (u t : T), eqD u t → u = t
  | .tup a, t, h => by
    simp only [eqD] at h
    split at h
    · rw [eqDs_eq _ _ h]
    · exact h
  | .agg a, t, h => by
    simp only [eqD] at h
    split at h
    · rw [eqDs_eq _ _ h]
    · exact h
  | .ow k sz n, t, h => by
    simp only [eqD] at h
    split at h
    · split at h
      · rename_i e
        rw [Bool.and_eq_true] at e
        rw [Nat.eq_of_beq_eq_true e.1, Nat.eq_of_beq_eq_true e.2, h]
      · exact h.elim
    · exact h
  | .v x, t, h => by simpa only [eqD] using h
  | .fl _ _ _, t, h => by simpa only [eqD] using h
  | .fp _ _ _ _ _ _, t, h => by simpa only [eqD] using h
  | .sl _ _ _, t, h => by simpa only [eqD] using h
  | .sp _ _, t, h => by simpa only [eqD] using h
  | .os _ _ _ _, t, h => by simpa only [eqD] using h
  | .op _ _ _ _ _, t, h => by simpa only [eqD] using h
  | .mp _, t, h => by simpa only [eqD] using h
  | .ifc _ _, t, h => by simpa only [eqD] using h
  | .fn _ _ _, t, h => by simpa only [eqD] using h
  | .dead, t, h => by simpa only [eqD] using h
theorem eqDs_eq : ∀ (a b : List T), eqDs a b → a = b
  | [], [], _ => rfl
  | [], _ :: _, h => by simp only [eqDs] at h
  | _ :: _, [], h => by simp only [eqDs] at h
  | a :: r, b :: s, h => by simp only [eqDs] at h; rw [eqD_eq a b h.1, eqDs_eq r s h.2]
end
theorem eqH_eq : ∀ {a b : Hp}, eqH a b → a = b := by
  intro a
  induction a with
  | nil => intro b h; cases b with
    | nil => rfl
    | cons p b => exact h.elim
  | cons p a ih =>
    obtain ⟨k, x⟩ := p
    intro b h
    cases b with
    | nil => exact h.elim
    | cons q b =>
      obtain ⟨k', y⟩ := q
      simp only [eqH] at h
      split at h
      · rename_i e
        rw [Nat.eq_of_beq_eq_true e, ih h.2]
        have h1 := h.1
        split at h1
        · split at h1
          · rw [h1.1, h1.2]
          · rw [h1]
        · split at h1
          · rw [eqDs_eq _ _ h1]
          · rw [h1]
        · rw [h1]
      · exact h.elim
def endE (u t : T) (H bs : Hp) : Prop := match bs with
  | [] => match H with
    | [] => eqD u t
    | _ :: _ => False
  | b :: bs => eqD u t ∧ eqH H (b :: bs)
theorem endE_eq {u t : T} {H bs : Hp} (h : endE u t H bs) : u = t ∧ H = bs := by
  unfold endE at h
  split at h
  · split at h
    · exact ⟨eqD_eq _ _ h, rfl⟩
    · exact h.elim
  · exact ⟨eqD_eq _ _ h.1, eqH_eq h.2⟩
/-- A numbering, laid out. -/
def fR : List Nat → Nat → (List (Nat × Nat) → Prop) → Prop
  | [], _, K => K []
  | k :: r, i, K => fN k fun k => fN i fun i => fR r (i + 1) fun l => K ((k, i) :: l)
theorem fR_eq (l : List Nat) (i : Nat) (K : List (Nat × Nat) → Prop) : fR l i K = K (numb l i) := by
  induction l generalizing i K with
  | nil => rfl
  | cons k r ih => rw [fR, fN_eq, fN_eq, ih]; rfl
def endO (d : Nat) (t : T) (bs : Hp) (u : T) (H : Hp) : Prop := nrm bs d u t H fun u H => fT u fun u => fU H [] fun H => fR (reach H u) 0 fun ren => match (Plan.mk [] ren []).fine with
  | true => fT (u.sub ((Plan.mk [] ren []).f H)) fun u' => fU ((Plan.mk [] ren []).H H) [] fun H' => endE u' t H' bs
  | false => False

section
variable {w0 : World} {O : Env}
/-- A value and the machine's own memory are as is told. -/
def VR (w0 : World) (O : Env) (H : Hp) (w : World) (u : T) (v : Value) : Prop := ∃ m, HR w0 w O m H.get ∧ TV w (Im m H.get) m (lens H.get) u v
def VRs (w0 : World) (O : Env) (H : Hp) (w : World) (us : List T) (vs : List Value) (rest : List T) (vr : List Value) : Prop := ∃ m, HR w0 w O m H.get ∧ TVs w (Im m H.get) m (lens H.get) us vs ∧ TVs w (Im m H.get) m (lens H.get) rest vr
theorem nrm1_ok {bs : Hp} {x : Value} {t : T} {H : Hp} {K : T → Hp → Prop} (h : nrm1 bs x t H K) {w : World} {m : Nat → Option Nat} {v : Value} {rest : List T} {vr : List Value} (hr : HR w0 w O m H.get) (hv : TV w (Im m H.get) m (lens H.get) (.v x) v) (hrest : TVs w (Im m H.get) m (lens H.get) rest vr) :
    ∃ u H' m', K u H' ∧ HR w0 w O m' H'.get ∧ TV w (Im m' H'.get) m' (lens H'.get) u v ∧ TVs w (Im m' H'.get) m' (lens H'.get) rest vr := by
  have same : ∀ {u : T}, K u H → TV w (Im m H.get) m (lens H.get) u v → ∃ u H' m', K u H' ∧ HR w0 w O m' H'.get ∧ TV w (Im m' H'.get) m' (lens H'.get) u v ∧ TVs w (Im m' H'.get) m' (lens H'.get) rest vr := fun hk hv => ⟨_, H, m, hk, hr, hv, hrest⟩
  have new : ∀ {q sz : Nat} {B : Blk}, H.get q = none → (B = .cs [] ∨ ∃ k ks, B = .fl (k :: ks) []) → 0 < sz → x = .slice none 0 0 → K (.ow q sz 0) ((q, B) :: H) → ∃ u H' m', K u H' ∧ HR w0 w O m' H'.get ∧ TV w (Im m' H'.get) m' (lens H'.get) u v ∧ TVs w (Im m' H'.get) m' (lens H'.get) rest vr := by
    intro q sz B hk hB hz hx hK
    have hbv : BV O w (Im (mk1 m q none) (upd H.get [(q, B)])) (mk1 m q none) (lens (upd H.get [(q, B)])) B none := by
      rcases hB with rfl | ⟨k, ks, rfl⟩
      · exact rfl
      · exact ⟨by simp, rfl⟩
    have hlen : B.len? = some 0 := by rcases hB with rfl | ⟨k, ks, rfl⟩ <;> rfl
    have hN := hr.newB (k := q) (n := none) (b := B) (Below.refl _ w) hk (fun q hq => by cases hq) hbv
    have G := Goes.new hr (k := q) (n := none) (b := B) (Below.refl _ w) hk (fun q hq => by cases hq)
    have hlk : lens (upd H.get [(q, B)]) q = some (some 0) := by rw [lens_upd, if_pos rfl, hlen]
    rw [← get_cons] at hN G hlk
    refine ⟨_, _, _, hK, hN, ?_, hrest.goes G⟩
    obtain ⟨rfl, -⟩ := hv.v_inv
    rw [hx]
    exact .ow (.os0 hlk (by omega) hz) (.inr (by rw [hlk]; simp))
  unfold nrm1 at h
  split at h
  · split at h
    · split at h
      · rename_i hc
        rw [Bool.and_eq_true, Nat.blt_eq] at hc
        split at h
        · exact new (isNew_none hc.1) (.inr ⟨_, _, rfl⟩) hc.2 rfl h
        · exact new (isNew_none hc.1) (.inl rfl) hc.2 rfl h
        · exact same h hv
      · exact same h hv
    · exact same h hv
  · exact same h hv
theorem nrm_ok {bs : Hp} {w : World} : ∀ (d : Nat) {u t : T} {H : Hp} {K : T → Hp → Prop}, nrm bs d u t H K → ∀ {m : Nat → Option Nat} {v : Value} {rest : List T} {vr : List Value}, HR w0 w O m H.get → TV w (Im m H.get) m (lens H.get) u v → TVs w (Im m H.get) m (lens H.get) rest vr →
    ∃ u H' m', K u H' ∧ HR w0 w O m' H'.get ∧ TV w (Im m' H'.get) m' (lens H'.get) u v ∧ TVs w (Im m' H'.get) m' (lens H'.get) rest vr := by
  intro d
  induction d with
  | zero => intro u t H K h m v rest vr hr hv hrest; exact ⟨_, _, _, h, hr, hv, hrest⟩
  | succ d ih =>
    have list : ∀ {us ts : List T} {H : Hp} {K : List T → Hp → Prop}, nrmL (nrm bs d) us ts H K → ∀ {m : Nat → Option Nat} {vs : List Value} {rest : List T} {vr : List Value}, HR w0 w O m H.get → TVs w (Im m H.get) m (lens H.get) us vs → TVs w (Im m H.get) m (lens H.get) rest vr →
        ∃ us H' m', K us H' ∧ HR w0 w O m' H'.get ∧ TVs w (Im m' H'.get) m' (lens H'.get) us vs ∧ TVs w (Im m' H'.get) m' (lens H'.get) rest vr := by
      intro us
      induction us with
      | nil => intro ts H K h m vs rest vr hr hv hrest; exact ⟨_, _, _, (by cases ts <;> exact h), hr, hv, hrest⟩
      | cons u us ihl =>
        intro ts H K h m vs rest vr hr hv hrest
        cases ts with
        | nil => exact ⟨_, _, _, h, hr, hv, hrest⟩
        | cons t ts =>
          cases hv with
          | cons a b =>
            rename_i v vs
            obtain ⟨u', H', m', h', hr', hv', hrest'⟩ := ih h hr a (b.append hrest)
            have hl : us.length = vs.length := b.length
            have b' : TVs w (Im m' H'.get) m' (lens H'.get) us vs := by
              have := hrest'.take us.length
              rw [List.take_left, hl, List.take_left] at this
              exact this
            have r' : TVs w (Im m' H'.get) m' (lens H'.get) rest vr := by
              have := hrest'.drop us.length
              rw [List.drop_left, hl, List.drop_left] at this
              exact this
            obtain ⟨us'', H'', m'', h'', hr'', hv'', hrest''⟩ := ihl h' hr' b' (.cons hv' r')
            cases hrest'' with
            | cons p q => exact ⟨_, _, _, h'', hr'', .cons p hv'', q⟩
    intro u t H K h m v rest vr hr hv hrest
    cases u
    case v x => exact nrm1_ok h hr hv hrest
    case tup us =>
      simp only [nrm] at h
      obtain ⟨vs, rfl, hvs⟩ := hv.tup_inv
      split at h
      · obtain ⟨us', H', m', h', hr', hv', hrest'⟩ := list h hr hvs hrest
        exact ⟨_, _, _, h', hr', .tup hv', hrest'⟩
      · exact ⟨_, _, _, h, hr, .tup hvs, hrest⟩
    case agg us =>
      simp only [nrm] at h
      obtain ⟨vs, rfl, hvs⟩ := hv.agg_inv
      split at h
      · obtain ⟨us', H', m', h', hr', hv', hrest'⟩ := list h hr hvs hrest
        exact ⟨_, _, _, h', hr', .agg hv', hrest'⟩
      · exact ⟨_, _, _, h, hr, .agg hvs, hrest⟩
    all_goals exact ⟨_, _, _, h, hr, hv, hrest⟩
end
/-- A pure function, by the walk of its code. d: how deep what it hands back may be; q: how deep functions are walked where they are called; lv: slots that are looked at in more than one region (none: all). -/
theorem pure_of {C : Ctx} (hC : C.good) {f : FuncId} {fn : Func} {c : Code} (hf : C.P.funcs[f]? = some fn) (hb : fn.body = some c) {args : List T} {t : T} {bs : Hp} (hn : args.length ≤ fn.ntmps) (d q : Nat) (lv : List Nat)
    (h : vcL C q fn.ntmps 0 false lv c (slots 0 args) [] (retK C fn (endO d t bs))) : Pure C.P C.gl f args t bs := by
  intro w vs hg ha
  have G : Goes w w (fun _ => True) (Im noM (Hp.get [])) noM noM noL (lens (Hp.get [])) := by
    rw [lens_nil]; exact ⟨⟨fun b _ _ => Im.nil b, Nat.le_refl _, fun _ _ _ _ => rfl, fun k s hs => (by cases hs), fun _ _ hr => hr⟩, fun _ _ ho _ => ho⟩
  refine (calls_ok (vs := vs.toArray) hf hb (HR.nil w) (by simpa using ha.goes G) (fun g => (hg g).goes G) hn (vcL_ok hC q _ _ _ _ _ _ _ _ h)).mono ?_
  rintro e w' ⟨v, u, H, m, rfl, hu, hr, hgl, hv⟩
  obtain ⟨u1, H1, m1, hK, r1, v1, -⟩ := nrm_ok d hu hr hv .nil
  rw [fT_eq, fU_eq, List.append_nil, fR_eq] at hK
  split at hK
  · rename_i hfine
    rw [fT_eq, fU_eq, List.append_nil] at hK
    have hgl1 : GlOk C w' (Im m1 H1.get) m1 (lens H1.get) := by
      intro g
      rcases hC.glq g with e | ⟨ks, xs, b, st, i, e', e⟩
      · rw [e]; exact .dead
      · have := hg g
        rw [e] at this ⊢
        obtain ⟨b', off, hv, hI, hb, hk, he, hf⟩ := this.fp_inv
        have hbel := r1.fr.below (fun _ h => h)
        rw [hv]
        refine .fp (fun ho => ?_) (Nat.lt_of_lt_of_le hb hbel.size) hk he (fun i x hx => (hbel.cell (p := ⟨b', _, none⟩) hb).trans (hf i x hx))
        obtain ⟨k, l, h1, h2⟩ := ho
        rcases r1.new k l b' h1 h2 with h3 | h3
        · omega
        · exact h3
    have hrl : Rl C 1 w (Env.start w) [(0, u1)] H1 ⟨#[v], []⟩ w' := by
      refine ⟨m1, r1, fun i => ?_, hgl1, ⟨trivial, fun d hd => by cases hd⟩, rfl⟩
      cases i with
      | zero => exact v1
      | succ i => exact .dead
    obtain ⟨m2, p1, p2, -, -, -⟩ := plan_ok (Plan.mk [0] (numb (reach H1 u1) 0) []) hfine hrl hC.glq
    have p3 := p2 0
    obtain ⟨e1, e2⟩ := endE_eq hK
    refine ⟨v, m2, rfl, ?_, ?_⟩
    · rw [← e2]; exact p1
    · rw [← e2, ← e1]; exact p3
  · exact hK.elim

mutual
/-- What is known of a value's lengths. -/
def WfT : T → Prop
  | .fl ks n xs => xs.length = n * ks.length ∧ n ≤ 9223372036854775807
  | .sl n sz cs => cs.length = n * sz ∧ n ≤ 9223372036854775807 ∧ WfTs cs
  | .agg cs => WfTs cs
  | .tup cs => WfTs cs
  | .sp cs _ => WfTs cs
  | _ => True
def WfTs : List T → Prop
  | [] => True
  | t :: r => WfT t ∧ WfTs r
end
theorem wf_TVs {w : World} {I : Nat → Prop} {m : Nat → Option Nat} {L : Nat → Option (Option Nat)} {ts : List T} {vs : List Value} (h : TVs w I m L ts vs) : WfTs ts := by
  refine TVs.rec (motive_1 := fun t v _ => WfT t) (motive_2 := fun ts vs _ => WfTs ts) ?_ ?_ ?_ ?_ ?_ ?_ ?_ ?_ ?_ ?_ ?_ ?_ ?_ ?_ ?_ ?_ ?_ ?_ ?_ ?_ ?_ ?_ h
  all_goals first
    | (intros; trivial)
    | (intros; simp only [WfT, WfTs]; first | assumption | exact ⟨by simp, by omega⟩ | (refine ⟨by assumption, ?_⟩; omega) | (refine ⟨by simp, by omega, trivial⟩) | (refine ⟨by assumption, ?_, by assumption⟩; omega) | exact ⟨by assumption, by assumption⟩)
/-- The lengths of what came in are known. -/
theorem pure_wf {P : Program} {gl : Nat → T} {f : FuncId} {args : List T} {t : T} {bs : Hp} (h : WfTs args → Pure P gl f args t bs) : Pure P gl f args t bs := fun w vs hg ha => h (wf_TVs ha) w vs hg ha

mutual
/-- The value itself, where all of it is known. -/
def valT : T → Option Value
  | .v x => some x
  | .agg cs => match valTs cs with
    | some l => some (.agg l.toArray)
    | none => none
  | .tup cs => match valTs cs with
    | some l => some (.tuple l.toArray)
    | none => none
  | _ => none
def valTs : List T → Option (List Value)
  | [] => some []
  | t :: r => match valT t, valTs r with
    | some v, some l => some (v :: l)
    | _, _ => none
end
theorem TV.val {w : World} {I : Nat → Prop} {m : Nat → Option Nat} {L : Nat → Option (Option Nat)} {t : T} {v : Value} (h : TV w I m L t v) : ∀ {u : Value}, valT t = some u → v = u := by
  refine TV.rec (motive_1 := fun t v _ => ∀ {u : Value}, valT t = some u → v = u) (motive_2 := fun ts vs _ => ∀ {l : List Value}, valTs ts = some l → vs = l) ?_ ?_ ?_ ?_ ?_ ?_ ?_ ?_ ?_ ?_ ?_ ?_ ?_ ?_ ?_ ?_ ?_ ?_ ?_ ?_ ?_ ?_ h
  all_goals first
    | (intro x h u e; simp only [valT, Option.some.injEq] at e; exact e)
    | (intros; rename_i e; simp only [valT] at e; cases e; done)
    | (intro cs vs h ih u e
       simp only [valT] at e
       split at e
       · rename_i l hl; cases e; have := ih hl; simp [← this]
       · cases e)
    | (intro l e; simp only [valTs] at e; cases e; rfl)
    | (intro t v ts vs h r ih1 ih2 l e
       simp only [valTs] at e
       split at e
       · rename_i e1 e2; cases e; rw [ih1 e1, ih2 e2]
       · cases e)
theorem TVs.nil_inv {w : World} {I m L} {vs : List Value} (h : TVs w I m L [] vs) : vs = [] := by cases h; rfl
theorem TVs.cons_inv {w : World} {I m L} {t : T} {ts : List T} {vs : List Value} (h : TVs w I m L (t :: ts) vs) : ∃ v r, vs = v :: r ∧ TV w I m L t v ∧ TVs w I m L ts r := by cases h with | cons a b => exact ⟨_, _, rfl, a, b⟩

/-! ### a table of functions -/
structure Entry where
  f : FuncId
  d : Nat
  sp : List T → Option (Option Prop × T × Hp)
def look : List Entry → FuncId → Option Entry
  | [], _ => none
  | e :: r, f => match Nat.beq e.f f with
    | true => some e
    | false => look r f
def shK (key : Nat) : Nat → Sub := fun k => .to (key + k)
def shB (key : Nat) : Hp → List (Nat × Blk)
  | [] => []
  | (k, b) :: r => (key + k, b.sub (shK key)) :: shB key r
def keys4 : Hp → Bool
  | [] => true
  | (k, _) :: r => Nat.blt k 4 && keys4 r
def specOf (l : List Entry) (key : Nat) (f : FuncId) (args : List T) (g : Mem) : Option Out := match look l f with
  | some e => match mapO (inT true g e.d) args with
    | some us => match e.sp us with
      | some (c, t, bs) => match noImm t && noImmB bs && keys4 bs with
        | true => some ⟨c, t.sub (shK key), shB key bs⟩
        | false => none
      | none => none
    | none => none
  | none => none
/-- What an entry tells is so. -/
structure Entry.ok (P : Program) (gl : Nat → T) (e : Entry) : Prop where
  enters : ∀ vs w, (callFunc e.f vs).run P w = .ok (.enter e.f vs) w
  calls : ∀ args c t bs, e.sp args = some (c, t, bs) → (∀ p, c = some p → p) → Pure P gl e.f args t bs

theorem enters_of {P : Program} {f : FuncId} {fn : Func} (hf : P.funcs[f]? = some fn) (h1 : (fn.name == "runtime.NumGoroutine") = false) (h2 : fn.body.isNone = false) : ∀ vs w, (callFunc f vs).run P w = .ok (.enter f vs) w := by
  intro vs w
  simp only [callFunc, Sem.run_bind, run_program, Result.andThen_ok, hf, h1, h2, Bool.false_eq_true, if_false]
  rfl
theorem look_mem {l : List Entry} {f : FuncId} {e : Entry} (h : look l f = some e) : e ∈ l ∧ e.f = f := by
  induction l with
  | nil => cases h
  | cons a l ih =>
    simp only [look] at h
    split at h
    · rename_i hb; cases h; exact ⟨List.mem_cons_self .., Nat.eq_of_beq_eq_true hb⟩
    · obtain ⟨h1, h2⟩ := ih h; exact ⟨List.mem_cons_of_mem _ h1, h2⟩

/-- The setting of a walk: a program, its variables, a table; functions that are walked where they are called. -/
def ctx (P : Program) (gl : Nat → T) (l : List Entry) (eqs : List Nat) (heq : ∀ t, hasN eqs t = true → P.stoodInHeld t = false) (inl : List Inl) (hinl : ∀ i ∈ inl, i.ok P) : Ctx := ⟨P, gl, specOf l, eqs, heq, inl, hinl⟩
theorem inT_closed {imm : Bool} {g g' : Mem} : ∀ (d : Nat) (t : T) (D : Nat), (∀ q ∈ keysT t, Agree g g' D q) → inT imm g d t = inT imm g' d t := by
  have ml : ∀ {f f' : T → Option T} {l : List T}, (∀ t ∈ l, f t = f' t) → mapO f l = mapO f' l := by
    intro f f' l h
    induction l with
    | nil => rfl
    | cons t l ih => simp only [mapO]; rw [h t (List.mem_cons_self ..), ih (fun u hu => h u (List.mem_cons_of_mem _ hu))]
  have kl : ∀ {l : List T} {q : Nat}, ∀ t ∈ l, q ∈ keysT t → q ∈ keysTs l := by
    intro l q
    induction l with
    | nil => intro t ht; simp at ht
    | cons a l ih =>
      intro t ht hq
      simp only [keysTs]
      rcases List.mem_cons.1 ht with rfl | ht
      · exact List.mem_append.2 (.inl hq)
      · exact List.mem_append.2 (.inr (ih t ht hq))
  intro d
  induction d with
  | zero =>
    intro t D h
    cases t <;> first | rfl | (unfold inT; cases imm <;> rfl) | (have h1 := (h _ (List.mem_singleton.2 rfl)).eq; unfold inT; simp only [h1])
  | succ d ih =>
    have cells : ∀ {k D : Nat} {cs : List T}, Agree g g' D k → g' k = some (.cs cs) → mapO (inT imm g d) cs = mapO (inT imm g' d) cs := by
      intro k D cs hA hc
      obtain ⟨D', h'⟩ := hA.cs hc
      exact ml (fun t ht => ih t D' (fun q hq => h' q (kl t ht hq)))
    intro t D h
    cases t <;> first | rfl | skip
    case os k sz off n => have h1 := (h _ (List.mem_singleton.2 rfl)).eq; unfold inT; simp only [h1]
    case ow k sz n =>
      have hA := h k (List.mem_singleton.2 rfl)
      unfold inT
      simp only [hA.eq]
      cases e : g' k with
      | none => rfl
      | some B =>
        cases B with
        | cs cs => simp only [cells hA e]
        | fl ks xs => rfl
        | mp kk vk es => rfl
        | gone => rfl
        | gh id ts => rfl
        | lp id l st pe n ts ps asg body => rfl
    case op k b st i e0 =>
      have hA := h k (List.mem_singleton.2 rfl)
      unfold inT
      simp only [hA.eq]
      cases e : g' k with
      | none => rfl
      | some B =>
        cases B with
        | cs cs => simp only [cells hA e]
        | fl ks xs => rfl
        | mp kk vk es => rfl
        | gone => rfl
        | gh id ts => rfl
        | lp id l st pe n ts ps asg body => rfl
    case sl n sz cs => unfold inT; cases imm <;> simp only [ml (fun t ht => ih t D (fun q hq => h q (by simpa only [keysT] using kl t ht hq)))]
    case agg cs => unfold inT; simp only [ml (fun t ht => ih t D (fun q hq => h q (by simpa only [keysT] using kl t ht hq)))]
    case tup cs => unfold inT; simp only [ml (fun t ht => ih t D (fun q hq => h q (by simpa only [keysT] using kl t ht hq)))]
    case sp cs i => unfold inT; cases imm <;> simp only [ml (fun t ht => ih t D (fun q hq => h q (by simpa only [keysT] using kl t ht hq)))]
    case ifc ty x => unfold inT; simp only [ih x D (fun q hq => h q (by simpa only [keysT] using hq))]
    case fn f a c =>
      unfold inT; simp only [ml (fun t ht => ih t D (fun q hq => h q (by simp only [keysT]; exact List.mem_append.2 (.inl (kl t ht hq))))), ml (fun t ht => ih t D (fun q hq => h q (by simp only [keysT]; exact List.mem_append.2 (.inr (kl t ht hq)))))]
theorem mapO_closed {imm : Bool} {g g' : Mem} {d D : Nat} {l : List T} (h : ∀ q ∈ keysTs l, Agree g g' D q) : mapO (inT imm g d) l = mapO (inT imm g' d) l := by
  induction l with
  | nil => rfl
  | cons t l ih =>
    simp only [keysTs] at h
    simp only [mapO]; rw [inT_closed (g' := g') d t D (fun q hq => h q (List.mem_append.2 (.inl hq))), ih (fun q hq => h q (List.mem_append.2 (.inr hq)))]

/-- A table whose entries are so makes a good setting. -/
theorem shB_get {key : Nat} {bs : Hp} {g : Mem} : ∀ q, upd g (shB key bs) q = match (if key ≤ q then bs.get (q - key) else none) with
    | some b => some (b.sub (shK key))
    | none => g q := by
  intro q
  induction bs with
  | nil => by_cases h : key ≤ q <;> simp [shB, upd, Hp.get, h]
  | cons p bs ih =>
    obtain ⟨k, b⟩ := p
    simp only [shB, upd, Hp.get]
    by_cases h : key ≤ q
    · rw [if_pos h] at ih ⊢
      cases e : Nat.beq (key + k) q
      · have : Nat.beq k (q - key) = false := by
          cases e2 : Nat.beq k (q - key)
          · rfl
          · have := Nat.eq_of_beq_eq_true e2; subst this
            rw [show key + (q - key) = q by omega, Nat.beq_refl] at e; cases e
        rw [this]; exact ih
      · have := Nat.eq_of_beq_eq_true e; subst this
        rw [show key + k - key = k by omega, Nat.beq_refl]; rfl
    · rw [if_neg h] at ih ⊢
      have : Nat.beq (key + k) q = false := by
        cases e2 : Nat.beq (key + k) q
        · rfl
        · have := Nat.eq_of_beq_eq_true e2; omega
      rw [this]; exact ih
theorem keys4_get {bs : Hp} (h : keys4 bs = true) {k : Nat} {b : Blk} (hk : bs.get k = some b) : k < 4 := by
  induction bs with
  | nil => cases hk
  | cons p bs ih =>
    obtain ⟨j, c⟩ := p
    rw [keys4, Bool.and_eq_true, Nat.blt_eq] at h
    simp only [Hp.get] at hk
    cases e : Nat.beq j k
    · rw [e] at hk; exact ih h.2 hk
    · have := Nat.eq_of_beq_eq_true e; subst this; exact h.1
theorem noImmB_get {bs : Hp} (h : noImmB bs = true) {k : Nat} {b : Blk} (hk : bs.get k = some b) : (∃ ks xs, b = .fl ks xs) ∨ ∃ cs, b = .cs cs ∧ noImms cs = true := by
  induction bs with
  | nil => cases hk
  | cons p bs ih =>
    obtain ⟨j, c⟩ := p
    have hr : noImmB bs = true ∧ ((∃ ks xs, c = .fl ks xs) ∨ ∃ cs, c = .cs cs ∧ noImms cs = true) := by
      cases c with
      | fl ks xs => exact ⟨h, .inl ⟨_, _, rfl⟩⟩
      | cs cs => rw [noImmB, Bool.and_eq_true] at h; exact ⟨h.2, .inr ⟨_, rfl, h.1⟩⟩
      | mp kk vk es => cases h
      | gone => cases h
      | gh id ts => cases h
      | lp id l st pe n ts ps asg body => cases h
    simp only [Hp.get] at hk
    cases e : Nat.beq j k
    · rw [e] at hk; exact ih hr.1 hk
    · rw [e] at hk; cases hk; exact hr.2
theorem lens_none {g : Mem} {k : Nat} (h : g k = none) : lens g k = none := by unfold lens; rw [h]
/-- What a function has made of its own becomes the caller's. -/
theorem HR.take {w0 w w' : World} {O : Env} {m m' : Nat → Option Nat} {g : Mem} {bs : Hp} {key : Nat} (h : HR w0 w O m g) (hb : HR w w' (Env.start w) m' bs.get) (hk : news g key = true) (h4 : keys4 bs = true) (hn : noImmB bs = true) {t : T} {v : Value} (ht : noImm t = true) (hv : TV w' (Im m' bs.get) m' (lens bs.get) t v) :
    ∃ m'', HR w0 w' O m'' (upd g (shB key bs)) ∧ Goes w w' (Im m g) (Im m'' (upd g (shB key bs))) m m'' (lens g) (lens (upd g (shB key bs))) ∧ TV w' (Im m'' (upd g (shB key bs))) m'' (lens (upd g (shB key bs))) (t.sub (shK key)) v := by
  have bel := hb.fr.below (fun _ h => h)
  have G0 := Goes.of_below bel h
  let m'' : Nat → Option Nat := fun q => match (if key ≤ q then bs.get (q - key) else none) with
    | some _ => m' (q - key)
    | none => m q
  have gN : ∀ q, (if key ≤ q then bs.get (q - key) else none) = none → upd g (shB key bs) q = g q ∧ m'' q = m q := fun q e => ⟨by rw [shB_get, e], by simp only [m'', e]⟩
  have gS : ∀ k b, bs.get k = some b → upd g (shB key bs) (key + k) = some (b.sub (shK key)) ∧ m'' (key + k) = m' k := fun k b e => by
    have e1 : (if key ≤ key + k then bs.get (key + k - key) else none) = some b := by rw [if_pos (by omega), show key + k - key = k by omega]; exact e
    exact ⟨by rw [shB_get, e1], by simp only [m'', e1]; rw [show key + k - key = k by omega]⟩
  have old : ∀ q b, (if key ≤ q then bs.get (q - key) else none) = some b → g q = none := fun q b e => by
    split at e
    · have := keys4_get h4 e
      unfold news at hk
      simp only [Bool.and_eq_true] at hk
      have : q = key ∨ q = key + 1 ∨ q = key + 2 ∨ q = key + 3 := by omega
      rcases this with rfl | rfl | rfl | rfl
      · exact isNew_none hk.1.1.1
      · exact isNew_none hk.1.1.2
      · exact isNew_none hk.1.2
      · exact isNew_none hk.2
    · cases e
  have cs : ∀ q, (if key ≤ q then bs.get (q - key) else none) = none ∨ ∃ b, (if key ≤ q then bs.get (q - key) else none) = some b ∧ key ≤ q ∧ bs.get (q - key) = some b := fun q => by
    cases e : (if key ≤ q then bs.get (q - key) else none) with
    | none => exact .inl rfl
    | some b =>
      right
      refine ⟨b, rfl, ?_⟩
      split at e
      · exact ⟨by assumption, e⟩
      · cases e
  have lN : ∀ q, (if key ≤ q then bs.get (q - key) else none) = none → lens (upd g (shB key bs)) q = lens g q := fun q e => by unfold lens; rw [(gN q e).1]
  have lS : ∀ k b, bs.get k = some b → lens (upd g (shB key bs)) (key + k) = lens bs.get k := fun k b e => by rw [lens_of (gS k b e).1, sub_len, lens_of e]
  have own : ∀ q l x, lens (upd g (shB key bs)) q = some (some l) → m'' q = some x → (lens g q = some (some l) ∧ m q = some x) ∨ ∃ k b, q = key + k ∧ bs.get k = some b ∧ lens bs.get k = some (some l) ∧ m' k = some x := fun q l x h1 h2 => by
    rcases cs q with e | ⟨b, e, hq, e2⟩
    · left; rw [lN q e] at h1; rw [(gN q e).2] at h2; exact ⟨h1, h2⟩
    · right
      obtain ⟨k, rfl⟩ : ∃ k, q = key + k := ⟨q - key, by omega⟩
      rw [show key + k - key = k by omega] at e2
      rw [lS k b e2] at h1; rw [(gS k b e2).2] at h2
      exact ⟨k, b, rfl, e2, h1, h2⟩
  have newB : ∀ k l x, lens bs.get k = some (some l) → m' k = some x → w.heap.size ≤ x := fun k l x h1 h2 => by
    rcases hb.new k l x h1 h2 with h3 | h3
    · exact h3
    · exact h3.elim
  have G : Goes w w' (Im m g) (Im m'' (upd g (shB key bs))) m m'' (lens g) (lens (upd g (shB key bs))) := by
    refine ⟨⟨fun b hb' hI ho => ?_, bel.size, G0.cell, fun k s hs => ?_, G0.room⟩, G0.odd⟩
    · obtain ⟨q, l, h1, h2⟩ := ho
      rcases own q l b h1 h2 with ⟨a1, a2⟩ | ⟨k, B, _, _, a3, a4⟩
      · exact hI ⟨q, l, a1, a2⟩
      · have := newB k l b a3 a4; omega
    · rcases cs k with e | ⟨b, e, hq, e2⟩
      · rw [lN k e]
        cases s with
        | none => exact .inl hs
        | some l => exact .inr ⟨l, rfl, hs, (gN k e).2⟩
      · rw [lens_none (old k b e)] at hs; cases hs
  have S : SubOk w' (fun _ => False) (Im m'' (upd g (shB key bs))) m' m'' (lens bs.get) (lens (upd g (shB key bs))) (shK key) := by
    refine ⟨fun b hb => hb.elim, fun k k' s hk' hs => ?_, fun k ks xs l hk' => by cases hk'⟩
    cases hk'
    have : ∃ b, bs.get k = some b := by
      unfold lens at hs
      cases e : bs.get k with
      | none => rw [e] at hs; cases hs
      | some b => exact ⟨b, rfl⟩
    obtain ⟨b, e⟩ := this
    exact ⟨by rw [lS k b e]; exact hs, (gS k b e).2⟩
  refine ⟨m'', ⟨h.fr.trans (Fr.of_below bel), ⟨h.lo.1, h.lo.2.1, Nat.le_trans h.lo.2.2 bel.size⟩, fun q B hq => ?_, fun k k' l l' n h1 h2 h3 h4 => ?_, fun k l n h1 h2 => ?_⟩, G, (noImm_ok hv ht).sub S⟩
  · rcases cs q with e | ⟨b, e, hq', e2⟩
    · rw [(gN q e).1] at hq
      rw [(gN q e).2]
      have hbv := h.blk q B hq
      cases hl : B.len? with
      | some l => exact BV.goes G (fun x hx => SameB.of_block (bel.block _ (h.lt (by rw [lens_of hq, hl]) hx))) hbv
      | none =>
        have hgv : isG B = true := by cases B <;> first | rfl | cases hl
        exact BV_of_GV hgv (GV.goes G (GV_of_BV hgv hbv)) _
    · obtain ⟨k, rfl⟩ : ∃ k, q = key + k := ⟨q - key, by omega⟩
      rw [show key + k - key = k by omega] at e2
      rw [(gS k b e2).1] at hq
      cases hq
      rw [(gS k b e2).2]
      have hbv := hb.blk k b e2
      rcases noImmB_get hn e2 with ⟨ks, xs, rfl⟩ | ⟨cs', rfl, hc⟩
      · cases e3 : m' k with
        | none => rw [e3] at hbv; exact hbv
        | some x => rw [e3] at hbv; exact hbv
      · cases e3 : m' k with
        | none => rw [e3] at hbv; have hbv : cs' = [] := hbv; subst hbv; rfl
        | some x => rw [e3] at hbv; obtain ⟨vs, a1, a2⟩ := hbv; exact ⟨vs, (noImms_ok a1 hc).sub S, a2⟩
  · rcases own k l n h1 h3 with ⟨a1, a2⟩ | ⟨i, b, rfl, e, a1, a2⟩ <;> rcases own k' l' n h2 h4 with ⟨b1, b2⟩ | ⟨i', b', rfl, e', b1, b2⟩
    · exact h.inj _ _ _ _ _ a1 b1 a2 b2
    · have := newB _ _ _ b1 b2; have := h.lt a1 a2; omega
    · have := newB _ _ _ a1 a2; have := h.lt b1 b2; omega
    · rw [hb.inj _ _ _ _ _ a1 b1 a2 b2]
  · rcases own k l n h1 h2 with ⟨a1, a2⟩ | ⟨i, b, rfl, e, a1, a2⟩
    · exact h.new _ _ _ a1 a2
    · have := newB _ _ _ a1 a2; have := h.fr.size; left; omega
/-- A table whose entries are so makes a good setting. -/
theorem ctx_good {P : Program} {gl : Nat → T} {l : List Entry} {eqs : List Nat} {heq : ∀ t, hasN eqs t = true → P.stoodInHeld t = false} {inl : List Inl} {hinl : ∀ i ∈ inl, i.ok P} (hm : P.follows .mixedOrders = true) (hl : ∀ e ∈ l, e.ok P gl) (hgl : ∀ g, gl g = .dead ∨ ∃ ks xs b st i e, gl g = .fp ks xs b st i e) : (ctx P gl l eqs heq inl hinl).good := by
  refine ⟨?_, ?_, hm, hgl⟩
  · intro key f args g o w0 w O m vs hs hok hnw h hg ha
    simp only [ctx, specOf] at hs
    split at hs
    · rename_i e he
      split at hs
      · rename_i us hus
        split at hs
        · rename_i c t bs hct
          split at hs
          · rename_i hchk
            simp only [Bool.and_eq_true] at hchk
            cases hs
            obtain ⟨hmem, rfl⟩ := look_mem he
            have E := hl e hmem
            have hvs := inTs_ok h hus ha
            have hp := E.calls us c t bs hct hok
            have hgp : GlP gl w := by
              intro q
              have := hg q
              change TV w _ m _ (gl q) _ at this
              rcases hgl q with e1 | ⟨ks, xs, b, st, i, e', e1⟩
              · rw [e1]; exact .dead
              · rw [e1] at this ⊢
                obtain ⟨b', off, hv, hI, hb, hk, he, hf⟩ := this.fp_inv
                rw [hv]; exact .fp trivial hb hk he hf
            refine .inl ⟨E.enters _ _, (hp w vs hgp hvs).mono ?_⟩
            rintro e' w' ⟨v, m', rfl, hb, hv⟩
            obtain ⟨m'', q1, q2, q3⟩ := h.take hb hnw hchk.2 hchk.1.2 hchk.1.1 hv
            exact ⟨v, rfl, m'', q1, q2, q3⟩
          · cases hs
        · cases hs
      · cases hs
    · cases hs
  · intro key f args g g' h
    simp only [ctx, specOf]
    split
    · rename_i e _; rw [mapO_closed (D := 2) h]
    · rfl

/-! ### functions that turn what they are given: told by hand -/
structure Raw where
  f : FuncId
  sp : Nat → List T → Mem → Option Out
structure Raw.ok (P : Program) (r : Raw) : Prop where
  enters : ∀ vs w, (callFunc r.f vs).run P w = .ok (.enter r.f vs) w
  loc : ∀ key args g g', (∀ q ∈ keysTs args, Agree g g' 2 q) → r.sp key args g = r.sp key args g'
  calls : ∀ key args g o w0 w O m vs, r.sp key args g = some o → o.ok → news g key = true → HR w0 w O m g → TVs w (Im m g) m (lens g) args vs →
    Calls P r.f vs.toArray w fun e w' => ∃ v, e = .returned v ∧ ∃ m', HR w0 w' O m' (upd g o.up) ∧ Goes w w' (Im m g) (Im m' (upd g o.up)) m m' (lens g) (lens (upd g o.up)) ∧ TV w' (Im m' (upd g o.up)) m' (lens (upd g o.up)) o.t v
def lookR' : List Raw → FuncId → Option Raw
  | [], _ => none
  | e :: r, f => match Nat.beq e.f f with
    | true => some e
    | false => lookR' r f
theorem lookR'_mem {l : List Raw} {f : FuncId} {e : Raw} (h : lookR' l f = some e) : e ∈ l ∧ e.f = f := by
  induction l with
  | nil => cases h
  | cons a l ih =>
    simp only [lookR'] at h
    split at h
    · rename_i hb; cases h; exact ⟨List.mem_cons_self .., Nat.eq_of_beq_eq_true hb⟩
    · obtain ⟨h1, h2⟩ := ih h; exact ⟨List.mem_cons_of_mem _ h1, h2⟩
def specR (l : List Entry) (rs : List Raw) (key : Nat) (f : FuncId) (args : List T) (g : Mem) : Option Out := match lookR' rs f with
  | some r => r.sp key args g
  | none => specOf l key f args g
def ctxR (P : Program) (gl : Nat → T) (l : List Entry) (rs : List Raw) (eqs : List Nat) (heq : ∀ t, hasN eqs t = true → P.stoodInHeld t = false) (inl : List Inl) (hinl : ∀ i ∈ inl, i.ok P) : Ctx := ⟨P, gl, specR l rs, eqs, heq, inl, hinl⟩
theorem ctxR_good {P : Program} {gl : Nat → T} {l : List Entry} {rs : List Raw} {eqs : List Nat} {heq : ∀ t, hasN eqs t = true → P.stoodInHeld t = false} {inl : List Inl} {hinl : ∀ i ∈ inl, i.ok P} (hm : P.follows .mixedOrders = true) (hl : ∀ e ∈ l, e.ok P gl) (hr : ∀ r ∈ rs, r.ok P) (hgl : ∀ g, gl g = .dead ∨ ∃ ks xs b st i e, gl g = .fp ks xs b st i e) : (ctxR P gl l rs eqs heq inl hinl).good := by
  have h0 := ctx_good (eqs := eqs) (heq := heq) (inl := inl) (hinl := hinl) hm hl hgl
  refine ⟨?_, ?_, hm, hgl⟩
  · intro key f args g o w0 w O m vs hs hok hnw h hg ha
    simp only [ctxR, specR] at hs
    split at hs
    · rename_i r he
      obtain ⟨hmem, rfl⟩ := lookR'_mem he
      have R := hr r hmem
      exact .inl ⟨R.enters _ _, R.calls _ _ _ _ _ _ _ _ _ hs hok hnw h ha⟩
    · exact h0.ok key f args g o w0 w O m vs hs hok hnw h hg ha
  · intro key f args g g' h
    simp only [ctxR, specR]
    split
    · rename_i r he
      obtain ⟨hmem, rfl⟩ := lookR'_mem he
      exact (hr r hmem).loc _ _ _ _ h
    · exact h0.loc key f args g g' h

/-- So many rounds of a loop, one by one. -/
noncomputable def Rnds (C : Ctx) (d n : Nat) (rd : Bool) (base : Nat) (lv : List Nat) (body : Code) (K : Exit → Sl → Hp → Prop) : Nat → Sl → Hp → Prop
  | 0, _, _ => False
  | q + 1, ts, H => vcL C d n base rd lv body ts H (seqK (fun ts' H' => ∃ p : Plan, p.fine = true ∧ Rnds C d n rd base lv body K q (p.ts H' ts') (p.H H')) K)
theorem TW.roundsV {C : Ctx} {n : Nat} {rd : Bool} (hC : C.good) (d : Nat) {base : Nat} {lv : List Nat} {body : Code} {ts : Sl} {H : Hp} {K : Exit → Sl → Hp → Prop} (q : Nat) (h : Rnds C d n rd base lv body K q ts H) : TW C n rd (.loop body) ts H K := by
  refine ⟨fun ro hro w0 O a w hr => ?_⟩
  have key : ∀ q ts H a w, Rnds C d n rd base lv body K q ts H → Rl C n w0 O ts H a w → Code.roundsIn (FR ro) 0 C.P body (fun e a' w' => ∃ ts' H', K e ts' H' ∧ Rl C n w0 O ts' H' a' w') q a w := by
    intro q
    induction q with
    | zero => intro ts H a w h; exact h.elim
    | succ q ih =>
      intro ts H a w h hr
      rw [roundsIn_succ]
      refine wpIn_mono ((vcL_ok hC d _ _ _ _ _ _ _ _ h).out ro hro w0 O a w hr) ?_
      rintro e a' w' ⟨ts', H', hK, hr'⟩
      cases e with
      | normal => obtain ⟨p, p1, h2⟩ := hK; exact ih _ _ _ _ h2 (plan_ok p p1 hr' hC.glq)
      | exit id => exact ⟨ts', H', hK, hr'⟩
      | goto l => exact ⟨ts', H', hK, hr'⟩
      | ret => exact ⟨ts', H', hK, hr'⟩
      | panic c => exact ⟨ts', H', hK, hr'⟩
      | outgrown => exact ⟨ts', H', hK, hr'⟩
  exact wpIn_loop_rounds q (key q ts H a w h hr)
end Go.Proofs.Yteinekidpokbpaa.Am
