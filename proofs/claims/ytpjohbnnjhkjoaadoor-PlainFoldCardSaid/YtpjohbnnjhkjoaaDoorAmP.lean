/- Code and functions, with drawn orders; what a function makes of its arguments, by a table of others. -/
import Derived.Test.YtpjohbnnjhkjoaaDoorAmO
namespace Go.Proofs.YtpjohbnnjhkjoaaDoor.Am
set_option linter.unusedVariables false
set_option linter.unusedSimpArgs false
open Go.RowKit

/-- Code without loops, by what its operations leave. -/
noncomputable def vc (C : Ctx) (n : Nat) (w0 : World) (O : Nat → Prop) (base : Nat) (c : Code) : Sl → Hp → (Exit → Sl → Hp → Prop) → Prop :=
  @Code.rec (fun _ => Sl → Hp → (Exit → Sl → Hp → Prop) → Prop)
    (fun ts H K => K .normal ts H)
    (fun _ ops draw ts H K => match draw with
      | false => rgo C n base ops ops.toList ts H (fun ts H => K .normal ts H)
      | true => dgo C n base ops (dfin ops fun ts H => K .normal ts H) ops.toList ts H [])
    (fun _ _ ra rb ts H K => ra ts H (seqK (fun ts H => rb ts H K) K))
    (fun c _ _ rx ry ts H K => match ev C ts c with
      | .v (.bool b) => ifB b (rx ts H K) (ry ts H K)
      | _ => False)
    (fun id _ rc ts H K => rc ts H (blkK id K))
    (fun b _ ts H K => TW C n w0 O (.loop b) ts H K)
    (fun f ps a b _ _ ts H K => TW C n w0 O (.rangeFunc f ps a b) ts H K)
    (fun id ts H K => K (.exit id) ts H)
    (fun b _ ts H K => TW C n w0 O (.scope b) ts H K)
    (fun _ ts H K => K .normal ts H)
    (fun l ts H K => TW C n w0 O (.goto l) ts H K)
    (fun ts H K => K .ret ts H)
    (fun y ts H K => TW C n w0 O (.refuse y) ts H K) c

structure Ctx.good (C : Ctx) : Prop where
  ok : C.ok
  loc : C.loc
  mixed : C.P.follows .mixedOrders = true
  glq : C.glq

section
variable {C : Ctx} {n : Nat} {w0 : World} {O : Nat → Prop}
theorem Rl.congr {ts ts' : Sl} {H H' : Hp} {a : Act} {w : World} (h : Rl C n w0 O ts H a w) (ht : ∀ s, tget ts' s = tget ts s) (hh : ∀ q, H'.get q = H.get q) : Rl C n w0 O ts' H' a w := by
  obtain ⟨m, g1, g2, g3, g4, g5⟩ := h
  have e : H'.get = H.get := funext hh
  refine ⟨m, by rw [e]; exact g1, fun i => by rw [ht, e]; exact g2 i, by rw [e]; exact g3, g4, g5⟩
theorem drawn_ok (hC : C.good) {base id : Nat} {ops : Array Oper} {ts : Sl} {H : Hp} {K : Exit → Sl → Hp → Prop} (h : dgo C n base ops (dfin ops fun ts H => K .normal ts H) ops.toList ts H []) : TW C n w0 O (.region id ops true) ts H K := by
  refine ⟨fun a w hr => ?_⟩
  obtain ⟨ts', H', rs', hF, hc, hlen, ht, hh⟩ := dgo_run (ts0 := ts) (H0 := H) ops.toList ts H [] h rfl .nil (fun _ => rfl) (fun _ => rfl)
  unfold dfin at hF
  split at hF
  · rename_i e
    rw [Bool.and_eq_true] at e
    have hw : Rl C n w0 O ts H a ({ w with drawn := w.drawn + 1 } : World) := by
      obtain ⟨m, g1, g2, g3, g4, g5⟩ := hr
      have hb : Below w.heap.size w (w.drewN 1) := ⟨rfl, rfl, rfl, Nat.le_refl _, fun _ _ => rfl⟩
      exact ⟨m, g1.below hb, g2.goes (Goes.of_below hb g1), g3.goes (Goes.of_below hb g1), g4, g5⟩
    refine wp_region_any hC.mixed (any_ok hC.ok hC.loc hc hlen (chkAllB_ok (by rw [hlen]; exact e.1)) e.2 (fun a' w' hr' => ⟨ts', H', hF, hr'.congr ht hh⟩) ops.size _ a _ ?_ ⟨by simp, ?_, ?_⟩)
    · unfold left
      refine Nat.le_trans (List.length_filter_le _ _) ?_
      simp
    · intro i hi
      have : done (Array.replicate ops.size false) i = false := by
        unfold done; rw [Array.getD_eq_getD_getElem?, Array.getElem?_replicate]; split <;> rfl
      rw [this] at hi; cases hi
    · have hd : done (Array.replicate ops.size false) = fun _ => false := by
        funext i; unfold done; rw [Array.getD_eq_getD_getElem?, Array.getElem?_replicate]; split <;> rfl
      rw [hd]
      have e1 : ∀ rs : List Rec, tsD n (fun _ => false) ts rs = ts := by intro rs; induction rs with | nil => rfl | cons a rs ih => simpa [tsD] using ih
      have e2 : ∀ rs : List Rec, hD (fun _ => false) H rs = H := by intro rs; induction rs with | nil => rfl | cons a rs ih => simpa [hD] using ih
      rw [e1, e2]; exact hw
  · exact hF.elim

theorem vc_ok (hC : C.good) {base : Nat} : ∀ (c : Code) (ts : Sl) (H : Hp) (K : Exit → Sl → Hp → Prop), vc C n w0 O base c ts H K → TW C n w0 O c ts H K := by
  intro c
  induction c with
  | skip => intro ts H K h; exact twp_ok (base := base) hC.ok .skip ts H K h
  | label l => intro ts H K h; exact twp_ok (base := base) hC.ok (.label l) ts H K h
  | seq x y ihx ihy =>
    intro ts H K h
    refine ⟨fun a w hr => ?_⟩
    refine wp_seq (wp_mono ((ihx _ _ _ h).out a w hr) ?_)
    rintro e a' w' ⟨ts', H', hK, hr'⟩
    cases e with
    | normal => exact (ihy _ _ _ hK).out a' w' hr'
    | exit id => exact ⟨ts', H', hK, hr'⟩
    | goto l => exact ⟨ts', H', hK, hr'⟩
    | ret => exact ⟨ts', H', hK, hr'⟩
    | panic c => exact ⟨ts', H', hK, hr'⟩
    | outgrown => exact ⟨ts', H', hK, hr'⟩
  | cond c x y ihx ihy =>
    intro ts H K h
    refine ⟨fun a w hr => ?_⟩
    change (match ev C ts c with | .v (.bool b) => ifB b (vc C n w0 O base x ts H K) (vc C n w0 O base y ts H K) | _ => False) at h
    split at h
    · rename_i b e
      obtain ⟨m, h1, h2, h3, h4, h5⟩ := id hr
      have hc := ev_ok h2 h3 c
      rw [e] at hc
      obtain ⟨hc, -⟩ := hc.v_inv
      cases b
      · exact wp_cond_false hc ((ihy _ _ _ h).out a w hr)
      · exact wp_cond_true hc ((ihx _ _ _ h).out a w hr)
    · exact h.elim
  | block id c ih =>
    intro ts H K h
    refine ⟨fun a w hr => ?_⟩
    refine wp_block (wp_mono ((ih _ _ _ h).out a w hr) ?_)
    rintro e a' w' ⟨ts', H', hK, hr'⟩
    cases e with
    | exit j =>
      simp only [Exit.inBlock]
      unfold blkK at hK
      by_cases hj : j = id
      · subst hj; rw [if_pos rfl]; simp only [Nat.beq_refl] at hK; exact ⟨ts', H', hK, hr'⟩
      · rw [if_neg hj]
        have : Nat.beq j id = false := by
          cases e : Nat.beq j id
          · rfl
          · exact absurd (Nat.eq_of_beq_eq_true e) hj
        simp only [this] at hK; exact ⟨ts', H', hK, hr'⟩
    | normal => exact ⟨ts', H', hK, hr'⟩
    | goto l => exact ⟨ts', H', hK, hr'⟩
    | ret => exact ⟨ts', H', hK, hr'⟩
    | panic c => exact ⟨ts', H', hK, hr'⟩
    | outgrown => exact ⟨ts', H', hK, hr'⟩
  | exit id => intro ts H K h; exact twp_ok (base := base) hC.ok (.exit id) ts H K h
  | ret => intro ts H K h; exact twp_ok (base := base) hC.ok .ret ts H K h
  | region id ops draw =>
    intro ts H K h
    cases draw with
    | true => exact drawn_ok hC h
    | false => exact twp_ok (base := base) hC.ok (.region id ops false) ts H K h
  | loop c ih => intro ts H K h; exact h
  | rangeFunc f p as b ih1 ih2 => intro ts H K h; exact h
  | scope b ih => intro ts H K h; exact h
  | goto l => intro ts H K h; exact h
  | refuse y => intro ts H K h; exact h

/-- A loop, by what holds at its head. -/
theorem TW.loopV (hC : C.good) {base : Nat} {body : Code} {ts : Sl} {H : Hp} {K : Exit → Sl → Hp → Prop} {α : Type} (mk : α → Sl × Hp) (inv : α → Prop) (μ : α → Nat)
    (h0 : ∃ x, Wk ts H (mk x).1 (mk x).2 ∧ inv x)
    (round : ∀ x, inv x → vc C n w0 O base body (mk x).1 (mk x).2 (seqK (fun ts' H' => ∃ y, Wk ts' H' (mk y).1 (mk y).2 ∧ inv y ∧ μ y < μ x) K)) : TW C n w0 O (.loop body) ts H K :=
  TW.loop hC.glq mk inv μ h0 (fun x hx => vc_ok hC _ _ _ _ (round x hx))
end

/-! ### pure functions -/
def mapO (f : T → Option T) : List T → Option (List T)
  | [] => some []
  | t :: r => match f t with
    | none => none
    | some u => match mapO f r with
      | some us => some (u :: us)
      | none => none
/-- A value that leads to no block of the machine's own: what it leads to is taken as it stands. imm: may it lead to what was there? -/
def inT (imm : Bool) (g : Mem) : Nat → T → Option T
  | d, t => match t with
    | .v x => some (.v x)
    | .fl ks n xs => match imm with
      | true => some (.fl ks n xs)
      | false => match n, xs with
        | 0, [] => some (.fl ks 0 [])
        | _, _ => none
    | .fp ks xs b st i e => match imm with
      | true => some (.fp ks xs b st i e)
      | false => none
    | .ow k sz n => match g k with
      | some (.fl ks xs) => match Nat.beq ks.length sz with
        | true => some (.fl ks n xs)
        | false => none
      | some (.cs cs) => match d with
        | 0 => none
        | d + 1 => match mapO (inT imm g d) cs with
          | some us => some (.sl n sz us)
          | none => none
      | _ => none
    | .os k sz off n => match g k with
      | some (.fl ks xs) => match Nat.beq ks.length sz with
        | true => some (.fl ks n ((xs.drop (mulN off sz)).take (mulN n sz)))
        | false => none
      | _ => none
    | .agg cs => match d with
      | 0 => none
      | d + 1 => match mapO (inT imm g d) cs with
        | some us => some (.agg us)
        | none => none
    | .tup cs => match d with
      | 0 => none
      | d + 1 => match mapO (inT imm g d) cs with
        | some us => some (.tup us)
        | none => none
    | .sl n sz cs => match imm, d with
      | true, d + 1 => match mapO (inT imm g d) cs with
        | some us => some (.sl n sz us)
        | none => none
      | _, _ => none
    | _ => none

theorem mapO_ok {w w' : World} {I I' m m' L L'} {f : T → Option T} (hf : ∀ t u v, f t = some u → TV w I m L t v → TV w' I' m' L' u v) : ∀ {cs us : List T} {vs : List Value}, mapO f cs = some us → TVs w I m L cs vs → TVs w' I' m' L' us vs := by
  intro cs
  induction cs with
  | nil => intro us vs h hv; cases h; cases hv; exact .nil
  | cons c cs ih =>
    intro us vs h hv
    cases hv with
    | cons hc hr =>
      simp only [mapO] at h
      split at h
      · cases h
      · rename_i u e1
        split at h
        · rename_i us e2; cases h; exact .cons (hf _ _ _ e1 hc) (ih e2 hr)
        · cases h

def noM : Nat → Option Nat := fun _ => none
def noL : Nat → Option (Option Nat) := fun _ => none
theorem inT_ok {w0 w : World} {O : Nat → Prop} {m : Nat → Option Nat} {g : Mem} (h : HR w0 w O m g) {imm : Bool} {J : Nat → Prop} (hi : imm = true → ∀ b, Im m g b → J b) (ho : ∀ b, Own m (lens g) b → J b) :
    ∀ (d : Nat) (t u : T) (v : Value), inT imm g d t = some u → TV w (Im m g) m (lens g) t v → TV w J noM noL u v := by
  have fl0 : ∀ {ks : List IntKind} {xs : List Int} {n : Nat} {a : Option Addr} {cap : Nat}, n = 0 → xs.length = 0 → TV w J noM noL (.fl ks n xs) (.slice a n cap) := by
    intro ks xs n a cap h0 h1
    subst h0
    have : xs = [] := List.eq_nil_of_length_eq_zero h1
    subst this; exact .fl0
  have core : ∀ (d : Nat), (∀ d', d = d' + 1 → ∀ (t u : T) (v : Value), inT imm g d' t = some u → TV w (Im m g) m (lens g) t v → TV w J noM noL u v) →
      ∀ (t u : T) (v : Value), inT imm g d t = some u → TV w (Im m g) m (lens g) t v → TV w J noM noL u v := by
    intro d ih t u v hu hv
    unfold inT at hu
    split at hu
    · cases hu; obtain ⟨rfl, hp⟩ := hv.v_inv; exact .v hp
    · split at hu
      · cases hu
        rcases hv.fl_inv with ⟨rfl, rfl, a, cap, rfl⟩ | ⟨b, off, cap, rfl, hI, hb, hk, hn, hc, hp, hf⟩
        · exact .fl0
        · exact .fl (hi rfl _ hI) hb hk hn hc hp hf
      · split at hu
        · cases hu
          rcases hv.fl_inv with ⟨_, _, a, cap, rfl⟩ | ⟨b, off, cap, _, _, _, _, _, _, hp, _⟩
          · exact .fl0
          · omega
        · cases hu
    · split at hu
      · cases hu
        obtain ⟨b, off, rfl, hI, hb, hk, he, hf⟩ := hv.fp_inv
        exact .fp (hi rfl _ hI) hb hk he hf
      · cases hu
    · -- ow
      rename_i k sz n
      split at hu
      · rename_i ks xs e
        split at hu
        · rename_i hk
          have hk := Nat.eq_of_beq_eq_true hk
          cases hu
          have hL := lens_of e
          cases hv with
          | ow hos hl =>
            have hlen : n * sz = xs.length := by
              rcases hl with hl | hl <;> rw [hL] at hl
              · cases hl
              · injection hl with hl; injection hl with hl; exact hl.symm
            obtain ⟨hz, hle, h3⟩ := hos.os_inv hL
            rcases h3 with ⟨h0, a, rfl⟩ | ⟨cap, b, hm, rfl, hc, hr⟩
            · have : xs.length = 0 := by rw [← hlen, h0, Nat.zero_mul]
              have := fl0 (ks := ks) (a := a) (cap := 0) h0 this
              rwa [h0] at this ⊢
            · by_cases h0 : n = 0
              · exact fl0 h0 (by rw [← hlen, h0, Nat.zero_mul])
              · have hbv := h.blk k _ e
                rw [hm] at hbv
                rw [Nat.zero_mul]
                exact .fl (ho _ ⟨k, _, hL, hm⟩) hbv.2.1.lt hbv.1 (by rw [← hlen, hk]) hc (by omega) hbv.2.2.2
        · cases hu
      · rename_i cs e
        split at hu
        · cases hu
        · rename_i d'
          split at hu
          · rename_i us hus
            cases hu
            have hL := lens_of e
            have hll : ∀ {cs us : List T}, mapO (inT imm g d') cs = some us → us.length = cs.length := by
              intro cs
              induction cs with
              | nil => intro us h; cases h; rfl
              | cons c cs ih2 =>
                intro us h
                simp only [mapO] at h
                split at h
                · cases h
                · split at h
                  · rename_i us' e2; cases h; simp [ih2 e2]
                  · cases h
            cases hv with
            | ow hos hl =>
              have hlen : n * sz = cs.length := by
                rcases hl with hl | hl <;> rw [hL] at hl
                · cases hl
                · injection hl with hl; injection hl with hl; exact hl.symm
              obtain ⟨hz, hle, h3⟩ := hos.os_inv hL
              have sl0 : ∀ {a : Option Addr} {cap : Nat}, n = 0 → TV w J noM noL (.sl n sz us) (.slice a n cap) := by
                intro a cap h0
                have h1 : us.length = 0 := by rw [hll hus, ← hlen, h0, Nat.zero_mul]
                subst h0
                have : us = [] := List.eq_nil_of_length_eq_zero h1
                subst this; exact .sl0
              rcases h3 with ⟨h0, a, rfl⟩ | ⟨cap, b, hm, rfl, hc, hr⟩
              · have := sl0 (a := a) (cap := 0) h0
                rwa [h0] at this ⊢
              · by_cases h0 : n = 0
                · exact sl0 h0
                · have hbv := h.blk k _ e
                  rw [hm] at hbv
                  obtain ⟨vs, v1, v2, v3, v4⟩ := hbv
                  rw [Nat.zero_mul]
                  exact .sl (ho _ ⟨k, _, hL, hm⟩) v2.lt (by rw [hll hus, hlen]) hc (by omega) (mapO_ok (fun t u v => ih d' rfl t u v) hus v1) v4
          · cases hu
      · cases hu
    · -- os
      rename_i k sz off n
      split at hu
      · rename_i ks xs e
        split at hu
        · rename_i hk
          have hk := Nat.eq_of_beq_eq_true hk
          cases hu
          have hL := lens_of e
          obtain ⟨hz, hle, h3⟩ := hv.os_inv hL
          rw [Nat.add_mul] at hle
          simp only [mulN_eq]
          rcases h3 with ⟨h0, a, rfl⟩ | ⟨cap, b, hm, rfl, hc, hr⟩
          · have := fl0 (ks := ks) (xs := List.take (n * sz) (List.drop (off * sz) xs)) (a := a) (cap := 0) h0 (by simp [h0])
            rwa [h0] at this ⊢
          · by_cases h0 : n = 0
            · exact fl0 h0 (by simp [h0])
            · have hbv := h.blk k _ e
              rw [hm] at hbv
              refine .fl (ho _ ⟨k, _, hL, hm⟩) hbv.2.1.lt hbv.1 (by simp [hk]; omega) hc (by omega) (fun i x hx => ?_)
              have hlt : i < n * sz := by have := (List.getElem?_eq_some_iff.1 hx).1; simp at this; omega
              rw [List.getElem?_take_of_lt hlt, List.getElem?_drop] at hx
              have := hbv.2.2.2 _ _ hx
              rw [Nat.zero_add] at this
              rw [this, kc_mod (by rw [← hk]; exact Nat.mul_mod_left _ _)]
        · cases hu
      · cases hu
    · split at hu
      · cases hu
      · rename_i d'
        split at hu
        · rename_i us hus; cases hu; obtain ⟨vs, rfl, hvs⟩ := hv.agg_inv; exact .agg (mapO_ok (fun t u v => ih d' rfl t u v) hus hvs)
        · cases hu
    · split at hu
      · cases hu
      · rename_i d'
        split at hu
        · rename_i us hus; cases hu; obtain ⟨vs, rfl, hvs⟩ := hv.tup_inv; exact .tup (mapO_ok (fun t u v => ih d' rfl t u v) hus hvs)
        · cases hu
    · split at hu
      · rename_i d'
        split at hu
        · rename_i us hus
          cases hu
          rcases hv.sl_inv with ⟨rfl, rfl, a, cap, rfl⟩ | ⟨b, off, cap, vs, rfl, hI, hb, hn, hc, hp, hvs, hf⟩
          · cases hus; exact .sl0
          · have hm := mapO_ok (fun t u v => ih d' rfl t u v) hus hvs
            exact .sl (hi rfl _ hI) hb (by rw [hm.length, ← hvs.length, hn]) hc hp hm hf
        · cases hu
      · cases hu
    · cases hu
  intro d
  induction d with
  | zero => exact core 0 (fun d' h => by omega)
  | succ d ih => exact core (d + 1) (fun d' h => by have : d = d' := by omega
                                                    subst this; exact ih)
theorem inTs_ok {w0 w : World} {O : Nat → Prop} {m : Nat → Option Nat} {g : Mem} (h : HR w0 w O m g) {d : Nat} {ts us : List T} {vs : List Value} (hu : mapO (inT true g d) ts = some us) (hv : TVs w (Im m g) m (lens g) ts vs) :
    TVs w (fun _ => True) noM noL us vs :=
  mapO_ok (fun t u v hh hv => inT_ok h (J := fun _ => True) (fun _ _ _ => trivial) (fun _ _ => trivial) d t u v hh hv) hu hv

/-- The program's variables, ahead of all calls. -/
def GlP (gl : Nat → T) (w : World) : Prop := ∀ g, TV w (fun _ => True) noM noL (gl g) (.pointer (some ⟨g, 0, none⟩))
theorem Goes.pure {w w' : World} (h : Below w.heap.size w w') {I : Nat → Prop} : Goes w w' I I noM noM noL noL :=
  ⟨fun _ _ hI => hI, h.size, fun b o hb _ => h.cell (p := ⟨b, o, none⟩) hb, fun k s hs => (by cases hs), fun b n hr => (SameB.of_block (h.block _ hr.lt)).room _ hr⟩
/-- A function that makes t of args, and leaves what was there as it was; what it hands back is new. -/
def Pure (P : Program) (gl : Nat → T) (f : FuncId) (args : List T) (t : T) : Prop :=
  ∀ w vs, GlP gl w → TVs w (fun _ => True) noM noL args vs → Calls P f vs.toArray w fun e w' => ∃ v, e = .returned v ∧ Below w.heap.size w w' ∧ TV w' (fun b => w.heap.size ≤ b) noM noL t v

theorem lens_nil : lens (Hp.get []) = noL := by funext k; rfl
theorem HR.nil (w : World) : HR w w (fun _ => False) noM (Hp.get []) :=
  ⟨Fr.refl _ _, fun k b h => (by cases h), fun k k' l l' n h => by (rw [lens_nil] at h; cases h), fun k l n h => (by rw [lens_nil] at h; cases h)⟩
theorem Im.nil (b : Nat) : Im noM (Hp.get []) b := by rintro ⟨k, l, h, _⟩; rw [lens_nil] at h; cases h

/-- A pure function, by the walk of its code. d: how deep what it hands back may be. -/
theorem pure_of {C : Ctx} (hC : C.good) {f : FuncId} {fn : Func} {c : Code} (hf : C.P.funcs[f]? = some fn) (hb : fn.body = some c) {args : List T} {t : T} (hn : args.length ≤ fn.ntmps) (d : Nat)
    (h : ∀ w0, vc C fn.ntmps w0 (fun _ => False) 0 c (slots 0 args) [] (retK C fn (fun u H => inT false H.get d u = some t))) : Pure C.P C.gl f args t := by
  intro w vs hg ha
  have G : Goes w w (fun _ => True) (Im noM (Hp.get [])) noM noM noL (lens (Hp.get [])) := by
    rw [lens_nil]; exact ⟨fun b _ _ => Im.nil b, Nat.le_refl _, fun _ _ _ _ => rfl, fun k s hs => (by cases hs), fun _ _ hr => hr⟩
  refine (calls_ok (vs := vs.toArray) hf hb (HR.nil w) (by simpa using ha.goes G) (fun g => (hg g).goes G) hn (vc_ok hC _ _ _ _ (h w))).mono ?_
  rintro e w' ⟨v, u, H', m', rfl, hu, hr, hv⟩
  refine ⟨v, rfl, hr.fr.below, inT_ok hr (fun e => by cases e) (fun b hb => ?_) d u t v hu hv⟩
  obtain ⟨k, l, h1, h2⟩ := hb
  rcases hr.new k l b h1 h2 with h3 | h3
  · exact h3
  · exact h3.elim

mutual
/-- What is known of a value's lengths. -/
def WfT : T → Prop
  | .fl ks n xs => xs.length = n * ks.length ∧ n ≤ 9223372036854775807
  | .sl n sz cs => cs.length = n * sz ∧ n ≤ 9223372036854775807 ∧ WfTs cs
  | .agg cs => WfTs cs
  | .tup cs => WfTs cs
  | _ => True
def WfTs : List T → Prop
  | [] => True
  | t :: r => WfT t ∧ WfTs r
end
theorem wf_TVs {w : World} {I : Nat → Prop} {m : Nat → Option Nat} {L : Nat → Option (Option Nat)} {ts : List T} {vs : List Value} (h : TVs w I m L ts vs) : WfTs ts := by
  refine TVs.rec (motive_1 := fun t v _ => WfT t) (motive_2 := fun ts vs _ => WfTs ts) ?_ ?_ ?_ ?_ ?_ ?_ ?_ ?_ ?_ ?_ ?_ ?_ ?_ ?_ ?_ ?_ ?_ ?_ ?_ ?_ h
  all_goals first
    | (intros; trivial)
    | (intros; simp only [WfT, WfTs]; first | assumption | exact ⟨by simp, by omega⟩ | (refine ⟨by assumption, ?_⟩; omega) | (refine ⟨by simp, by omega, trivial⟩) | (refine ⟨by assumption, ?_, by assumption⟩; omega) | exact ⟨by assumption, by assumption⟩)
/-- The lengths of what came in are known. -/
theorem pure_wf {P : Program} {gl : Nat → T} {f : FuncId} {args : List T} {t : T} (h : WfTs args → Pure P gl f args t) : Pure P gl f args t := fun w vs hg ha => h (wf_TVs ha) w vs hg ha

mutual
/-- The value itself, where all of it is known. -/
def valT : T → Option Value
  | .v x => some x
  | .agg cs => match valTs cs with
    | some l => some (.agg l.toArray)
    | none => none
  | .tup cs => match valTs cs with
    | some l => some (.tuple l.toArray)
    | none => none
  | _ => none
def valTs : List T → Option (List Value)
  | [] => some []
  | t :: r => match valT t, valTs r with
    | some v, some l => some (v :: l)
    | _, _ => none
end
theorem TV.val {w : World} {I : Nat → Prop} {m : Nat → Option Nat} {L : Nat → Option (Option Nat)} {t : T} {v : Value} (h : TV w I m L t v) : ∀ {u : Value}, valT t = some u → v = u := by
  refine TV.rec (motive_1 := fun t v _ => ∀ {u : Value}, valT t = some u → v = u) (motive_2 := fun ts vs _ => ∀ {l : List Value}, valTs ts = some l → vs = l) ?_ ?_ ?_ ?_ ?_ ?_ ?_ ?_ ?_ ?_ ?_ ?_ ?_ ?_ ?_ ?_ ?_ ?_ ?_ ?_ h
  all_goals first
    | (intro x h u e; simp only [valT, Option.some.injEq] at e; exact e)
    | (intros; rename_i e; simp only [valT] at e; cases e; done)
    | (intro cs vs h ih u e
       simp only [valT] at e
       split at e
       · rename_i l hl; cases e; have := ih hl; simp [← this]
       · cases e)
    | (intro l e; simp only [valTs] at e; cases e; rfl)
    | (intro t v ts vs h r ih1 ih2 l e
       simp only [valTs] at e
       split at e
       · rename_i e1 e2; cases e; rw [ih1 e1, ih2 e2]
       · cases e)
theorem TVs.nil_inv {w : World} {I m L} {vs : List Value} (h : TVs w I m L [] vs) : vs = [] := by cases h; rfl
theorem TVs.cons_inv {w : World} {I m L} {t : T} {ts : List T} {vs : List Value} (h : TVs w I m L (t :: ts) vs) : ∃ v r, vs = v :: r ∧ TV w I m L t v ∧ TVs w I m L ts r := by cases h with | cons a b => exact ⟨_, _, rfl, a, b⟩

/-! ### a table of functions -/
structure Entry where
  f : FuncId
  d : Nat
  sp : List T → Option (Option Prop × T)
def look : List Entry → FuncId → Option Entry
  | [], _ => none
  | e :: r, f => match Nat.beq e.f f with
    | true => some e
    | false => look r f
def specOf (l : List Entry) (_key : Nat) (f : FuncId) (args : List T) (g : Mem) : Option Out := match look l f with
  | some e => match mapO (inT true g e.d) args with
    | some us => match e.sp us with
      | some (c, t) => some ⟨c, t, []⟩
      | none => none
    | none => none
  | none => none
/-- What an entry tells is so. -/
structure Entry.ok (P : Program) (gl : Nat → T) (e : Entry) : Prop where
  enters : ∀ vs w, (callFunc e.f vs).run P w = .ok (.enter e.f vs) w
  calls : ∀ args c t, e.sp args = some (c, t) → (∀ p, c = some p → p) → Pure P gl e.f args t

theorem enters_of {P : Program} {f : FuncId} {fn : Func} (hf : P.funcs[f]? = some fn) (h1 : (fn.name == "runtime.NumGoroutine") = false) (h2 : fn.body.isNone = false) : ∀ vs w, (callFunc f vs).run P w = .ok (.enter f vs) w := by
  intro vs w
  simp only [callFunc, Sem.run_bind, run_program, Result.andThen_ok, hf, h1, h2, Bool.false_eq_true, if_false]
  rfl
theorem look_mem {l : List Entry} {f : FuncId} {e : Entry} (h : look l f = some e) : e ∈ l ∧ e.f = f := by
  induction l with
  | nil => cases h
  | cons a l ih =>
    simp only [look] at h
    split at h
    · rename_i hb; cases h; exact ⟨List.mem_cons_self .., Nat.eq_of_beq_eq_true hb⟩
    · obtain ⟨h1, h2⟩ := ih h; exact ⟨List.mem_cons_of_mem _ h1, h2⟩

/-- The setting of a walk: a program, its variables, a table. -/
def ctx (P : Program) (gl : Nat → T) (l : List Entry) (eqs : List Nat) (heq : ∀ t, hasN eqs t = true → P.stoodInHeld t = false) : Ctx := ⟨P, gl, specOf l, eqs, heq⟩
theorem inT_closed {imm : Bool} {g g' : Mem} : ∀ (d : Nat) (t : T), keysT t = [] → inT imm g d t = inT imm g' d t := by
  have ml : ∀ {f f' : T → Option T} {l : List T}, (∀ t ∈ l, f t = f' t) → mapO f l = mapO f' l := by
    intro f f' l h
    induction l with
    | nil => rfl
    | cons t l ih => simp only [mapO]; rw [h t (List.mem_cons_self ..), ih (fun u hu => h u (List.mem_cons_of_mem _ hu))]
  have kl : ∀ {l : List T}, keysTs l = [] → ∀ t ∈ l, keysT t = [] := by
    intro l
    induction l with
    | nil => intro _ t ht; simp at ht
    | cons a l ih =>
      intro h t ht
      simp only [keysTs, List.append_eq_nil_iff] at h
      rcases List.mem_cons.1 ht with rfl | ht
      · exact h.1
      · exact ih h.2 t ht
  intro d
  induction d with
  | zero =>
    intro t h
    cases t <;> first | rfl | (simp [keysT] at h; done) | (unfold inT; cases imm <;> rfl)
  | succ d ih =>
    intro t h
    cases t <;> first | rfl | (simp [keysT] at h; done) | skip
    case sl n sz cs => unfold inT; cases imm <;> simp only [ml (fun t ht => ih t (kl (by simpa [keysT] using h) t ht))]
    case agg cs => unfold inT; simp only [ml (fun t ht => ih t (kl (by simpa [keysT] using h) t ht))]
    case tup cs => unfold inT; simp only [ml (fun t ht => ih t (kl (by simpa [keysT] using h) t ht))]
theorem mapO_closed {imm : Bool} {g g' : Mem} {d : Nat} {l : List T} (h : keysTs l = []) : mapO (inT imm g d) l = mapO (inT imm g' d) l := by
  induction l with
  | nil => rfl
  | cons t l ih =>
    simp only [keysTs, List.append_eq_nil_iff] at h
    simp only [mapO]; rw [inT_closed (g' := g') d t h.1, ih h.2]

/-- A table whose entries are so makes a good setting. -/
theorem ctx_good {P : Program} {gl : Nat → T} {l : List Entry} {eqs : List Nat} {heq : ∀ t, hasN eqs t = true → P.stoodInHeld t = false} (hm : P.follows .mixedOrders = true) (hl : ∀ e ∈ l, e.ok P gl) (hgl : ∀ g, gl g = .dead ∨ ∃ ks xs b st i e, gl g = .fp ks xs b st i e) : (ctx P gl l eqs heq).good := by
  refine ⟨?_, ?_, hm, hgl⟩
  · intro key f args g o w0 w O m vs hs hok hnw h hg ha
    simp only [ctx, specOf] at hs
    split at hs
    · rename_i e he
      split at hs
      · rename_i us hus
        split at hs
        · rename_i c t hct
          cases hs
          obtain ⟨hmem, rfl⟩ := look_mem he
          have E := hl e hmem
          have hvs := inTs_ok h hus ha
          have hp := E.calls us c t hct hok
          have hgp : GlP gl w := by
            intro q
            have := hg q
            change TV w _ m _ (gl q) _ at this
            rcases hgl q with e1 | ⟨ks, xs, b, st, i, e', e1⟩
            · rw [e1]; exact .dead
            · rw [e1] at this ⊢
              obtain ⟨b', off, hv, hI, hb, hk, he, hf⟩ := this.fp_inv
              rw [hv]; exact .fp trivial hb hk he hf
          refine .inl ⟨E.enters _ _, (hp w vs hgp hvs).mono ?_⟩
          rintro e' w' ⟨v, rfl, hb, hv⟩
          have G := Goes.of_below hb h
          refine ⟨v, rfl, m, h.below hb, G, ?_⟩
          have G2 : Goes w' w' (fun b => w.heap.size ≤ b) (Im m g) noM m noL (lens g) :=
            ⟨fun b _ hge ho => (by obtain ⟨k, l, h1, h2⟩ := ho; have := h.lt h1 h2; omega), Nat.le_refl _, fun _ _ _ _ => rfl, fun k s hs => (by cases hs), fun _ _ hr => hr⟩
          exact hv.goes G2
        · cases hs
      · cases hs
    · cases hs
  · intro key f args g g' h
    simp only [ctx, specOf]
    split
    · rename_i e _; rw [mapO_closed h]
    · rfl

/-- So many rounds of a loop, one by one. -/
def Rnds (C : Ctx) (n : Nat) (w0 : World) (O : Nat → Prop) (base : Nat) (body : Code) (K : Exit → Sl → Hp → Prop) : Nat → Sl → Hp → Prop
  | 0, _, _ => False
  | q + 1, ts, H => vc C n w0 O base body ts H (seqK (fun ts' H' => ∃ p : Plan, p.fine = true ∧ Rnds C n w0 O base body K q (p.ts H' ts') (p.H H')) K)
theorem TW.roundsV {C : Ctx} {n : Nat} {w0 : World} {O : Nat → Prop} (hC : C.good) {base : Nat} {body : Code} {ts : Sl} {H : Hp} {K : Exit → Sl → Hp → Prop} (q : Nat) (h : Rnds C n w0 O base body K q ts H) : TW C n w0 O (.loop body) ts H K := by
  have key : ∀ q ts H a w, Rnds C n w0 O base body K q ts H → Rl C n w0 O ts H a w → Code.rounds C.P body (fun e a' w' => ∃ ts' H', K e ts' H' ∧ Rl C n w0 O ts' H' a' w') q a w := by
    intro q
    induction q with
    | zero => intro ts H a w h; exact h.elim
    | succ q ih =>
      intro ts H a w h hr
      rw [rounds_succ]
      refine wp_mono ((vc_ok hC _ _ _ _ h).out a w hr) ?_
      rintro e a' w' ⟨ts', H', hK, hr'⟩
      cases e with
      | normal => obtain ⟨p, p1, h2⟩ := hK; exact ih _ _ _ _ h2 (plan_ok p p1 hr' hC.glq)
      | exit id => exact ⟨ts', H', hK, hr'⟩
      | goto l => exact ⟨ts', H', hK, hr'⟩
      | ret => exact ⟨ts', H', hK, hr'⟩
      | panic c => exact ⟨ts', H', hK, hr'⟩
      | outgrown => exact ⟨ts', H', hK, hr'⟩
  exact ⟨fun a w hr => wp_loop_rounds q (key q ts H a w h hr)⟩
end Go.Proofs.YtpjohbnnjhkjoaaDoor.Am
