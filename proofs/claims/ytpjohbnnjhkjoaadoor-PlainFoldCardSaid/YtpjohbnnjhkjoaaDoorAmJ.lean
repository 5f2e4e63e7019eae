/- Rows of operations in the text's order, and code without loops. -/
import Derived.Test.YtpjohbnnjhkjoaaDoorAmI
namespace Go.Proofs.YtpjohbnnjhkjoaaDoor.Am
set_option linter.unusedVariables false
set_option linter.unusedSimpArgs false
open Go.RowKit

def putT (n : Nat) (ts : Sl) (d : Option Tmp) (t : T) : Sl := match d with
  | some d => match Nat.blt d n with
    | true => (d, t) :: ts
    | false => ts
  | none => ts
def keyOf (base : Nat) (d : Option Tmp) : Nat := match d with
  | some d => base + 4 * d
  | none => base
def andO (c : Option Prop) (p : Prop) : Prop := match c with
  | none => p
  | some c => c ∧ p
/-- A bool decides. -/
def ifB (x : Bool) (p q : Prop) : Prop := match x with
  | true => p
  | false => q
theorem ifB_mk {x : Bool} {p q : Prop} (hp : x = true → p) (hq : x = false → q) : ifB x p q := by
  cases x
  · exact hq rfl
  · exact hp rfl
/-- The same, as the kernel lays it out. -/
theorem ifR {x : Bool} {p q : Prop} (hp : x = true → p) (hq : x = false → q) : @Bool.rec (fun _ => Prop) q p x := by
  cases x
  · exact hq rfl
  · exact hp rfl
def dstOf (ops : Array Oper) (j : Nat) : Option Tmp := match ops[j]? with
  | some o => o.dst
  | none => none
/-! Laying a state out, so that it stays small. -/
def fV (x : Value) (K : Value → Prop) : Prop := match x with
  | .int k n => K (.int k n)
  | .bool b => K (.bool b)
  | x => K x
mutual
def fT : T → (T → Prop) → Prop
  | .v x, K => fV x fun x => K (.v x)
  | .fl ks n xs, K => K (.fl ks n xs)
  | .fp ks xs b st i e, K => K (.fp ks xs b st i e)
  | .sl n sz cs, K => fTs cs fun cs => K (.sl n sz cs)
  | .sp cs i, K => fTs cs fun cs => K (.sp cs i)
  | .os k sz off n, K => K (.os k sz off n)
  | .ow k sz n, K => K (.ow k sz n)
  | .op k b st i e, K => K (.op k b st i e)
  | .agg cs, K => fTs cs fun cs => K (.agg cs)
  | .tup cs, K => fTs cs fun cs => K (.tup cs)
  | .ifc t x, K => fT x fun x => K (.ifc t x)
  | .fn f a c, K => fTs a fun a => fTs c fun c => K (.fn f a c)
  | .dead, K => K .dead
def fTs : List T → (List T → Prop) → Prop
  | [], K => K []
  | t :: r, K => fT t fun t => fTs r fun r => K (t :: r)
end
def fB (b : Blk) (K : Blk → Prop) : Prop := match b with
  | .fl ks xs => K (.fl ks xs)
  | .cs cs => fTs cs fun cs => K (.cs cs)
  | .gone => K .gone
def fU : List (Nat × Blk) → Hp → (Hp → Prop) → Prop
  | [], H, K => K H
  | (k, b) :: r, H, K => fB b fun b => fU r H fun H => K ((k, b) :: H)
theorem fV_eq (x : Value) (K : Value → Prop) : fV x K = K x := by unfold fV; split <;> rfl
mutual
theorem fT_eq : ∀ (t : T) (K : T → Prop), fT t K = K t
  | .v x, K => by rw [fT, fV_eq]
  | .fl ks n xs, K => by rw [fT]
  | .fp ks xs b st i e, K => by rw [fT]
  | .sl n sz cs, K => by rw [fT, fTs_eq cs]
  | .sp cs i, K => by rw [fT, fTs_eq cs]
  | .os k sz off n, K => by rw [fT]
  | .ow k sz n, K => by rw [fT]
  | .op k b st i e, K => by rw [fT]
  | .agg cs, K => by rw [fT, fTs_eq cs]
  | .tup cs, K => by rw [fT, fTs_eq cs]
  | .ifc t x, K => by rw [fT, fT_eq x]
  | .fn f a c, K => by rw [fT, fTs_eq a, fTs_eq c]
  | .dead, K => by rw [fT]
theorem fTs_eq : ∀ (l : List T) (K : List T → Prop), fTs l K = K l
  | [], K => by rw [fTs]
  | t :: r, K => by rw [fTs, fT_eq t, fTs_eq r]
end
theorem fB_eq (b : Blk) (K : Blk → Prop) : fB b K = K b := by unfold fB; split <;> first | rfl | rw [fTs_eq]
theorem fU_eq (l : List (Nat × Blk)) (H : Hp) (K : Hp → Prop) : fU l H K = K (l ++ H) := by
  induction l generalizing K with
  | nil => rfl
  | cons p l ih => obtain ⟨k, b⟩ := p; rw [fU, fB_eq, ih]; rfl
def fP (n : Nat) (ts : Sl) (d : Option Tmp) (t : T) (K : Sl → Prop) : Prop := match d with
  | some d => match Nat.blt d n with
    | true => fT t fun t => K ((d, t) :: ts)
    | false => K ts
  | none => K ts
theorem fP_eq (n : Nat) (ts : Sl) (d : Option Tmp) (t : T) (K : Sl → Prop) : fP n ts d t K = K (putT n ts d t) := by
  cases d with
  | none => rfl
  | some d => simp only [fP, putT]; cases Nat.blt d n <;> simp only [fT_eq]

def stp (C : Ctx) (n base : Nat) (o : Oper) (ts : Sl) (H : Hp) (K : Sl → Hp → Prop) : Prop :=
  match stepO C H.get ts (keyOf base o.dst) o.op with
  | some ot => andO ot.c (fP n ts o.dst ot.t fun ts => fU ot.up H fun H => K ts H)
  | none => False
def rgoB (C : Ctx) (n base : Nat) (ops : Array Oper) (o : Oper) (rc : Sl → Hp → (Sl → Hp → Prop) → Prop) (ts : Sl) (H : Hp) (K : Sl → Hp → Prop) : Prop :=
  match o.guard with
      | none => stp C n base o ts H (fun ts H => rc ts H K)
      | some (j, want) => match dstOf ops j with
        | none => False
        | some d => match tget ts d with
          | .v (.bool x) => ifB x
              (match want with
                | true => stp C n base o ((d, .v (.bool true)) :: ts) H (fun ts H => rc ts H K)
                | false => fP n ((d, .v (.bool true)) :: ts) o.dst .dead fun ts => rc ts H K)
              (match want with
                | false => stp C n base o ((d, .v (.bool false)) :: ts) H (fun ts H => rc ts H K)
                | true => fP n ((d, .v (.bool false)) :: ts) o.dst .dead fun ts => rc ts H K)
          | _ => False
/-- By the recursor itself: so the kernel and the tactics lay it out alike. -/
noncomputable def rgo (C : Ctx) (n base : Nat) (ops : Array Oper) (l : List Oper) : Sl → Hp → (Sl → Hp → Prop) → Prop :=
  @List.rec Oper (fun _ => Sl → Hp → (Sl → Hp → Prop) → Prop) (fun ts H K => K ts H) (fun o _ rc => rgoB C n base ops o rc) l
theorem rgo_cons {C : Ctx} {n base : Nat} {ops : Array Oper} {o : Oper} {r : List Oper} {ts : Sl} {H : Hp} {K : Sl → Hp → Prop} : rgo C n base ops (o :: r) ts H K = rgoB C n base ops o (rgo C n base ops r) ts H K := rfl

/-- A frame and a world are as a state tells. -/
def Rl (C : Ctx) (n : Nat) (w0 : World) (O : Nat → Prop) (ts : Sl) (H : Hp) (a : Act) (w : World) : Prop :=
  ∃ m, HR w0 w O m H.get ∧ AT w (Im m H.get) m (lens H.get) ts a ∧ GlOk C w (Im m H.get) m (lens H.get) ∧ a.defers = [] ∧ a.tmps.size = n

theorem get_append (up H : Hp) : Hp.get (up ++ H) = upd H.get up := by
  funext k
  induction up with
  | nil => rfl
  | cons p up ih => obtain ⟨j, b⟩ := p; simp only [List.cons_append, Hp.get, upd, ih]
theorem AT.put {w : World} {I m L} {ts : Sl} {a : Act} {n : Nat} (h : AT w I m L ts a) (hn : a.tmps.size = n) {d : Option Tmp} {t : T} {v : Value} (hv : TV w I m L t v) : AT w I m L (putT n ts d t) (a.put d v) := by
  cases d with
  | none => exact h
  | some d =>
    intro i
    simp only [putT, Act.put]
    cases e : Nat.blt d n
    · have hd : ¬ d < n := fun hlt => by rw [← Nat.blt_eq] at hlt; rw [hlt] at e; cases e
      have : (a.tmps.setIfInBounds d v).getD i undef = a.tmps.getD i undef := by
        rw [Array.getD_eq_getD_getElem?, Array.getD_eq_getD_getElem?, Array.getElem?_setIfInBounds]
        by_cases hi : d = i
        · subst hi; rw [if_pos rfl, if_neg (show ¬ d < a.tmps.size by rw [hn]; exact hd), Array.getElem?_eq_none (show a.tmps.size ≤ d by rw [hn]; exact Nat.le_of_not_lt hd)]
        · rw [if_neg hi]
      rw [this]; exact h i
    · have hd : d < n := by rwa [Nat.blt_eq] at e
      simp only [tget]
      rw [Array.getD_eq_getD_getElem?, Array.getElem?_setIfInBounds]
      cases e2 : Nat.beq d i
      · have hi : ¬ d = i := fun hi => by subst hi; rw [Nat.beq_refl] at e2; cases e2
        rw [if_neg hi, ← Array.getD_eq_getD_getElem?]; exact h i
      · have := Nat.eq_of_beq_eq_true e2; subst this
        rw [if_pos rfl, if_pos (show d < a.tmps.size by rw [hn]; exact hd)]; exact hv
theorem put_size (a : Act) (d : Option Tmp) (v : Value) : (a.put d v).tmps.size = a.tmps.size := by cases d <;> simp [Act.put]

section
variable {C : Ctx} {n : Nat} {w0 : World} {O : Nat → Prop}

theorem andO_ok {ot : Out} {p : Prop} (h : andO ot.c p) : ot.ok ∧ p := by
  unfold andO at h
  split at h
  · rename_i e; exact ⟨fun q hq => (by rw [e] at hq; cases hq), h⟩
  · rename_i c e; exact ⟨fun q hq => (by rw [e] at hq; cases hq; exact h.1), h.2⟩

theorem stp_ok (hC : C.ok) {base : Nat} {o : Oper} {ts : Sl} {H : Hp} {K : Sl → Hp → Prop} {a : Act} {w : World} (h : stp C n base o ts H K) (hr : Rl C n w0 O ts H a w)
    {next : Act → World → Prop} {Q : Exit → Act → World → Prop} (hn : ∀ ts H a w, K ts H → Rl C n w0 O ts H a w → next a w) : o.wp C.P a w next Q := by
  unfold stp at h
  split at h
  · rename_i ot e
    obtain ⟨hok, hK⟩ := andO_ok h
    rw [fP_eq, fU_eq] at hK
    obtain ⟨m, h1, h2, h3, h4, h5⟩ := hr
    refine step_ok hC h1 h2 h3 e hok (fun v w' m' g1 g2 g3 => hn _ _ _ _ hK ?_)
    refine ⟨m', ?_, ?_, ?_, ?_, by rw [put_size, h5]⟩
    · rw [get_append]; exact g1
    · rw [get_append]; exact (h2.goes g2).put h5 g3
    · rw [get_append]; exact h3.goes g2
    · cases hd : o.dst <;> simp [Act.put, h4]
  · exact h.elim

theorem Rl.setT {ts : Sl} {H : Hp} {a : Act} {w : World} (hr : Rl C n w0 O ts H a w) {d : Nat} {x y : Bool} (hd : tget ts d = .v (.bool x)) (e : x = y) : Rl C n w0 O ((d, .v (.bool y)) :: ts) H a w := by
  subst e
  obtain ⟨m, h1, h2, h3, h4, h5⟩ := hr
  refine ⟨m, h1, fun i => ?_, h3, h4, h5⟩
  simp only [tget]
  cases e2 : Nat.beq d i
  · exact h2 i
  · have := Nat.eq_of_beq_eq_true e2; subst this; rw [← hd]; exact h2 d
theorem Rl.yield {ts : Sl} {H : Hp} {a : Act} {w : World} (hr : Rl C n w0 O ts H a w) {ops : Array Oper} {j d : Nat} {x : Bool} (hj : dstOf ops j = some d) (hd : tget ts d = .v (.bool x)) : yielded ops a.tmps j = some x := by
  obtain ⟨m, h1, h2, h3, h4, h5⟩ := hr
  unfold dstOf at hj
  split at hj
  · rename_i o e
    have h6 := h2 d
    rw [hd] at h6
    obtain ⟨h7, -⟩ := h6.v_inv
    rw [Array.getD_eq_getD_getElem?] at h7
    cases e3 : a.tmps[d]? with
    | none => rw [e3] at h7; cases h7
    | some v => rw [e3] at h7; have h7 : v = _ := h7; subst h7; simp [yielded, e, hj, e3]
  · cases hj
theorem Rl.dead {ts : Sl} {H : Hp} {a : Act} {w : World} (hr : Rl C n w0 O ts H a w) (d : Option Tmp) (v : Value) : Rl C n w0 O (putT n ts d .dead) H (a.put d v) w := by
  obtain ⟨m, h1, h2, h3, h4, h5⟩ := hr
  exact ⟨m, h1, h2.put h5 .dead, h3, by cases d <;> simp [Act.put, h4], by rw [put_size, h5]⟩

theorem rgo_ok (hC : C.ok) {base : Nat} {ops : Array Oper} {Q : Exit → Act → World → Prop} {K : Sl → Hp → Prop} (hQ : ∀ ts H a w, K ts H → Rl C n w0 O ts H a w → Q .normal a w) :
    ∀ (l : List Oper) (i : Nat) (ts : Sl) (H : Hp) (a : Act) (w : World), ops.toList.drop i = l → rgo C n base ops l ts H K → Rl C n w0 O ts H a w → wpOps C.P ops Q (List.range' i l.length) a w := by
  intro l
  induction l with
  | nil => intro i ts H a w _ h hr; exact hQ _ _ _ _ h hr
  | cons o l ih =>
    intro i ts H a w hd h hr
    rw [rgo_cons] at h
    unfold rgoB at h
    rw [List.length_cons, List.range'_succ, wpOps_cons]
    unfold wpOp
    have e : ops[i]? = some o := by
      rw [← Array.getElem?_toList]
      have : (ops.toList.drop i)[0]? = some o := by rw [hd]; rfl
      rwa [List.getElem?_drop, Nat.add_zero] at this
    have hd' : ops.toList.drop (i + 1) = l := by
      rw [← List.drop_drop, hd]; rfl
    rw [e]
    simp only at h ⊢
    cases hg : o.guard with
    | none =>
      rw [hg] at h
      simp only at h
      have hw : Region.wanted o (yielded ops a.tmps) = true := by unfold Region.wanted; rw [hg]
      rw [if_pos hw]
      exact .inl (stp_ok hC h hr (fun ts H a w hK hr => ih _ _ _ _ _ hd' hK hr))
    | some jw =>
      obtain ⟨j, want⟩ := jw
      rw [hg] at h
      simp only at h
      split at h
      · exact h.elim
      · rename_i d hdd
        split at h
        · rename_i x hx
          have hy := hr.yield hdd hx
          have hw : Region.wanted o (yielded ops a.tmps) = (x == want) := by
            unfold Region.wanted; rw [hg]; simp only [hy]
            cases x <;> cases want <;> rfl
          rw [hw]
          cases x <;> cases want <;> simp only [ifB, fP_eq] at h
          · exact .inl (stp_ok hC h (hr.setT hx rfl) (fun ts H a w hK hr => ih _ _ _ _ _ hd' hK hr))
          · exact ih _ _ _ _ _ hd' h ((hr.setT hx rfl).dead _ _)
          · exact ih _ _ _ _ _ hd' h ((hr.setT hx rfl).dead _ _)
          · exact .inl (stp_ok hC h (hr.setT hx rfl) (fun ts H a w hK hr => ih _ _ _ _ _ hd' hK hr))
        · exact h.elim

/-! ### code -/
/-- What is to be shown of code that is walked otherwise. -/
structure TW (C : Ctx) (n : Nat) (w0 : World) (O : Nat → Prop) (c : Code) (ts : Sl) (H : Hp) (K : Exit → Sl → Hp → Prop) : Prop where
  out : ∀ a w, Rl C n w0 O ts H a w → c.wp C.P (fun e a' w' => ∃ ts' H', K e ts' H' ∧ Rl C n w0 O ts' H' a' w') a w
def seqK (n : Sl → Hp → Prop) (K : Exit → Sl → Hp → Prop) : Exit → Sl → Hp → Prop
  | .normal, ts, H => n ts H
  | e, ts, H => K e ts H
def blkK (id : Nat) (K : Exit → Sl → Hp → Prop) : Exit → Sl → Hp → Prop
  | .exit j, ts, H => match Nat.beq j id with
    | true => K .normal ts H
    | false => K (.exit j) ts H
  | e, ts, H => K e ts H
/-- Code without loops, by what its operations leave. -/
noncomputable def twp (C : Ctx) (n : Nat) (w0 : World) (O : Nat → Prop) (base : Nat) : Code → Sl → Hp → (Exit → Sl → Hp → Prop) → Prop
  | .skip, ts, H, K => K .normal ts H
  | .label _, ts, H, K => K .normal ts H
  | .seq a b, ts, H, K => twp C n w0 O base a ts H (seqK (fun ts H => twp C n w0 O base b ts H K) K)
  | .cond c x y, ts, H, K => match ev C ts c with
    | .v (.bool b) => ifB b (twp C n w0 O base x ts H K) (twp C n w0 O base y ts H K)
    | _ => False
  | .block id c, ts, H, K => twp C n w0 O base c ts H (blkK id K)
  | .exit id, ts, H, K => K (.exit id) ts H
  | .ret, ts, H, K => K .ret ts H
  | .region _ ops false, ts, H, K => rgo C n base ops ops.toList ts H (fun ts H => K .normal ts H)
  | c, ts, H, K => TW C n w0 O c ts H K

theorem twp_ok (hC : C.ok) {base : Nat} : ∀ (c : Code) (ts : Sl) (H : Hp) (K : Exit → Sl → Hp → Prop), twp C n w0 O base c ts H K → TW C n w0 O c ts H K := by
  intro c
  induction c with
  | skip => intro ts H K h; refine ⟨fun a w hr => ?_⟩; exact wp_skip ⟨ts, H, h, hr⟩
  | label l => intro ts H K h; refine ⟨fun a w hr => ?_⟩; exact wp_label ⟨ts, H, h, hr⟩
  | seq x y ihx ihy =>
    intro ts H K h
    refine ⟨fun a w hr => ?_⟩
    refine wp_seq (wp_mono ((ihx _ _ _ h).out a w hr) ?_)
    rintro e a' w' ⟨ts', H', hK, hr'⟩
    cases e with
    | normal => exact (ihy _ _ _ hK).out a' w' hr'
    | exit id => exact ⟨ts', H', hK, hr'⟩
    | goto l => exact ⟨ts', H', hK, hr'⟩
    | ret => exact ⟨ts', H', hK, hr'⟩
    | panic c => exact ⟨ts', H', hK, hr'⟩
    | outgrown => exact ⟨ts', H', hK, hr'⟩
  | cond c x y ihx ihy =>
    intro ts H K h
    refine ⟨fun a w hr => ?_⟩
    unfold twp at h
    split at h
    · rename_i b e
      obtain ⟨m, h1, h2, h3, h4, h5⟩ := id hr
      have hc := ev_ok h2 h3 c
      rw [e] at hc
      obtain ⟨hc, -⟩ := hc.v_inv
      cases b
      · exact wp_cond_false hc ((ihy _ _ _ h).out a w hr)
      · exact wp_cond_true hc ((ihx _ _ _ h).out a w hr)
    · exact h.elim
  | block id c ih =>
    intro ts H K h
    refine ⟨fun a w hr => ?_⟩
    refine wp_block (wp_mono ((ih _ _ _ h).out a w hr) ?_)
    rintro e a' w' ⟨ts', H', hK, hr'⟩
    cases e with
    | exit j =>
      simp only [Exit.inBlock]
      unfold blkK at hK
      by_cases hj : j = id
      · subst hj; rw [if_pos rfl]; simp only [Nat.beq_refl] at hK; exact ⟨ts', H', hK, hr'⟩
      · rw [if_neg hj]
        have : Nat.beq j id = false := by
          cases e : Nat.beq j id
          · rfl
          · exact absurd (Nat.eq_of_beq_eq_true e) hj
        simp only [this] at hK; exact ⟨ts', H', hK, hr'⟩
    | normal => exact ⟨ts', H', hK, hr'⟩
    | goto l => exact ⟨ts', H', hK, hr'⟩
    | ret => exact ⟨ts', H', hK, hr'⟩
    | panic c => exact ⟨ts', H', hK, hr'⟩
    | outgrown => exact ⟨ts', H', hK, hr'⟩
  | exit id => intro ts H K h; refine ⟨fun a w hr => ?_⟩; exact wp_exit ⟨ts, H, h, hr⟩
  | ret => intro ts H K h; refine ⟨fun a w hr => ?_⟩; exact wp_ret ⟨ts, H, h, hr⟩
  | region id ops draw =>
    intro ts H K h
    refine ⟨fun a w hr => ?_⟩
    cases draw with
    | true => exact h.out a w hr
    | false => exact wp_region (rgo_ok (Q := fun e a' w' => ∃ ts' H', K e ts' H' ∧ Rl C n w0 O ts' H' a' w') hC (fun ts H a w hK hr => ⟨ts, H, hK, hr⟩) _ 0 _ _ _ _ rfl h hr |> fun hh => by rwa [Array.length_toList, ← List.range_eq_range'] at hh)
  | loop c ih => intro ts H K h; exact h
  | rangeFunc f p as b ih1 ih2 => intro ts H K h; exact h
  | scope b ih => intro ts H K h; exact h
  | goto l => intro ts H K h; exact h
  | refuse y => intro ts H K h; exact h
end
end Go.Proofs.YtpjohbnnjhkjoaaDoor.Am
