/- Rows of operations in the text's order, and code without loops. -/
import Derived.Test.YteinekidpokbpaaAmI
namespace Go.Proofs.Yteinekidpokbpaa.Am
set_option linter.unusedVariables false
set_option linter.unusedSimpArgs false
open Go.RowKit

def putT (n : Nat) (ts : Sl) (d : Option Tmp) (t : T) : Sl := match d with
  | some d => match Nat.blt d n with
    | true => (d, t) :: ts
    | false => ts
  | none => ts
def keyOf (base : Nat) (d : Option Tmp) : Nat := match d with
  | some d => base + 4 * d
  | none => base
def andO (c : Option Prop) (p : Prop) : Prop := match c with
  | none => p
  | some c => c ∧ p
/-- A bool decides. -/
def ifB (x : Bool) (p q : Prop) : Prop := match x with
  | true => p
  | false => q
theorem ifB_mk {x : Bool} {p q : Prop} (hp : x = true → p) (hq : x = false → q) : ifB x p q := by
  cases x
  · exact hq rfl
  · exact hp rfl
/-- The same, as the kernel lays it out. -/
theorem ifR {x : Bool} {p q : Prop} (hp : x = true → p) (hq : x = false → q) : @Bool.rec (fun _ => Prop) q p x := by
  cases x
  · exact hq rfl
  · exact hp rfl
def dstOf (ops : Array Oper) (j : Nat) : Option Tmp := match ops[j]? with
  | some o => o.dst
  | none => none
/-! Laying a state out, so that it stays small. -/
def fK (k : IntKind) (K : IntKind → Prop) : Prop := match k with
  | .i64 => K .i64
  | .u64 => K .u64
  | k => K k
theorem fK_eq (k : IntKind) (K : IntKind → Prop) : fK k K = K k := by unfold fK; split <;> rfl
def fV (x : Value) (K : Value → Prop) : Prop := match x with
  | .int k n => fK k fun k => K (.int k n)
  | .bool b => K (.bool b)
  | x => K x
def fN (n : Nat) (K : Nat → Prop) : Prop := match n with
  | 0 => K 0
  | m + 1 => K (m + 1)
theorem fN_eq (n : Nat) (K : Nat → Prop) : fN n K = K n := by cases n <;> rfl
def fKs : List IntKind → (List IntKind → Prop) → Prop
  | [], K => K []
  | k :: r, K => fK k fun k => fKs r fun r => K (k :: r)
theorem fKs_eq (ks : List IntKind) (K : List IntKind → Prop) : fKs ks K = K ks := by
  induction ks generalizing K with
  | nil => rfl
  | cons k r ih => rw [fKs, fK_eq, ih]
mutual
def fT : T → (T → Prop) → Prop
  | .v x, K => fV x fun x => K (.v x)
  | .fl ks n xs, K => fKs ks fun ks => K (.fl ks n xs)
  | .fp ks xs b st i e, K => fN b fun b => fN st fun st => fN e fun e => K (.fp ks xs b st i e)
  | .sl n sz cs, K => fTs cs fun cs => K (.sl n sz cs)
  | .sp cs i, K => fTs cs fun cs => K (.sp cs i)
  | .os k sz off n, K => fN k fun k => K (.os k sz off n)
  | .ow k sz n, K => fN k fun k => K (.ow k sz n)
  | .op k b st i e, K => fN k fun k => fN b fun b => fN st fun st => fN e fun e => K (.op k b st i e)
  | .mp k, K => fN k fun k => K (.mp k)
  | .agg cs, K => fTs cs fun cs => K (.agg cs)
  | .tup cs, K => fTs cs fun cs => K (.tup cs)
  | .ifc t x, K => fT x fun x => K (.ifc t x)
  | .fn f a c, K => fTs a fun a => fTs c fun c => K (.fn f a c)
  | .dead, K => K .dead
def fTs : List T → (List T → Prop) → Prop
  | [], K => K []
  | t :: r, K => fT t fun t => fTs r fun r => K (t :: r)
end
def fB (b : Blk) (K : Blk → Prop) : Prop := match b with
  | .fl ks xs => fKs ks fun ks => K (.fl ks xs)
  | .cs cs => fTs cs fun cs => K (.cs cs)
  | .gone => K .gone
  | .mp kk vk es => fK kk fun kk => K (.mp kk vk es)
  | .gh id ts => K (.gh id ts)
  | .lp id l st pe n ts ps asg body => K (.lp id l st pe n ts ps asg body)
def fU : List (Nat × Blk) → Hp → (Hp → Prop) → Prop
  | [], H, K => K H
  | (k, b) :: r, H, K => fN k fun k => fB b fun b => fU r H fun H => K ((k, b) :: H)
theorem fV_eq (x : Value) (K : Value → Prop) : fV x K = K x := by unfold fV; split <;> simp only [fK_eq]
mutual
theorem fT_eq : ∀ (t : T) (K : T → Prop), fT t K = K t
  | .v x, K => by rw [fT, fV_eq]
  | .fl ks n xs, K => by rw [fT, fKs_eq]
  | .fp ks xs b st i e, K => by rw [fT]; simp only [fN_eq]
  | .sl n sz cs, K => by rw [fT, fTs_eq cs]
  | .sp cs i, K => by rw [fT, fTs_eq cs]
  | .os k sz off n, K => by rw [fT]; simp only [fN_eq]
  | .ow k sz n, K => by rw [fT]; simp only [fN_eq]
  | .op k b st i e, K => by rw [fT]; simp only [fN_eq]
  | .mp k, K => by rw [fT]; simp only [fN_eq]
  | .agg cs, K => by rw [fT, fTs_eq cs]
  | .tup cs, K => by rw [fT, fTs_eq cs]
  | .ifc t x, K => by rw [fT, fT_eq x]
  | .fn f a c, K => by rw [fT, fTs_eq a, fTs_eq c]
  | .dead, K => by rw [fT]
theorem fTs_eq : ∀ (l : List T) (K : List T → Prop), fTs l K = K l
  | [], K => by rw [fTs]
  | t :: r, K => by rw [fTs, fT_eq t, fTs_eq r]
end
theorem fB_eq (b : Blk) (K : Blk → Prop) : fB b K = K b := by unfold fB; split <;> first | rfl | rw [fTs_eq] | rw [fKs_eq] | rw [fK_eq]
theorem fU_eq (l : List (Nat × Blk)) (H : Hp) (K : Hp → Prop) : fU l H K = K (l ++ H) := by
  induction l generalizing K with
  | nil => rfl
  | cons p l ih => obtain ⟨k, b⟩ := p; rw [fU, fN_eq, fB_eq, ih]; rfl
def fP (n : Nat) (ts : Sl) (d : Option Tmp) (t : T) (K : Sl → Prop) : Prop := match d with
  | some d => match Nat.blt d n with
    | true => fT t fun t => K ((d, t) :: ts)
    | false => K ts
  | none => K ts
theorem fP_eq (n : Nat) (ts : Sl) (d : Option Tmp) (t : T) (K : Sl → Prop) : fP n ts d t K = K (putT n ts d t) := by
  cases d with
  | none => rfl
  | some d => simp only [fP, putT]; cases Nat.blt d n <;> simp only [fT_eq]

/-- What is made of a call that no table tells of: of a function's value and arguments, a key, a state; on with what it hands back. -/
abbrev Caller := T → List T → Nat → Sl → Hp → (T → Sl → Hp → Prop) → Prop
def isSlt (P : Program) (t : TypeId) : Bool := match P.underlying t with
  | some (.slice _) => true
  | _ => false
/-- Is a slice nil? Either may be. -/
def nilQ (C : Ctx) (g : Mem) (ts : Sl) (op : Op) : Option (Nat × Bool) := match op with
  | .binOp op t x y _ => match isSlt C.P t && zS (ev C ts y) with
    | true => match nilLen g.alive (ev C ts x) with
      | some n => match op with
        | .eql => some (n, true)
        | .neq => some (n, false)
        | _ => none
      | none => none
    | false => none
  | _ => none
def stp (C : Ctx) (X : Caller) (n base : Nat) (o : Oper) (ts : Sl) (H : Hp) (K : Sl → Hp → Prop) : Prop :=
  match nilQ C H.get ts o.op with
  | some (q, e) => ∀ b : Bool, (b = e → q = 0) → fP n ts o.dst (.v (.bool b)) fun ts => K ts H
  | none => match stepO C H.get ts (keyOf base o.dst) o.op with
  | some ot => andO ot.c (fP n ts o.dst ot.t fun ts => fU ot.up H fun H => K ts H)
  | none => match o.op with
    | .call c => match c.callee with
      | .value f => X (ev C ts f) (evL C ts c.args.toList) (keyOf base o.dst) ts H (fun t ts H => fP n ts o.dst t fun ts => K ts H)
      | _ => False
    | _ => False
def rgoB (C : Ctx) (X : Caller) (n base : Nat) (ops : Array Oper) (o : Oper) (rc : Sl → Hp → (Sl → Hp → Prop) → Prop) (ts : Sl) (H : Hp) (K : Sl → Hp → Prop) : Prop :=
  match o.guard with
      | none => stp C X n base o ts H (fun ts H => rc ts H K)
      | some (j, want) => match dstOf ops j with
        | none => False
        | some d => match tget ts d with
          | .v (.bool x) => ifB x
              (match want with
                | true => stp C X n base o ((d, .v (.bool true)) :: ts) H (fun ts H => rc ts H K)
                | false => fP n ((d, .v (.bool true)) :: ts) o.dst (.tup []) fun ts => rc ts H K)
              (match want with
                | false => stp C X n base o ((d, .v (.bool false)) :: ts) H (fun ts H => rc ts H K)
                | true => fP n ((d, .v (.bool false)) :: ts) o.dst (.tup []) fun ts => rc ts H K)
          | .tup _ => fP n ts o.dst (.tup []) fun ts => rc ts H K
          | _ => False
/-- By the recursor itself: so the kernel and the tactics lay it out alike. -/
noncomputable def rgo (C : Ctx) (X : Caller) (n base : Nat) (ops : Array Oper) (l : List Oper) : Sl → Hp → (Sl → Hp → Prop) → Prop :=
  @List.rec Oper (fun _ => Sl → Hp → (Sl → Hp → Prop) → Prop) (fun ts H K => K ts H) (fun o _ rc => rgoB C X n base ops o rc) l
theorem rgo_cons {C : Ctx} {X : Caller} {n base : Nat} {ops : Array Oper} {o : Oper} {r : List Oper} {ts : Sl} {H : Hp} {K : Sl → Hp → Prop} : rgo C X n base ops (o :: r) ts H K = rgoB C X n base ops o (rgo C X n base ops r) ts H K := rfl

/-- The marks of a frame lie at lo or above. -/
def Lo (lo : Nat) (ds : List Deferred) : Prop := ∀ d ∈ ds, ∀ D, d.target = .collected D → lo ≤ D
/-- A frame and a world are as a state tells. -/
def Rl (C : Ctx) (n : Nat) (w0 : World) (O : Env) (ts : Sl) (H : Hp) (a : Act) (w : World) : Prop :=
  ∃ m, HR w0 w O m H.get ∧ AT w (Im m H.get) m (lens H.get) ts a ∧ GlOk C w (Im m H.get) m (lens H.get) ∧ (Mk w a.defers ∧ Lo O.lo a.defers) ∧ a.tmps.size = n
/-- The same, with a value at hand. -/
def Rv (C : Ctx) (w0 : World) (O : Env) (ts : Sl) (H : Hp) (a : Act) (w : World) (t : T) (v : Value) : Prop :=
  ∃ m, HR w0 w O m H.get ∧ AT w (Im m H.get) m (lens H.get) ts a ∧ GlOk C w (Im m H.get) m (lens H.get) ∧ (Mk w a.defers ∧ Lo O.lo a.defers) ∧ TV w (Im m H.get) m (lens H.get) t v
/-- A caller is sound. rd: may it be within a round of a loop over a function? -/
def XOk (C : Ctx) (rd : Bool) (X : Caller) : Prop := ∀ fv args key ts H K, X fv args key ts H K → ∀ (ro : Option Nat), (rd = false → ro = none) → ∀ n w0 O a w, Rl C n w0 O ts H a w →
  ∀ (o : Oper) f as tys, o.op = .call ⟨.value f, as, tys⟩ → ev C ts f = fv → evL C ts as.toList = args → ∀ (next : Act → World → Prop) (Q : Exit → Act → World → Prop),
    (∀ t ts' H' v w', K t ts' H' → Rv C w0 O ts' H' a w' t v → next (a.put o.dst v) w') → o.wpIn (FR ro) 0 C.P a w next Q

theorem get_append (up H : Hp) : Hp.get (up ++ H) = upd H.get up := by
  funext k
  induction up with
  | nil => rfl
  | cons p up ih => obtain ⟨j, b⟩ := p; simp only [List.cons_append, Hp.get, upd, ih]
theorem AT.put {w : World} {I m L} {ts : Sl} {a : Act} {n : Nat} (h : AT w I m L ts a) (hn : a.tmps.size = n) {d : Option Tmp} {t : T} {v : Value} (hv : TV w I m L t v) : AT w I m L (putT n ts d t) (a.put d v) := by
  cases d with
  | none => exact h
  | some d =>
    intro i
    simp only [putT, Act.put]
    cases e : Nat.blt d n
    · have hd : ¬ d < n := fun hlt => by rw [← Nat.blt_eq] at hlt; rw [hlt] at e; cases e
      have : (a.tmps.setIfInBounds d v).getD i undef = a.tmps.getD i undef := by
        rw [Array.getD_eq_getD_getElem?, Array.getD_eq_getD_getElem?, Array.getElem?_setIfInBounds]
        by_cases hi : d = i
        · subst hi; rw [if_pos rfl, if_neg (show ¬ d < a.tmps.size by rw [hn]; exact hd), Array.getElem?_eq_none (show a.tmps.size ≤ d by rw [hn]; exact Nat.le_of_not_lt hd)]
        · rw [if_neg hi]
      rw [this]; exact h i
    · have hd : d < n := by rwa [Nat.blt_eq] at e
      simp only [tget]
      rw [Array.getD_eq_getD_getElem?, Array.getElem?_setIfInBounds]
      cases e2 : Nat.beq d i
      · have hi : ¬ d = i := fun hi => by subst hi; rw [Nat.beq_refl] at e2; cases e2
        rw [if_neg hi, ← Array.getD_eq_getD_getElem?]; exact h i
      · have := Nat.eq_of_beq_eq_true e2; subst this
        rw [if_pos rfl, if_pos (show d < a.tmps.size by rw [hn]; exact hd)]; exact hv
theorem put_size (a : Act) (d : Option Tmp) (v : Value) : (a.put d v).tmps.size = a.tmps.size := by cases d <;> simp [Act.put]

section
variable {C : Ctx} {n : Nat} {w0 : World} {O : Env}

theorem andO_ok {ot : Out} {p : Prop} (h : andO ot.c p) : ot.ok ∧ p := by
  unfold andO at h
  split at h
  · rename_i e; exact ⟨fun q hq => (by rw [e] at hq; cases hq), h⟩
  · rename_i c e; exact ⟨fun q hq => (by rw [e] at hq; cases hq; exact h.1), h.2⟩
theorem Rv.put {ts : Sl} {H : Hp} {a : Act} {w : World} {t : T} {v : Value} (h : Rv C w0 O ts H a w t v) (hn : a.tmps.size = n) (d : Option Tmp) : Rl C n w0 O (putT n ts d t) H (a.put d v) w := by
  obtain ⟨m, h1, h2, h3, h4, h5⟩ := h
  exact ⟨m, h1, h2.put hn h5, h3, by cases d <;> exact h4, by rw [put_size, hn]⟩

/-- A step in the text's order, whatever is made of calls. -/
theorem step_rl (hC : C.ok) {base : Nat} {o : Oper} {ts : Sl} {H : Hp} {a : Act} {w : World} (hr : Rl C n w0 O ts H a w) {ot : Out} (e : stepO C H.get ts (keyOf base o.dst) o.op = some ot) (hok : ot.ok) {ro : Option Nat}
    {next : Act → World → Prop} {Q : Exit → Act → World → Prop} (hn : ∀ a w, Rl C n w0 O (putT n ts o.dst ot.t) (ot.up ++ H) a w → next a w) : o.wpIn (FR ro) 0 C.P a w next Q := by
  obtain ⟨m, h1, h2, h3, h4, h5⟩ := hr
  refine step_ok hC h1 h2 h3 e hok (fun v w' m' g1 g2 g3 => hn _ _ ?_)
  refine ⟨m', ?_, ?_, ?_, ?_, by rw [put_size, h5]⟩
  · rw [get_append]; exact g1
  · rw [get_append]; exact (h2.goes g2).put h5 g3
  · rw [get_append]; exact h3.goes g2
  · have : (a.put o.dst v).defers = a.defers := by cases o.dst <;> rfl
    rw [this]; exact ⟨h4.1.goes g2.odd, h4.2⟩
theorem nilLen_ok {w : World} {m : Nat → Option Nat} {g : Mem} {I : Nat → Prop} {x : T} {v : Value} {n : Nat} (h : nilLen g.alive x = some n) (hv : TV w I m (lens g) x v) : ∃ a l c, v = .slice a l c ∧ (a.isNone = true → n = 0) := by
  have own : ∀ {k sz off n : Nat} {v : Value}, g.alive k = true → TV w I m (lens g) (.os k sz off n) v → ∃ a l c, v = .slice a l c ∧ (a.isNone = true → n = 0) := by
    intro k sz off n v ha hv
    obtain ⟨l, hl⟩ := alive_lens ha
    obtain ⟨_, _, h3⟩ := hv.os_inv hl
    rcases h3 with ⟨h0, a, rfl⟩ | ⟨cap, b, _, rfl, _⟩
    · exact ⟨_, _, _, rfl, fun _ => h0⟩
    · exact ⟨_, _, _, rfl, fun h => by cases h⟩
  unfold nilLen at h
  split at h
  · cases h
    rcases hv.fl_inv with ⟨rfl, _, a, cap, rfl⟩ | ⟨b, off, cap, rfl, _⟩
    · exact ⟨_, _, _, rfl, fun _ => rfl⟩
    · exact ⟨_, _, _, rfl, fun h => by cases h⟩
  · cases h
    rcases hv.sl_inv with ⟨rfl, _, a, cap, rfl⟩ | ⟨b, off, cap, vs, rfl, _⟩
    · exact ⟨_, _, _, rfl, fun _ => rfl⟩
    · exact ⟨_, _, _, rfl, fun h => by cases h⟩
  · split at h
    · rename_i e; cases h; exact own e hv
    · cases h
  · split at h
    · rename_i e; cases h; cases hv with | ow ho _ => exact own e ho
    · cases h
  · cases h
theorem nilQ_ok {ro : Option Nat} {ts : Sl} {H : Hp} {a : Act} {w : World} (hr : Rl C n w0 O ts H a w) {o : Oper} {q : Nat} {e : Bool} (h : nilQ C H.get ts o.op = some (q, e))
    {next : Act → World → Prop} {Q : Exit → Act → World → Prop} (hn : ∀ b : Bool, (b = e → q = 0) → next (a.put o.dst (.bool b)) w) : o.wpIn (FR ro) 0 C.P a w next Q := by
  obtain ⟨m, h1, h2, h3, h4, h5⟩ := hr
  unfold nilQ at h
  split at h
  · rename_i op t x y yt hop
    refine wpIn_of_wp (fun c e => by rw [hop] at e; cases e) ?_
    have hx := ev_ok h2 h3 x
    have hy := ev_ok h2 h3 y
    split at h
    · rename_i hc
      rw [Bool.and_eq_true] at hc
      rw [zS_eq hc.2] at hy
      obtain ⟨hy, -⟩ := hy.v_inv
      obtain ⟨el, he⟩ : ∃ el, C.P.underlying t = some (.slice el) := by
        have := hc.1; unfold isSlt at this; split at this
        · rename_i el e; exact ⟨el, e⟩
        · cases this
      split at h
      · rename_i q' hq
        obtain ⟨ad, l, c, hv, hz⟩ := nilLen_ok hq hx
        have hrun := nilAny_run (P := C.P) (w := w) he x y ad l c
        have hex : execOp a.eval o = (do pure (.value (← (do eqGuard op t x y (a.eval x) (a.eval y); binOp op t (a.eval x) (a.eval y))))) := by
          obtain ⟨dst, op', ty, pos, after, guard⟩ := o
          simp only at hop
          subst hop
          simp only [execOp]
        unfold Oper.wp
        rw [hex, hv, hy]
        split at h
        · cases h
          rw [Sem.run_bind, hrun.1, Result.andThen_ok, Sem.run_pure, Oper.upon_value]
          exact hn _ hz
        · cases h
          rw [Sem.run_bind, hrun.2, Result.andThen_ok, Sem.run_pure, Oper.upon_value]
          exact hn _ (fun e => hz (by simpa using e))
        · cases h
      · cases h
    · cases h
  · cases h
theorem stp_ok (hC : C.ok) {rd : Bool} {X : Caller} (hX : XOk C rd X) {base : Nat} {o : Oper} {ts : Sl} {H : Hp} {K : Sl → Hp → Prop} {a : Act} {w : World} (h : stp C X n base o ts H K) (hr : Rl C n w0 O ts H a w)
    {ro : Option Nat} (hro : rd = false → ro = none)
    {next : Act → World → Prop} {Q : Exit → Act → World → Prop} (hn : ∀ ts H a w, K ts H → Rl C n w0 O ts H a w → next a w) : o.wpIn (FR ro) 0 C.P a w next Q := by
  unfold stp at h
  split at h
  · rename_i q e hq
    refine nilQ_ok hr hq (fun b hb => ?_)
    have hK := h b hb
    rw [fP_eq] at hK
    obtain ⟨m, h1, h2, h3, h4, h5⟩ := hr
    exact hn _ _ _ _ hK (Rv.put (n := n) ⟨m, h1, h2, h3, h4, .v rfl⟩ h5 _)
  split at h
  · rename_i ot e
    obtain ⟨hok, hK⟩ := andO_ok h
    rw [fP_eq, fU_eq] at hK
    exact step_rl hC hr e hok (fun a w hr' => hn _ _ _ _ hK hr')
  · split at h
    · rename_i c e
      split at h
      · rename_i f ef
        obtain ⟨callee, as, tys⟩ := c
        simp only at ef; subst ef
        refine hX _ _ _ _ _ _ h ro hro n w0 O a w hr o f as tys e rfl rfl next Q (fun t ts' H' v w' hK hv => ?_)
        rw [fP_eq] at hK
        obtain ⟨_, _, _, _, _, h5⟩ := hr
        exact hn _ _ _ _ hK (hv.put h5 _)
      · exact h.elim
    · exact h.elim

theorem Rl.setT {ts : Sl} {H : Hp} {a : Act} {w : World} (hr : Rl C n w0 O ts H a w) {d : Nat} {x y : Bool} (hd : tget ts d = .v (.bool x)) (e : x = y) : Rl C n w0 O ((d, .v (.bool y)) :: ts) H a w := by
  subst e
  obtain ⟨m, h1, h2, h3, h4, h5⟩ := hr
  refine ⟨m, h1, fun i => ?_, h3, h4, h5⟩
  simp only [tget]
  cases e2 : Nat.beq d i
  · exact h2 i
  · have := Nat.eq_of_beq_eq_true e2; subst this; rw [← hd]; exact h2 d
theorem Rl.yield {ts : Sl} {H : Hp} {a : Act} {w : World} (hr : Rl C n w0 O ts H a w) {ops : Array Oper} {j d : Nat} {x : Bool} (hj : dstOf ops j = some d) (hd : tget ts d = .v (.bool x)) : yielded ops a.tmps j = some x := by
  obtain ⟨m, h1, h2, h3, h4, h5⟩ := hr
  unfold dstOf at hj
  split at hj
  · rename_i o e
    have h6 := h2 d
    rw [hd] at h6
    obtain ⟨h7, -⟩ := h6.v_inv
    rw [Array.getD_eq_getD_getElem?] at h7
    cases e3 : a.tmps[d]? with
    | none => rw [e3] at h7; cases h7
    | some v => rw [e3] at h7; have h7 : v = _ := h7; subst h7; simp [yielded, e, hj, e3]
  · cases hj
theorem Rl.yield0 {ts : Sl} {H : Hp} {a : Act} {w : World} (hr : Rl C n w0 O ts H a w) {ops : Array Oper} {j d : Nat} {cs : List T} (hj : dstOf ops j = some d) (hd : tget ts d = .tup cs) : yielded ops a.tmps j = none := by
  obtain ⟨m, h1, h2, h3, h4, h5⟩ := hr
  unfold dstOf at hj
  split at hj
  · rename_i o e
    have h6 := h2 d
    rw [hd] at h6
    obtain ⟨vs, h7, -⟩ := h6.tup_inv
    rw [Array.getD_eq_getD_getElem?] at h7
    cases e3 : a.tmps[d]? with
    | none => simp [yielded, e, hj, e3]
    | some v => rw [e3] at h7; have h7 : v = _ := h7; subst h7; simp [yielded, e, hj, e3]
  · cases hj
theorem Rl.skip {ts : Sl} {H : Hp} {a : Act} {w : World} (hr : Rl C n w0 O ts H a w) (d : Option Tmp) : Rl C n w0 O (putT n ts d (.tup [])) H (a.put d undef) w := by
  obtain ⟨m, h1, h2, h3, h4, h5⟩ := hr
  exact ⟨m, h1, h2.put h5 (.tup .nil), h3, by cases d <;> exact h4, by rw [put_size, h5]⟩
theorem Rl.dead {ts : Sl} {H : Hp} {a : Act} {w : World} (hr : Rl C n w0 O ts H a w) (d : Option Tmp) (v : Value) : Rl C n w0 O (putT n ts d .dead) H (a.put d v) w := by
  obtain ⟨m, h1, h2, h3, h4, h5⟩ := hr
  exact ⟨m, h1, h2.put h5 .dead, h3, by cases d <;> exact h4, by rw [put_size, h5]⟩

theorem rgo_ok (hC : C.ok) {rd : Bool} {X : Caller} (hX : XOk C rd X) {base : Nat} {ops : Array Oper} {ro : Option Nat} (hro : rd = false → ro = none) {Q : Exit → Act → World → Prop} {K : Sl → Hp → Prop} (hQ : ∀ ts H a w, K ts H → Rl C n w0 O ts H a w → Q .normal a w) :
    ∀ (l : List Oper) (i : Nat) (ts : Sl) (H : Hp) (a : Act) (w : World), ops.toList.drop i = l → rgo C X n base ops l ts H K → Rl C n w0 O ts H a w → wpOpsIn (FR ro) 0 C.P ops Q (List.range' i l.length) a w := by
  intro l
  induction l with
  | nil => intro i ts H a w _ h hr; exact hQ _ _ _ _ h hr
  | cons o l ih =>
    intro i ts H a w hd h hr
    rw [rgo_cons] at h
    unfold rgoB at h
    rw [List.length_cons, List.range'_succ, wpOpsIn_cons]
    unfold wpOpIn
    have e : ops[i]? = some o := by
      rw [← Array.getElem?_toList]
      have : (ops.toList.drop i)[0]? = some o := by rw [hd]; rfl
      rwa [List.getElem?_drop, Nat.add_zero] at this
    have hd' : ops.toList.drop (i + 1) = l := by
      rw [← List.drop_drop, hd]; rfl
    rw [e]
    simp only at h ⊢
    cases hg : o.guard with
    | none =>
      rw [hg] at h
      simp only at h
      have hw : Region.wanted o (yielded ops a.tmps) = true := by unfold Region.wanted; rw [hg]
      rw [if_pos hw]
      exact stp_ok hC hX h hr hro (fun ts H a w hK hr => ih _ _ _ _ _ hd' hK hr)
    | some jw =>
      obtain ⟨j, want⟩ := jw
      rw [hg] at h
      simp only at h
      split at h
      · exact h.elim
      · rename_i d hdd
        split at h
        · rename_i x hx
          have hy := hr.yield hdd hx
          have hw : Region.wanted o (yielded ops a.tmps) = (x == want) := by
            unfold Region.wanted; rw [hg]; simp only [hy]
            cases x <;> cases want <;> rfl
          rw [hw]
          cases x <;> cases want <;> simp only [ifB, fP_eq] at h
          · exact stp_ok hC hX h (hr.setT hx rfl) hro (fun ts H a w hK hr => ih _ _ _ _ _ hd' hK hr)
          · exact ⟨fun _ _ => trivial, ih _ _ _ _ _ hd' h ((hr.setT hx rfl).skip _)⟩
          · exact ⟨fun _ _ => trivial, ih _ _ _ _ _ hd' h ((hr.setT hx rfl).skip _)⟩
          · exact stp_ok hC hX h (hr.setT hx rfl) hro (fun ts H a w hK hr => ih _ _ _ _ _ hd' hK hr)
        · rename_i cs hx
          have hw : Region.wanted o (yielded ops a.tmps) = false := by
            unfold Region.wanted; rw [hg]; simp only [hr.yield0 hdd hx]; rfl
          rw [hw]
          rw [fP_eq] at h
          exact ⟨fun _ _ => trivial, ih _ _ _ _ _ hd' h (hr.skip _)⟩
        · exact h.elim

/-! ### code -/
/-- What is to be shown of code. rd: may it be within a round of a loop over a function? -/
structure TW (C : Ctx) (n : Nat) (rd : Bool) (c : Code) (ts : Sl) (H : Hp) (K : Exit → Sl → Hp → Prop) : Prop where
  out : ∀ (ro : Option Nat), (rd = false → ro = none) → ∀ w0 O a w, Rl C n w0 O ts H a w → c.wpIn (FR ro) 0 C.P (fun e a' w' => ∃ ts' H', K e ts' H' ∧ Rl C n w0 O ts' H' a' w') a w
def seqK (n : Sl → Hp → Prop) (K : Exit → Sl → Hp → Prop) : Exit → Sl → Hp → Prop
  | .normal, ts, H => n ts H
  | e, ts, H => K e ts H
def blkK (id : Nat) (K : Exit → Sl → Hp → Prop) : Exit → Sl → Hp → Prop
  | .exit j, ts, H => match Nat.beq j id with
    | true => K .normal ts H
    | false => K (.exit j) ts H
  | e, ts, H => K e ts H
end
end Go.Proofs.Yteinekidpokbpaa.Am
