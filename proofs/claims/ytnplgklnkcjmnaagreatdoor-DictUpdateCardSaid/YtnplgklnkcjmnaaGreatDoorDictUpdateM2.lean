/- Texts put together: AmJ, AmK, AmL, AmM, AmN, AmO, AmP, AmQ, AmT, AmU, AmV. -/
import Derived.Test.YtnplgklnkcjmnaaGreatDoorDictUpdateM1
import Derived.LoopN
import Derived.LoopNIn
namespace Go.Proofs.YtnplgklnkcjmnaaGreatDoor.Am
set_option linter.unusedVariables false
set_option linter.unusedSimpArgs false
open Go.RowKit

def putT (n : Nat) (ts : Sl) (d : Option Tmp) (t : T) : Sl := match d with
  | some d => match Nat.blt d n with
    | true => (d, t) :: ts
    | false => ts
  | none => ts
def keyOf (base : Nat) (d : Option Tmp) : Nat := match d with
  | some d => base + 4 * d
  | none => base
def andO (c : Option Prop) (p : Prop) : Prop := match c with
  | none => p
  | some c => c ∧ p
/-- A bool decides. -/
def ifB (x : Bool) (p q : Prop) : Prop := match x with
  | true => p
  | false => q
theorem ifB_mk {x : Bool} {p q : Prop} (hp : x = true → p) (hq : x = false → q) : ifB x p q := by
  cases x
  · exact hq rfl
  · exact hp rfl
def dstOf (ops : Array Oper) (j : Nat) : Option Tmp := match ops[j]? with
  | some o => o.dst
  | none => none
/-! Laying a state out, so that it stays small. -/
def fK (k : IntKind) (K : IntKind → Prop) : Prop := match k with
  | .i64 => K .i64
  | .u64 => K .u64
  | k => K k
theorem fK_eq (k : IntKind) (K : IntKind → Prop) : fK k K = K k := by unfold fK; split <;> rfl
def fV (x : Value) (K : Value → Prop) : Prop := match x with
  | .int k n => fK k fun k => K (.int k n)
  | .bool b => K (.bool b)
  | x => K x
def fN (n : Nat) (K : Nat → Prop) : Prop := match n with
  | 0 => K 0
  | m + 1 => K (m + 1)
theorem fN_eq (n : Nat) (K : Nat → Prop) : fN n K = K n := by cases n <;> rfl
def fKs : List IntKind → (List IntKind → Prop) → Prop
  | [], K => K []
  | k :: r, K => fK k fun k => fKs r fun r => K (k :: r)
theorem fKs_eq (ks : List IntKind) (K : List IntKind → Prop) : fKs ks K = K ks := by
  induction ks generalizing K with
  | nil => rfl
  | cons k r ih => rw [fKs, fK_eq, ih]
mutual
def fT : T → (T → Prop) → Prop
  | .v x, K => fV x fun x => K (.v x)
  | .fl ks n xs, K => fKs ks fun ks => K (.fl ks n xs)
  | .fp ks xs b st i e, K => fN b fun b => fN st fun st => fN e fun e => K (.fp ks xs b st i e)
  | .sl n sz cs, K => fTs cs fun cs => K (.sl n sz cs)
  | .sp cs i, K => fTs cs fun cs => K (.sp cs i)
  | .os k sz off n, K => fN k fun k => K (.os k sz off n)
  | .ow k sz n, K => fN k fun k => K (.ow k sz n)
  | .op k b st i e, K => fN k fun k => fN b fun b => fN st fun st => fN e fun e => K (.op k b st i e)
  | .mp k, K => fN k fun k => K (.mp k)
  | .agg cs, K => fTs cs fun cs => K (.agg cs)
  | .tup cs, K => fTs cs fun cs => K (.tup cs)
  | .ifc t x, K => fT x fun x => K (.ifc t x)
  | .fn f a c, K => fTs a fun a => fTs c fun c => K (.fn f a c)
  | .dead, K => K .dead
def fTs : List T → (List T → Prop) → Prop
  | [], K => K []
  | t :: r, K => fT t fun t => fTs r fun r => K (t :: r)
end
def fB (b : Blk) (K : Blk → Prop) : Prop := match b with
  | .fl ks xs => fKs ks fun ks => K (.fl ks xs)
  | .cs cs => fTs cs fun cs => K (.cs cs)
  | .gone => K .gone
  | .mp kk vk es => fK kk fun kk => K (.mp kk vk es)
  | .gh id ts => K (.gh id ts)
  | .lp id l st pe n ts ps asg body => K (.lp id l st pe n ts ps asg body)
def fU : List (Nat × Blk) → Hp → (Hp → Prop) → Prop
  | [], H, K => K H
  | (k, b) :: r, H, K => fN k fun k => fB b fun b => fU r H fun H => K ((k, b) :: H)
theorem fV_eq (x : Value) (K : Value → Prop) : fV x K = K x := by unfold fV; split <;> simp only [fK_eq]
mutual
theorem fT_eq : ∀ (t : T) (K : T → Prop), fT t K = K t
  | .v x, K => by rw [fT, fV_eq]
  | .fl ks n xs, K => by rw [fT, fKs_eq]
  | .fp ks xs b st i e, K => by rw [fT]; simp only [fN_eq]
  | .sl n sz cs, K => by rw [fT, fTs_eq cs]
  | .sp cs i, K => by rw [fT, fTs_eq cs]
  | .os k sz off n, K => by rw [fT]; simp only [fN_eq]
  | .ow k sz n, K => by rw [fT]; simp only [fN_eq]
  | .op k b st i e, K => by rw [fT]; simp only [fN_eq]
  | .mp k, K => by rw [fT]; simp only [fN_eq]
  | .agg cs, K => by rw [fT, fTs_eq cs]
  | .tup cs, K => by rw [fT, fTs_eq cs]
  | .ifc t x, K => by rw [fT, fT_eq x]
  | .fn f a c, K => by rw [fT, fTs_eq a, fTs_eq c]
  | .dead, K => by rw [fT]
theorem fTs_eq : ∀ (l : List T) (K : List T → Prop), fTs l K = K l
  | [], K => by rw [fTs]
  | t :: r, K => by rw [fTs, fT_eq t, fTs_eq r]
end
theorem fB_eq (b : Blk) (K : Blk → Prop) : fB b K = K b := by unfold fB; split <;> first | rfl | rw [fTs_eq] | rw [fKs_eq] | rw [fK_eq]
theorem fU_eq (l : List (Nat × Blk)) (H : Hp) (K : Hp → Prop) : fU l H K = K (l ++ H) := by
  induction l generalizing K with
  | nil => rfl
  | cons p l ih => obtain ⟨k, b⟩ := p; rw [fU, fN_eq, fB_eq, ih]; rfl
def fP (n : Nat) (ts : Sl) (d : Option Tmp) (t : T) (K : Sl → Prop) : Prop := match d with
  | some d => match Nat.blt d n with
    | true => fT t fun t => K ((d, t) :: ts)
    | false => K ts
  | none => K ts
theorem fP_eq (n : Nat) (ts : Sl) (d : Option Tmp) (t : T) (K : Sl → Prop) : fP n ts d t K = K (putT n ts d t) := by
  cases d with
  | none => rfl
  | some d => simp only [fP, putT]; cases Nat.blt d n <;> simp only [fT_eq]

/-- What is made of a call that no table tells of: of a function's value and arguments, a key, a state; on with what it hands back. -/
abbrev Caller := T → List T → Nat → Sl → Hp → (T → Sl → Hp → Prop) → Prop
def isSlt (P : Program) (t : TypeId) : Bool := match P.underlying t with
  | some (.slice _) => true
  | _ => false
/-- Is a slice nil? Either may be. -/
def nilQ (C : Ctx) (g : Mem) (ts : Sl) (op : Op) : Option (Nat × Bool) := match op with
  | .binOp op t x y _ => match isSlt C.P t && zS (ev C ts y) with
    | true => match nilLen g.alive (ev C ts x) with
      | some n => match op with
        | .eql => some (n, true)
        | .neq => some (n, false)
        | _ => none
      | none => none
    | false => none
  | _ => none
def stp (C : Ctx) (X : Caller) (n base : Nat) (o : Oper) (ts : Sl) (H : Hp) (K : Sl → Hp → Prop) : Prop :=
  match nilQ C H.get ts o.op with
  | some (q, e) => ∀ b : Bool, (b = e → q = 0) → fP n ts o.dst (.v (.bool b)) fun ts => K ts H
  | none => match stepO C H.get ts (keyOf base o.dst) o.op with
  | some ot => andO ot.c (fP n ts o.dst ot.t fun ts => fU ot.up H fun H => K ts H)
  | none => match o.op with
    | .call c => match c.callee with
      | .value f => X (ev C ts f) (evL C ts c.args.toList) (keyOf base o.dst) ts H (fun t ts H => fP n ts o.dst t fun ts => K ts H)
      | _ => False
    | _ => False
def rgoB (C : Ctx) (X : Caller) (n base : Nat) (ops : Array Oper) (o : Oper) (rc : Sl → Hp → (Sl → Hp → Prop) → Prop) (ts : Sl) (H : Hp) (K : Sl → Hp → Prop) : Prop :=
  match o.guard with
      | none => stp C X n base o ts H (fun ts H => rc ts H K)
      | some (j, want) => match dstOf ops j with
        | none => False
        | some d => match tget ts d with
          | .v (.bool x) => ifB x
              (match want with
                | true => stp C X n base o ((d, .v (.bool true)) :: ts) H (fun ts H => rc ts H K)
                | false => fP n ((d, .v (.bool true)) :: ts) o.dst (.tup []) fun ts => rc ts H K)
              (match want with
                | false => stp C X n base o ((d, .v (.bool false)) :: ts) H (fun ts H => rc ts H K)
                | true => fP n ((d, .v (.bool false)) :: ts) o.dst (.tup []) fun ts => rc ts H K)
          | .tup _ => fP n ts o.dst (.tup []) fun ts => rc ts H K
          | _ => False
/-- By the recursor itself: so the kernel and the tactics lay it out alike. -/
noncomputable def rgo (C : Ctx) (X : Caller) (n base : Nat) (ops : Array Oper) (l : List Oper) : Sl → Hp → (Sl → Hp → Prop) → Prop :=
  @List.rec Oper (fun _ => Sl → Hp → (Sl → Hp → Prop) → Prop) (fun ts H K => K ts H) (fun o _ rc => rgoB C X n base ops o rc) l
theorem rgo_cons {C : Ctx} {X : Caller} {n base : Nat} {ops : Array Oper} {o : Oper} {r : List Oper} {ts : Sl} {H : Hp} {K : Sl → Hp → Prop} : rgo C X n base ops (o :: r) ts H K = rgoB C X n base ops o (rgo C X n base ops r) ts H K := rfl

/-- The marks of a frame lie at lo or above. -/
def Lo (lo : Nat) (ds : List Deferred) : Prop := ∀ d ∈ ds, ∀ D, d.target = .collected D → lo ≤ D
/-- A frame and a world are as a state tells. -/
def Rl (C : Ctx) (n : Nat) (w0 : World) (O : Env) (ts : Sl) (H : Hp) (a : Act) (w : World) : Prop :=
  ∃ m, HR w0 w O m H.get ∧ AT w (Im m H.get) m (lens H.get) ts a ∧ GlOk C w (Im m H.get) m (lens H.get) ∧ (Mk w a.defers ∧ Lo O.lo a.defers) ∧ a.tmps.size = n
/-- The same, with a value at hand. -/
def Rv (C : Ctx) (w0 : World) (O : Env) (ts : Sl) (H : Hp) (a : Act) (w : World) (t : T) (v : Value) : Prop :=
  ∃ m, HR w0 w O m H.get ∧ AT w (Im m H.get) m (lens H.get) ts a ∧ GlOk C w (Im m H.get) m (lens H.get) ∧ (Mk w a.defers ∧ Lo O.lo a.defers) ∧ TV w (Im m H.get) m (lens H.get) t v
/-- A caller is sound. rd: may it be within a round of a loop over a function? -/
def XOk (C : Ctx) (rd : Bool) (X : Caller) : Prop := ∀ fv args key ts H K, X fv args key ts H K → ∀ (ro : Option Nat), (rd = false → ro = none) → ∀ n w0 O a w, Rl C n w0 O ts H a w →
  ∀ (o : Oper) f as tys, o.op = .call ⟨.value f, as, tys⟩ → ev C ts f = fv → evL C ts as.toList = args → ∀ (next : Act → World → Prop) (Q : Exit → Act → World → Prop),
    (∀ t ts' H' v w', K t ts' H' → Rv C w0 O ts' H' a w' t v → next (a.put o.dst v) w') → o.wpIn (FR ro) 0 C.P a w next Q

theorem get_append (up H : Hp) : Hp.get (up ++ H) = upd H.get up := by
  funext k
  induction up with
  | nil => rfl
  | cons p up ih => obtain ⟨j, b⟩ := p; simp only [List.cons_append, Hp.get, upd, ih]
theorem AT.put {w : World} {I m L} {ts : Sl} {a : Act} {n : Nat} (h : AT w I m L ts a) (hn : a.tmps.size = n) {d : Option Tmp} {t : T} {v : Value} (hv : TV w I m L t v) : AT w I m L (putT n ts d t) (a.put d v) := by
  cases d with
  | none => exact h
  | some d =>
    intro i
    simp only [putT, Act.put]
    cases e : Nat.blt d n
    · have hd : ¬ d < n := fun hlt => by rw [← Nat.blt_eq] at hlt; rw [hlt] at e; cases e
      have : (a.tmps.setIfInBounds d v).getD i undef = a.tmps.getD i undef := by
        rw [Array.getD_eq_getD_getElem?, Array.getD_eq_getD_getElem?, Array.getElem?_setIfInBounds]
        by_cases hi : d = i
        · subst hi; rw [if_pos rfl, if_neg (show ¬ d < a.tmps.size by rw [hn]; exact hd), Array.getElem?_eq_none (show a.tmps.size ≤ d by rw [hn]; exact Nat.le_of_not_lt hd)]
        · rw [if_neg hi]
      rw [this]; exact h i
    · have hd : d < n := by rwa [Nat.blt_eq] at e
      simp only [tget]
      rw [Array.getD_eq_getD_getElem?, Array.getElem?_setIfInBounds]
      cases e2 : Nat.beq d i
      · have hi : ¬ d = i := fun hi => by subst hi; rw [Nat.beq_refl] at e2; cases e2
        rw [if_neg hi, ← Array.getD_eq_getD_getElem?]; exact h i
      · have := Nat.eq_of_beq_eq_true e2; subst this
        rw [if_pos rfl, if_pos (show d < a.tmps.size by rw [hn]; exact hd)]; exact hv
theorem put_size (a : Act) (d : Option Tmp) (v : Value) : (a.put d v).tmps.size = a.tmps.size := by cases d <;> simp [Act.put]

section
variable {C : Ctx} {n : Nat} {w0 : World} {O : Env}

theorem andO_ok {ot : Out} {p : Prop} (h : andO ot.c p) : ot.ok ∧ p := by
  unfold andO at h
  split at h
  · rename_i e; exact ⟨fun q hq => (by rw [e] at hq; cases hq), h⟩
  · rename_i c e; exact ⟨fun q hq => (by rw [e] at hq; cases hq; exact h.1), h.2⟩
theorem Rv.put {ts : Sl} {H : Hp} {a : Act} {w : World} {t : T} {v : Value} (h : Rv C w0 O ts H a w t v) (hn : a.tmps.size = n) (d : Option Tmp) : Rl C n w0 O (putT n ts d t) H (a.put d v) w := by
  obtain ⟨m, h1, h2, h3, h4, h5⟩ := h
  exact ⟨m, h1, h2.put hn h5, h3, by cases d <;> exact h4, by rw [put_size, hn]⟩

/-- A step in the text's order, whatever is made of calls. -/
theorem step_rl (hC : C.ok) {base : Nat} {o : Oper} {ts : Sl} {H : Hp} {a : Act} {w : World} (hr : Rl C n w0 O ts H a w) {ot : Out} (e : stepO C H.get ts (keyOf base o.dst) o.op = some ot) (hok : ot.ok) {ro : Option Nat}
    {next : Act → World → Prop} {Q : Exit → Act → World → Prop} (hn : ∀ a w, Rl C n w0 O (putT n ts o.dst ot.t) (ot.up ++ H) a w → next a w) : o.wpIn (FR ro) 0 C.P a w next Q := by
  obtain ⟨m, h1, h2, h3, h4, h5⟩ := hr
  refine step_ok hC h1 h2 h3 e hok (fun v w' m' g1 g2 g3 => hn _ _ ?_)
  refine ⟨m', ?_, ?_, ?_, ?_, by rw [put_size, h5]⟩
  · rw [get_append]; exact g1
  · rw [get_append]; exact (h2.goes g2).put h5 g3
  · rw [get_append]; exact h3.goes g2
  · have : (a.put o.dst v).defers = a.defers := by cases o.dst <;> rfl
    rw [this]; exact ⟨h4.1.goes g2.odd, h4.2⟩
theorem nilLen_ok {w : World} {m : Nat → Option Nat} {g : Mem} {I : Nat → Prop} {x : T} {v : Value} {n : Nat} (h : nilLen g.alive x = some n) (hv : TV w I m (lens g) x v) : ∃ a l c, v = .slice a l c ∧ (a.isNone = true → n = 0) := by
  have own : ∀ {k sz off n : Nat} {v : Value}, g.alive k = true → TV w I m (lens g) (.os k sz off n) v → ∃ a l c, v = .slice a l c ∧ (a.isNone = true → n = 0) := by
    intro k sz off n v ha hv
    obtain ⟨l, hl⟩ := alive_lens ha
    obtain ⟨_, _, h3⟩ := hv.os_inv hl
    rcases h3 with ⟨h0, a, rfl⟩ | ⟨cap, b, _, rfl, _⟩
    · exact ⟨_, _, _, rfl, fun _ => h0⟩
    · exact ⟨_, _, _, rfl, fun h => by cases h⟩
  unfold nilLen at h
  split at h
  · cases h
    rcases hv.fl_inv with ⟨rfl, _, a, cap, rfl⟩ | ⟨b, off, cap, rfl, _⟩
    · exact ⟨_, _, _, rfl, fun _ => rfl⟩
    · exact ⟨_, _, _, rfl, fun h => by cases h⟩
  · cases h
    rcases hv.sl_inv with ⟨rfl, _, a, cap, rfl⟩ | ⟨b, off, cap, vs, rfl, _⟩
    · exact ⟨_, _, _, rfl, fun _ => rfl⟩
    · exact ⟨_, _, _, rfl, fun h => by cases h⟩
  · split at h
    · rename_i e; cases h; exact own e hv
    · cases h
  · split at h
    · rename_i e; cases h; cases hv with | ow ho _ => exact own e ho
    · cases h
  · cases h
theorem nilQ_ok {ro : Option Nat} {ts : Sl} {H : Hp} {a : Act} {w : World} (hr : Rl C n w0 O ts H a w) {o : Oper} {q : Nat} {e : Bool} (h : nilQ C H.get ts o.op = some (q, e))
    {next : Act → World → Prop} {Q : Exit → Act → World → Prop} (hn : ∀ b : Bool, (b = e → q = 0) → next (a.put o.dst (.bool b)) w) : o.wpIn (FR ro) 0 C.P a w next Q := by
  obtain ⟨m, h1, h2, h3, h4, h5⟩ := hr
  unfold nilQ at h
  split at h
  · rename_i op t x y yt hop
    refine wpIn_of_wp (fun c e => by rw [hop] at e; cases e) ?_
    have hx := ev_ok h2 h3 x
    have hy := ev_ok h2 h3 y
    split at h
    · rename_i hc
      rw [Bool.and_eq_true] at hc
      rw [zS_eq hc.2] at hy
      obtain ⟨hy, -⟩ := hy.v_inv
      obtain ⟨el, he⟩ : ∃ el, C.P.underlying t = some (.slice el) := by
        have := hc.1; unfold isSlt at this; split at this
        · rename_i el e; exact ⟨el, e⟩
        · cases this
      split at h
      · rename_i q' hq
        obtain ⟨ad, l, c, hv, hz⟩ := nilLen_ok hq hx
        have hrun := nilAny_run (P := C.P) (w := w) he x y ad l c
        have hex : execOp a.eval o = (do pure (.value (← (do eqGuard op t x y (a.eval x) (a.eval y); binOp op t (a.eval x) (a.eval y))))) := by
          obtain ⟨dst, op', ty, pos, after, guard⟩ := o
          simp only at hop
          subst hop
          simp only [execOp]
        unfold Oper.wp
        rw [hex, hv, hy]
        split at h
        · cases h
          rw [Sem.run_bind, hrun.1, Result.andThen_ok, Sem.run_pure, Oper.upon_value]
          exact hn _ hz
        · cases h
          rw [Sem.run_bind, hrun.2, Result.andThen_ok, Sem.run_pure, Oper.upon_value]
          exact hn _ (fun e => hz (by simpa using e))
        · cases h
      · cases h
    · cases h
  · cases h
theorem stp_ok (hC : C.ok) {rd : Bool} {X : Caller} (hX : XOk C rd X) {base : Nat} {o : Oper} {ts : Sl} {H : Hp} {K : Sl → Hp → Prop} {a : Act} {w : World} (h : stp C X n base o ts H K) (hr : Rl C n w0 O ts H a w)
    {ro : Option Nat} (hro : rd = false → ro = none)
    {next : Act → World → Prop} {Q : Exit → Act → World → Prop} (hn : ∀ ts H a w, K ts H → Rl C n w0 O ts H a w → next a w) : o.wpIn (FR ro) 0 C.P a w next Q := by
  unfold stp at h
  split at h
  · rename_i q e hq
    refine nilQ_ok hr hq (fun b hb => ?_)
    have hK := h b hb
    rw [fP_eq] at hK
    obtain ⟨m, h1, h2, h3, h4, h5⟩ := hr
    exact hn _ _ _ _ hK (Rv.put (n := n) ⟨m, h1, h2, h3, h4, .v rfl⟩ h5 _)
  split at h
  · rename_i ot e
    obtain ⟨hok, hK⟩ := andO_ok h
    rw [fP_eq, fU_eq] at hK
    exact step_rl hC hr e hok (fun a w hr' => hn _ _ _ _ hK hr')
  · split at h
    · rename_i c e
      split at h
      · rename_i f ef
        obtain ⟨callee, as, tys⟩ := c
        simp only at ef; subst ef
        refine hX _ _ _ _ _ _ h ro hro n w0 O a w hr o f as tys e rfl rfl next Q (fun t ts' H' v w' hK hv => ?_)
        rw [fP_eq] at hK
        obtain ⟨_, _, _, _, _, h5⟩ := hr
        exact hn _ _ _ _ hK (hv.put h5 _)
      · exact h.elim
    · exact h.elim

theorem Rl.setT {ts : Sl} {H : Hp} {a : Act} {w : World} (hr : Rl C n w0 O ts H a w) {d : Nat} {x y : Bool} (hd : tget ts d = .v (.bool x)) (e : x = y) : Rl C n w0 O ((d, .v (.bool y)) :: ts) H a w := by
  subst e
  obtain ⟨m, h1, h2, h3, h4, h5⟩ := hr
  refine ⟨m, h1, fun i => ?_, h3, h4, h5⟩
  simp only [tget]
  cases e2 : Nat.beq d i
  · exact h2 i
  · have := Nat.eq_of_beq_eq_true e2; subst this; rw [← hd]; exact h2 d
theorem Rl.yield {ts : Sl} {H : Hp} {a : Act} {w : World} (hr : Rl C n w0 O ts H a w) {ops : Array Oper} {j d : Nat} {x : Bool} (hj : dstOf ops j = some d) (hd : tget ts d = .v (.bool x)) : yielded ops a.tmps j = some x := by
  obtain ⟨m, h1, h2, h3, h4, h5⟩ := hr
  unfold dstOf at hj
  split at hj
  · rename_i o e
    have h6 := h2 d
    rw [hd] at h6
    obtain ⟨h7, -⟩ := h6.v_inv
    rw [Array.getD_eq_getD_getElem?] at h7
    cases e3 : a.tmps[d]? with
    | none => rw [e3] at h7; cases h7
    | some v => rw [e3] at h7; have h7 : v = _ := h7; subst h7; simp [yielded, e, hj, e3]
  · cases hj
theorem Rl.yield0 {ts : Sl} {H : Hp} {a : Act} {w : World} (hr : Rl C n w0 O ts H a w) {ops : Array Oper} {j d : Nat} {cs : List T} (hj : dstOf ops j = some d) (hd : tget ts d = .tup cs) : yielded ops a.tmps j = none := by
  obtain ⟨m, h1, h2, h3, h4, h5⟩ := hr
  unfold dstOf at hj
  split at hj
  · rename_i o e
    have h6 := h2 d
    rw [hd] at h6
    obtain ⟨vs, h7, -⟩ := h6.tup_inv
    rw [Array.getD_eq_getD_getElem?] at h7
    cases e3 : a.tmps[d]? with
    | none => simp [yielded, e, hj, e3]
    | some v => rw [e3] at h7; have h7 : v = _ := h7; subst h7; simp [yielded, e, hj, e3]
  · cases hj
theorem Rl.skip {ts : Sl} {H : Hp} {a : Act} {w : World} (hr : Rl C n w0 O ts H a w) (d : Option Tmp) : Rl C n w0 O (putT n ts d (.tup [])) H (a.put d undef) w := by
  obtain ⟨m, h1, h2, h3, h4, h5⟩ := hr
  exact ⟨m, h1, h2.put h5 (.tup .nil), h3, by cases d <;> exact h4, by rw [put_size, h5]⟩
theorem Rl.dead {ts : Sl} {H : Hp} {a : Act} {w : World} (hr : Rl C n w0 O ts H a w) (d : Option Tmp) (v : Value) : Rl C n w0 O (putT n ts d .dead) H (a.put d v) w := by
  obtain ⟨m, h1, h2, h3, h4, h5⟩ := hr
  exact ⟨m, h1, h2.put h5 .dead, h3, by cases d <;> exact h4, by rw [put_size, h5]⟩

theorem rgo_ok (hC : C.ok) {rd : Bool} {X : Caller} (hX : XOk C rd X) {base : Nat} {ops : Array Oper} {ro : Option Nat} (hro : rd = false → ro = none) {Q : Exit → Act → World → Prop} {K : Sl → Hp → Prop} (hQ : ∀ ts H a w, K ts H → Rl C n w0 O ts H a w → Q .normal a w) :
    ∀ (l : List Oper) (i : Nat) (ts : Sl) (H : Hp) (a : Act) (w : World), ops.toList.drop i = l → rgo C X n base ops l ts H K → Rl C n w0 O ts H a w → wpOpsIn (FR ro) 0 C.P ops Q (List.range' i l.length) a w := by
  intro l
  induction l with
  | nil => intro i ts H a w _ h hr; exact hQ _ _ _ _ h hr
  | cons o l ih =>
    intro i ts H a w hd h hr
    rw [rgo_cons] at h
    unfold rgoB at h
    rw [List.length_cons, List.range'_succ, wpOpsIn_cons]
    unfold wpOpIn
    have e : ops[i]? = some o := by
      rw [← Array.getElem?_toList]
      have : (ops.toList.drop i)[0]? = some o := by rw [hd]; rfl
      rwa [List.getElem?_drop, Nat.add_zero] at this
    have hd' : ops.toList.drop (i + 1) = l := by
      rw [← List.drop_drop, hd]; rfl
    rw [e]
    simp only at h ⊢
    cases hg : o.guard with
    | none =>
      rw [hg] at h
      simp only at h
      have hw : Region.wanted o (yielded ops a.tmps) = true := by unfold Region.wanted; rw [hg]
      rw [if_pos hw]
      exact stp_ok hC hX h hr hro (fun ts H a w hK hr => ih _ _ _ _ _ hd' hK hr)
    | some jw =>
      obtain ⟨j, want⟩ := jw
      rw [hg] at h
      simp only at h
      split at h
      · exact h.elim
      · rename_i d hdd
        split at h
        · rename_i x hx
          have hy := hr.yield hdd hx
          have hw : Region.wanted o (yielded ops a.tmps) = (x == want) := by
            unfold Region.wanted; rw [hg]; simp only [hy]
            cases x <;> cases want <;> rfl
          rw [hw]
          cases x <;> cases want <;> simp only [ifB, fP_eq] at h
          · exact stp_ok hC hX h (hr.setT hx rfl) hro (fun ts H a w hK hr => ih _ _ _ _ _ hd' hK hr)
          · exact ⟨fun _ _ => trivial, ih _ _ _ _ _ hd' h ((hr.setT hx rfl).skip _)⟩
          · exact ⟨fun _ _ => trivial, ih _ _ _ _ _ hd' h ((hr.setT hx rfl).skip _)⟩
          · exact stp_ok hC hX h (hr.setT hx rfl) hro (fun ts H a w hK hr => ih _ _ _ _ _ hd' hK hr)
        · rename_i cs hx
          have hw : Region.wanted o (yielded ops a.tmps) = false := by
            unfold Region.wanted; rw [hg]; simp only [hr.yield0 hdd hx]; rfl
          rw [hw]
          rw [fP_eq] at h
          exact ⟨fun _ _ => trivial, ih _ _ _ _ _ hd' h (hr.skip _)⟩
        · exact h.elim

/-! ### code -/
/-- What is to be shown of code. rd: may it be within a round of a loop over a function? -/
structure TW (C : Ctx) (n : Nat) (rd : Bool) (c : Code) (ts : Sl) (H : Hp) (K : Exit → Sl → Hp → Prop) : Prop where
  out : ∀ (ro : Option Nat), (rd = false → ro = none) → ∀ w0 O a w, Rl C n w0 O ts H a w → c.wpIn (FR ro) 0 C.P (fun e a' w' => ∃ ts' H', K e ts' H' ∧ Rl C n w0 O ts' H' a' w') a w
def seqK (n : Sl → Hp → Prop) (K : Exit → Sl → Hp → Prop) : Exit → Sl → Hp → Prop
  | .normal, ts, H => n ts H
  | e, ts, H => K e ts H
def blkK (id : Nat) (K : Exit → Sl → Hp → Prop) : Exit → Sl → Hp → Prop
  | .exit j, ts, H => match Nat.beq j id with
    | true => K .normal ts H
    | false => K (.exit j) ts H
  | e, ts, H => K e ts H
end
end Go.Proofs.YtnplgklnkcjmnaaGreatDoor.Am
namespace Go.Proofs.YtnplgklnkcjmnaaGreatDoor.Am
set_option linter.unusedVariables false
set_option linter.unusedSimpArgs false
open Go.RowKit

/-! ### what a state is turned into, so that less is told, or otherwise -/
inductive Sub where
  | to (k : Nat)
  | flat (ks : List IntKind) (xs : List Int)
  | dead
mutual
def T.sub (f : Nat → Sub) : T → T
  | .os k sz off n => match f k with
    | .to k' => .os k' sz off n
    | _ => .dead
  | .ow k sz n => match f k with
    | .to k' => .ow k' sz n
    | .flat ks xs => match Nat.beq ks.length sz with
      | true => .fl ks n xs
      | false => .dead
    | .dead => .dead
  | .op k b st i e => match f k with
    | .to k' => .op k' b st i e
    | .flat ks xs => .fp ks xs b st i e
    | .dead => .dead
  | .mp k => match f k with
    | .to k' => .mp k'
    | _ => .dead
  | .agg cs => .agg (subs f cs)
  | .tup cs => .tup (subs f cs)
  | .sl n sz cs => .sl n sz (subs f cs)
  | .sp cs i => .sp (subs f cs) i
  | .ifc t x => .ifc t (x.sub f)
  | .fn g a c => .fn g (subs f a) (subs f c)
  | .v x => .v x
  | .fl ks n xs => .fl ks n xs
  | .fp ks xs b st i e => .fp ks xs b st i e
  | .dead => .dead
def subs (f : Nat → Sub) : List T → List T
  | [] => []
  | t :: r => t.sub f :: subs f r
end
def subS (f : Nat → Sub) : Sl → Sl
  | [] => []
  | (i, t) :: r => (i, t.sub f) :: subS f r
theorem tget_subS (f : Nat → Sub) (ts : Sl) (i : Nat) : tget (subS f ts) i = (tget ts i).sub f := by
  induction ts with
  | nil => rfl
  | cons p ts ih =>
    obtain ⟨j, t⟩ := p
    simp only [subS, tget]
    cases Nat.beq j i
    · exact ih
    · rfl
def Blk.sub (f : Nat → Sub) : Blk → Blk
  | .fl ks xs => .fl ks xs
  | .cs l => .cs (subs f l)
  | .gone => .gone
  | .mp kk vk es => .mp kk vk es
  | .gh id ts => .gh id (subS f ts)
  | .lp id l st pe n ts ps asg body => .lp id l st pe n (subS f ts) ps asg body
/-- A plan: which slots are kept, which blocks are kept under which names, which are taken as ones that stay. -/
structure Plan where
  keep : List Nat
  ren : List (Nat × Nat)
  frz : List Nat
def lookR : List (Nat × Nat) → Nat → Option Nat
  | [], _ => none
  | (a, b) :: r, k => match Nat.beq a k with
    | true => some b
    | false => lookR r k
def memN : List Nat → Nat → Bool
  | [], _ => false
  | a :: r, k => match Nat.beq a k with
    | true => true
    | false => memN r k
def Plan.f (p : Plan) (H : Hp) (k : Nat) : Sub := match lookR p.ren k with
  | some k' => .to k'
  | none => match memN p.frz k with
    | true => match H.get k with
      | some (.fl ks xs) => .flat ks xs
      | _ => .dead
    | false => .dead
def keepT (f : Nat → Sub) (ts : Sl) : List Nat → Sl
  | [] => []
  | i :: r => (i, (tget ts i).sub f) :: keepT f ts r
def renH (f : Nat → Sub) (H : Hp) : List (Nat × Nat) → Hp
  | [] => []
  | (k, k') :: r => match H.get k with
    | some b => (k', b.sub f) :: renH f H r
    | none => renH f H r
def Plan.ts (p : Plan) (H : Hp) (ts : Sl) : Sl := keepT (p.f H) ts p.keep
def Plan.H (p : Plan) (H : Hp) : Hp := renH (p.f H) H p.ren
def nodup : List Nat → Bool
  | [] => true
  | a :: r => !memN r a && nodup r
def Plan.fine (p : Plan) : Bool := nodup (p.ren.map (·.1)) && nodup (p.ren.map (·.2))

theorem memN_iff {l : List Nat} {k : Nat} : memN l k = true ↔ k ∈ l := by
  induction l with
  | nil => simp [memN]
  | cons a l ih =>
    simp only [memN, List.mem_cons]
    cases e : Nat.beq a k
    · simp only [ih]
      have : ¬ k = a := fun h => by subst h; rw [Nat.beq_refl] at e; cases e
      simp [this]
    · have := Nat.eq_of_beq_eq_true e; simp [this]
theorem nodup_iff {l : List Nat} : nodup l = true → l.Nodup := by
  induction l with
  | nil => simp
  | cons a l ih =>
    intro h
    simp only [nodup, Bool.and_eq_true, Bool.not_eq_true'] at h
    rw [List.nodup_cons]
    refine ⟨fun hm => ?_, ih h.2⟩
    rw [← memN_iff, h.1] at hm; cases hm
theorem lookR_mem {l : List (Nat × Nat)} {k k' : Nat} (h : lookR l k = some k') : (k, k') ∈ l := by
  induction l with
  | nil => cases h
  | cons p l ih =>
    obtain ⟨a, b⟩ := p
    simp only [lookR] at h
    cases e : Nat.beq a k
    · rw [e] at h; exact List.mem_cons_of_mem _ (ih h)
    · rw [e] at h; cases h; have := Nat.eq_of_beq_eq_true e; subst this; exact List.mem_cons_self ..
theorem lookR_of {l : List (Nat × Nat)} {k k' : Nat} (hn : (l.map (·.1)).Nodup) (h : (k, k') ∈ l) : lookR l k = some k' := by
  induction l with
  | nil => simp at h
  | cons p l ih =>
    obtain ⟨a, b⟩ := p
    rw [List.map_cons, List.nodup_cons] at hn
    simp only [lookR]
    rcases List.mem_cons.1 h with h | h
    · cases h; rw [Nat.beq_refl]
    · have hne : ¬ a = k := fun e => hn.1 (by subst e; exact List.mem_map.2 ⟨_, h, rfl⟩)
      have : Nat.beq a k = false := by
        cases e : Nat.beq a k
        · rfl
        · exact absurd (Nat.eq_of_beq_eq_true e) hne
      rw [this]; exact ih hn.2 h
theorem renH_get {f : Nat → Sub} {H : Hp} {k' : Nat} {b : Blk} : ∀ {l : List (Nat × Nat)}, (renH f H l).get k' = some b → ∃ k b0, (k, k') ∈ l ∧ H.get k = some b0 ∧ b = b0.sub f := by
  intro l
  induction l with
  | nil => intro h; cases h
  | cons p l ih =>
    obtain ⟨k, q⟩ := p
    intro h
    simp only [renH] at h
    cases e : H.get k with
    | none => rw [e] at h; obtain ⟨a, b0, h1, h2⟩ := ih h; exact ⟨a, b0, List.mem_cons_of_mem _ h1, h2⟩
    | some b0 =>
      rw [e] at h
      simp only [Hp.get] at h
      cases e2 : Nat.beq q k'
      · rw [e2] at h; obtain ⟨a, b1, h1, h2⟩ := ih h; exact ⟨a, b1, List.mem_cons_of_mem _ h1, h2⟩
      · rw [e2] at h
        have := Nat.eq_of_beq_eq_true e2; subst this
        cases h; exact ⟨k, b0, List.mem_cons_self .., e, rfl⟩
theorem renH_of {f : Nat → Sub} {H : Hp} {k k' : Nat} {b0 : Blk} : ∀ {l : List (Nat × Nat)}, (l.map (·.2)).Nodup → (k, k') ∈ l → H.get k = some b0 → (renH f H l).get k' = some (b0.sub f) := by
  intro l
  induction l with
  | nil => intro _ h; simp at h
  | cons p l ih =>
    obtain ⟨a, q⟩ := p
    intro hn h hg
    rw [List.map_cons, List.nodup_cons] at hn
    simp only [renH]
    rcases List.mem_cons.1 h with h | h
    · cases h; rw [hg]; simp [Hp.get]
    · have hne : ¬ q = k' := fun e => hn.1 (by subst e; exact List.mem_map.2 ⟨_, h, rfl⟩)
      cases e : H.get a with
      | none => exact ih hn.2 h hg
      | some c =>
        simp only [Hp.get]
        have : Nat.beq q k' = false := by
          cases e : Nat.beq q k'
          · rfl
          · exact absurd (Nat.eq_of_beq_eq_true e) hne
        rw [this]; exact ih hn.2 h hg

section
variable {w : World} {I I' : Nat → Prop} {m m' : Nat → Option Nat} {L L' : Nat → Option (Option Nat)}
/-- How a substitution stands to memory. -/
structure SubOk (w : World) (I I' : Nat → Prop) (m m' : Nat → Option Nat) (L L' : Nat → Option (Option Nat)) (f : Nat → Sub) : Prop where
  imm : ∀ b, I b → I' b
  ren : ∀ k k' s, f k = .to k' → L k = some s → L' k' = some s ∧ m' k' = m k
  flat : ∀ k ks xs l, f k = .flat ks xs → L k = some l → l = some xs.length ∧ ks ≠ [] ∧ ∀ b, m k = some b → I' b ∧ b < w.heap.size ∧ FlatAt w b 0 ks xs

theorem TV.sub {f : Nat → Sub} (s : SubOk w I I' m m' L L' f) {t : T} {v : Value} (h : TV w I m L t v) : TV w I' m' L' (t.sub f) v := by
  refine TV.rec (motive_1 := fun t v _ => TV w I' m' L' (t.sub f) v) (motive_2 := fun ts vs _ => TVs w I' m' L' (subs f ts) vs) ?_ ?_ ?_ ?_ ?_ ?_ ?_ ?_ ?_ ?_ ?_ ?_ ?_ ?_ ?_ ?_ ?_ ?_ ?_ ?_ ?_ ?_ h
  · intro x h; exact .v h
  · intros; exact .fl0
  · intro ks n xs b off cap hI hb hk hn hc hp h; exact .fl (s.imm _ hI) hb hk hn hc hp h
  · intro ks xs b0 st i e b off hI hb hk he h; exact .fp (s.imm _ hI) hb hk he h
  · intros; exact .sl0
  · intro n sz cs vs b off cap hI hb hn hc hp hv h ih
    have hl := TVs.length ih
    have hl2 := hv.length
    exact .sl (s.imm _ hI) hb (by omega) hc hp ih h
  · intro cs i vs b off hI hb hv h ih; exact .sp (s.imm _ hI) hb ih h
  · intro k sz off n n' cap a h
    simp only [T.sub]
    split
    · rename_i k' e; exact .osx (s.ren _ _ _ e h).1
    · exact .dead
  · intro k sz off l a h hl hz
    simp only [T.sub]
    split
    · rename_i k' e; exact .os0 (s.ren _ _ _ e h).1 hl hz
    · exact .dead
  · intro k sz off n l cap b h hm hl hc hz hr
    simp only [T.sub]
    split
    · rename_i k' e; obtain ⟨h1, h2⟩ := s.ren _ _ _ e h; exact .os h1 (h2.trans hm) hl hc hz hr
    · exact .dead
  · intro k sz n x h hl ih
    simp only [T.sub] at ih ⊢
    split
    · rename_i k' e
      simp only [e] at ih
      refine .ow ih ?_
      rcases hl with hl | hl
      · exact .inl (s.ren _ _ _ e hl).1
      · exact .inr (s.ren _ _ _ e hl).1
    · rename_i ks xs e
      split
      · rename_i hk
        have hk := Nat.eq_of_beq_eq_true hk
        rcases hl with hl | hl
        · obtain ⟨h1, _⟩ := s.flat _ _ _ _ e hl; cases h1
        · obtain ⟨h1, h2, h3⟩ := s.flat _ _ _ _ e hl
          have h1 : n * sz = xs.length := by injection h1
          cases h with
          | osx e2 => rw [hl] at e2; cases e2
          | os0 e2 _ _ => 
            have : xs = [] := List.eq_nil_of_length_eq_zero (by rw [← h1]; simp)
            subst this; exact .fl0
          | os e2 hm _ hc hz _ =>
            obtain ⟨g1, g2, g3⟩ := h3 _ hm
            by_cases hn : n = 0
            · subst hn
              have : xs = [] := List.eq_nil_of_length_eq_zero (by rw [← h1]; simp)
              subst this; exact .fl0
            · rw [Nat.zero_mul]; exact .fl g1 g2 h2 (by rw [← h1, hk]) hc (by omega) g3
      · exact .dead
    · exact .dead
  · intro k b st i e a h
    simp only [T.sub]
    split
    · rename_i k' e'; exact .opx (s.ren _ _ _ e' h).1
    · rename_i ks xs e'; obtain ⟨h1, _⟩ := s.flat _ _ _ _ e' h; cases h1
    · exact .dead
  · intro k b st i e l bb h hm hl
    simp only [T.sub]
    split
    · rename_i k' e'; obtain ⟨h1, h2⟩ := s.ren _ _ _ e' h; exact .op h1 (h2.trans hm) hl
    · rename_i ks xs e'
      obtain ⟨h1, h2, h3⟩ := s.flat _ _ _ _ e' h
      have h1 : l = xs.length := by injection h1
      obtain ⟨g1, g2, g3⟩ := h3 _ hm
      have := TV.fp (w := w) (I := I') (m := m') (L := L') (b0 := b) (st := st) (i := i) (e := e) (off := 0) g1 g2 h2 (by omega) g3
      rwa [Nat.zero_add] at this
    · exact .dead
  · intro k a h
    simp only [T.sub]
    split
    · rename_i k' e'; exact .mpx (s.ren _ _ _ e' h).1
    · exact .dead
  · intro k b h hm
    simp only [T.sub]
    split
    · rename_i k' e'; obtain ⟨h1, h2⟩ := s.ren _ _ _ e' h; exact .mp h1 (h2.trans hm)
    · exact .dead
  · intro cs vs h ih; exact .agg ih
  · intro cs vs h ih; exact .tup ih
  · intro t x y h ih; exact .ifc ih
  · intro f a c as cs ha hc iha ihc; exact .fn iha ihc
  · intros; exact .dead
  · exact .nil
  · intro t v ts vs h r ih1 ih2; exact .cons ih1 ih2
theorem TVs.sub {f : Nat → Sub} (s : SubOk w I I' m m' L L' f) {ts : List T} {vs : List Value} (h : TVs w I m L ts vs) : TVs w I' m' L' (subs f ts) vs := by
  induction ts generalizing vs with
  | nil => cases h; exact .nil
  | cons t ts ih => cases h with | cons h r => exact .cons (h.sub s) (ih r)
theorem AT.keep {f : Nat → Sub} (s : SubOk w I I' m m' L L' f) {keep : List Nat} {ts : Sl} {a : Act} (h : AT w I m L ts a) : AT w I' m' L' (keepT f ts keep) a := by
  intro i
  induction keep with
  | nil => exact .dead
  | cons j r ih =>
    simp only [keepT, tget]
    cases e : Nat.beq j i
    · exact ih
    · have := Nat.eq_of_beq_eq_true e; subst this; exact (h _).sub s
end

theorem subs_length (f : Nat → Sub) (l : List T) : (subs f l).length = l.length := by
  induction l with
  | nil => rfl
  | cons t l ih => simp [subs, ih]
theorem sub_len (f : Nat → Sub) (b : Blk) : (b.sub f).len? = b.len? := by
  cases b <;> simp [Blk.sub, Blk.len?, subs_length]

theorem FV.sub {w : World} {I I' : Nat → Prop} {m m' : Nat → Option Nat} {L L' : Nat → Option (Option Nat)} {f : Nat → Sub} (s : SubOk w I I' m m' L L' f) {ts : Sl} {a : Act} (h : FV w I m L ts a) : FV w I' m' L' (subS f ts) a :=
  ⟨fun i => by rw [tget_subS]; exact (h.1 i).sub s, h.2⟩
/-- The names behind a plan. -/
def Plan.m (p : Plan) (m : Nat → Option Nat) (k' : Nat) : Option Nat := match p.ren.find? (fun q => q.2 == k') with
  | some (k, _) => m k
  | none => none

/-- The program's variables lead to no block of the machine's own. -/
def Ctx.glq (C : Ctx) : Prop := ∀ g, C.gl g = .dead ∨ ∃ ks xs b st i e, C.gl g = .fp ks xs b st i e
theorem Ctx.glq.sub {C : Ctx} (h : C.glq) (f : Nat → Sub) (g : Nat) : (C.gl g).sub f = C.gl g := by
  rcases h g with e | ⟨ks, xs, b, st, i, e', e⟩ <;> rw [e] <;> rfl
theorem plan_ok {C : Ctx} {n : Nat} {w0 w : World} {O : Env} {ts : Sl} {H : Hp} {a : Act} (p : Plan) (hp : p.fine = true) (h : Rl C n w0 O ts H a w) (hgq : C.glq) : Rl C n w0 O (p.ts H ts) (p.H H) a w := by
  obtain ⟨m, h1, h2, h3, h4, h5⟩ := h
  simp only [Plan.fine, Bool.and_eq_true] at hp
  have n1 := nodup_iff hp.1
  have n2 := nodup_iff hp.2
  have hm : ∀ {k k'}, (k, k') ∈ p.ren → p.m m k' = m k := by
    intro k k' hk
    unfold Plan.m
    have : p.ren.find? (fun q => q.2 == k') = some (k, k') := by
      cases e : p.ren.find? (fun q => q.2 == k') with
      | none => rw [List.find?_eq_none] at e; exact absurd (by simp) (e _ hk)
      | some q =>
        have hq := List.find?_some e
        have hq2 := List.mem_of_find?_eq_some e
        simp at hq
        obtain ⟨q1, q2⟩ := q
        simp at hq; subst hq
        have : ∀ (l : List (Nat × Nat)), (l.map (·.2)).Nodup → (q1, q2) ∈ l → (k, q2) ∈ l → q1 = k := by
          intro l
          induction l with
          | nil => intro _ h; simp at h
          | cons x l ih =>
            intro hn h1 h2
            rw [List.map_cons, List.nodup_cons] at hn
            rcases List.mem_cons.1 h1 with h1 | h1 <;> rcases List.mem_cons.1 h2 with h2 | h2
            · rw [← h1] at h2; cases h2; rfl
            · exact absurd (List.mem_map.2 ⟨_, h2, rfl⟩) (by rw [← h1] at hn; exact hn.1)
            · exact absurd (List.mem_map.2 ⟨_, h1, rfl⟩) (by rw [← h2] at hn; exact hn.1)
            · exact ih hn.2 h1 h2
        rw [this _ n2 hq2 hk]
    rw [this]
  have hL : ∀ k' s, lens (p.H H).get k' = some s → ∃ k, (k, k') ∈ p.ren ∧ lens H.get k = some s := by
    intro k' s hs
    unfold lens at hs
    cases e : (p.H H).get k' with
    | none => rw [e] at hs; cases hs
    | some b =>
      rw [e] at hs
      obtain ⟨k, b0, g1, g2, g3⟩ := renH_get e
      refine ⟨k, g1, ?_⟩
      rw [lens_of g2]
      subst g3
      simpa [sub_len] using hs
  have hto : ∀ {k k'}, p.f H k = .to k' → (k, k') ∈ p.ren := by
    intro k k' hk
    unfold Plan.f at hk
    split at hk
    · rename_i e; cases hk; exact lookR_mem e
    · split at hk
      · split at hk <;> cases hk
      · cases hk
  have own' : ∀ b, Own (p.m m) (lens (p.H H).get) b → ∃ k k' l, (k, k') ∈ p.ren ∧ lens H.get k = some (some l) ∧ m k = some b := by
    rintro b ⟨k', l, g1, g2⟩
    obtain ⟨k, e1, e2⟩ := hL _ _ g1
    rw [hm e1] at g2
    exact ⟨k, k', l, e1, e2, g2⟩
  have S : SubOk w (Im m H.get) (Im (p.m m) (p.H H).get) m (p.m m) (lens H.get) (lens (p.H H).get) (p.f H) := by
    refine ⟨fun b hb ho => ?_, fun k k' s hk hs => ?_, fun k ks xs l hk hs => ?_⟩
    · obtain ⟨k, k', l, e1, e2, e3⟩ := own' b ho
      exact hb ⟨k, l, e2, e3⟩
    · have hmem := hto hk
      refine ⟨?_, hm hmem⟩
      unfold lens at hs
      cases e : H.get k with
      | none => rw [e] at hs; cases hs
      | some b0 =>
        rw [e] at hs
        have e5 := lens_of (renH_of (f := p.f H) n2 hmem e)
        rw [sub_len] at e5
        exact e5.trans hs
    · have hk' := hk
      unfold Plan.f at hk
      split at hk
      · cases hk
      · rename_i hlk
        split at hk
        · split at hk
          · rename_i ks' xs' e
            cases hk
            rw [lens_of e] at hs
            have hs : some xs.length = l := by injection hs
            have hbv := h1.blk k _ e
            refine ⟨hs.symm, ?_, fun b hb => ?_⟩
            · cases hq : m k with
              | none => rw [hq] at hbv; exact hbv.1
              | some b => rw [hq] at hbv; exact hbv.1
            · rw [hb] at hbv
              refine ⟨fun ho => ?_, hbv.2.1.lt, hbv.2.2.2⟩
              obtain ⟨j, j', l', e1, e2, e3⟩ := own' b ho
              have := h1.inj _ _ _ _ _ e2 (by rw [lens_of e]; rfl) e3 hb
              subst this
              rw [lookR_of n1 e1] at hlk; cases hlk
          · cases hk
        · cases hk
  refine ⟨p.m m, ⟨h1.fr, h1.lo, fun k' b hb => ?_, fun k k' l l' n hk hk' e e' => ?_, fun k l n hk e => ?_⟩, h2.keep S, fun g => by rw [← hgq.sub (p.f H) g]; exact (h3 g).sub S, h4, h5⟩
  · obtain ⟨k, b0, g1, g2, rfl⟩ := renH_get hb
    rw [hm g1]
    have hbv := h1.blk k _ g2
    cases hq : m k with
    | none =>
      rw [hq] at hbv
      cases b0 with
      | mp kk vk es => trivial
      | fl ks xs => exact hbv
      | cs cs => have hbv : cs = [] := hbv; subst hbv; rfl
      | gone => trivial
      | gh id ts => exact FV.sub S hbv
      | lp id l st pe n ts ps asg body => exact ⟨FV.sub S hbv.1, hbv.2⟩
    | some n =>
      rw [hq] at hbv
      cases b0 with
      | mp kk vk es => exact hbv
      | fl ks xs => exact hbv
      | cs cs => obtain ⟨vs, v1, v2⟩ := hbv; exact ⟨vs, v1.sub S, v2⟩
      | gone => trivial
      | gh id ts => exact FV.sub S hbv
      | lp id l st pe n ts ps asg body => exact ⟨FV.sub S hbv.1, hbv.2⟩
  · obtain ⟨j, a1, a2⟩ := hL _ _ hk
    obtain ⟨j', b1, b2⟩ := hL _ _ hk'
    rw [hm a1] at e
    rw [hm b1] at e'
    have := h1.inj _ _ _ _ _ a2 b2 e e'
    subst this
    have h5 := lookR_of n1 a1
    rw [lookR_of n1 b1] at h5
    injection h5 with h5; exact h5.symm
  · obtain ⟨j, a1, a2⟩ := hL _ _ hk
    rw [hm a1] at e
    exact h1.new _ _ _ a2 e

/-! ### loops -/
/-- A state may be told otherwise. -/
def Wk (ts : Sl) (H : Hp) (ts' : Sl) (H' : Hp) : Prop := ∃ p : Plan, p.fine = true ∧ p.ts H ts = ts' ∧ p.H H = H'
theorem Wk.ok {C : Ctx} {n : Nat} {w0 w : World} {O : Env} {ts ts' : Sl} {H H' : Hp} {a : Act} (hgq : C.glq) (k : Wk ts H ts' H') (h : Rl C n w0 O ts H a w) : Rl C n w0 O ts' H' a w := by
  obtain ⟨p, h1, rfl, rfl⟩ := k
  exact plan_ok p h1 h hgq

section
variable {C : Ctx} {n : Nat} {rd : Bool} {w0 : World} {O : Env}
theorem TW.weak (hgq : C.glq) {c : Code} {ts ts' : Sl} {H H' : Hp} {K : Exit → Sl → Hp → Prop} (k : Wk ts H ts' H') (h : TW C n rd c ts' H' K) : TW C n rd c ts H K := ⟨fun ro hro w0 O a w hr => h.out ro hro w0 O a w (k.ok hgq hr)⟩
theorem TW.mono {c : Code} {ts : Sl} {H : Hp} {K K' : Exit → Sl → Hp → Prop} (h : TW C n rd c ts H K) (hk : ∀ e ts H, K e ts H → K' e ts H) : TW C n rd c ts H K' :=
  ⟨fun ro hro w0 O a w hr => wpIn_mono (h.out ro hro w0 O a w hr) fun e a w ⟨ts', H', g1, g2⟩ => ⟨ts', H', hk _ _ _ g1, g2⟩⟩

/-- A loop, by what holds at its head. -/
theorem TW.loop (hgq : C.glq) {body : Code} {ts : Sl} {H : Hp} {K : Exit → Sl → Hp → Prop} {α : Type} (mk : α → Sl × Hp) (inv : α → Prop) (μ : α → Nat)
    (h0 : ∃ x, Wk ts H (mk x).1 (mk x).2 ∧ inv x)
    (round : ∀ x, inv x → TW C n rd body (mk x).1 (mk x).2 (seqK (fun ts' H' => ∃ y, Wk ts' H' (mk y).1 (mk y).2 ∧ inv y ∧ μ y < μ x) K)) : TW C n rd (.loop body) ts H K := by
  refine ⟨fun ro hro w0 O a w hr => ?_⟩
  obtain ⟨x0, k0, i0⟩ := h0
  have hr0 := k0.ok hgq hr
  intro b k cs hbo hb hrm
  have key : ∀ q x a w, μ x = q → inv x → Rl C n w0 O (mk x).1 (mk x).2 a w →
      ∃ e a' w', (∃ ts' H', K e ts' H' ∧ Rl C n w0 O ts' H' a' w') ∧ ArrivesIn (Machine.fenced C.P (FR ro)) C.P (lone (b.atR a (.code body :: .inLoop body :: k)) cs w) b k cs e a' w' := by
    intro q
    induction q using Nat.strongRecOn with
    | _ q ih =>
      intro x a w hn hi hr
      obtain ⟨e, a1, w1, ⟨ts1, H1, hq, hr1⟩, harr⟩ := (round x hi).out ro hro w0 O a w hr b (.inLoop body :: k) cs hbo hb hrm
      cases e with
      | normal =>
        obtain ⟨y, ky, iy, hlt⟩ := hq
        obtain ⟨e2, a2, w2, hq2, harr2⟩ := ih (μ y) (hn ▸ hlt) y a1 w1 rfl iy (ky.ok hgq hr1)
        exact ⟨e2, a2, w2, hq2, .of_steps (StepsIn.trans harr (.one (fenced_calm hb hrm rfl) stepR_inLoop)) harr2⟩
      | exit id => exact ⟨_, a1, w1, ⟨ts1, H1, hq, hr1⟩, .pass (x := .inLoop body) rfl (fun _ _ => .inl (by simp)) harr⟩
      | goto l => exact ⟨_, a1, w1, ⟨ts1, H1, hq, hr1⟩, .pass (x := .inLoop body) rfl (fun _ _ => .inl (by simp)) harr⟩
      | ret => exact ⟨_, a1, w1, ⟨ts1, H1, hq, hr1⟩, .pass (x := .inLoop body) rfl (fun _ _ => .inl (by simp)) harr⟩
      | panic ch => exact ⟨_, a1, w1, ⟨ts1, H1, hq, hr1⟩, .pass (x := .inLoop body) rfl (fun _ _ => .inl (by simp)) harr⟩
      | outgrown => exact ⟨_, a1, w1, ⟨ts1, H1, hq, hr1⟩, .pass (x := .inLoop body) rfl (fun _ _ => .inl (by simp)) harr⟩
  obtain ⟨e, a', w', hq, harr⟩ := key _ x0 a w rfl i0 hr0
  exact ⟨e, a', w', hq, .of_steps (.one (fenced_calm hb hrm rfl) stepR_loop) harr⟩

/-! ### functions -/
def resT1 (C : Ctx) (g : Mem) (ts : Sl) : ResultVar → Option T
  | .tmp t => some (tget ts t)
  | .cell a t => match tget ts a with
    | .op k b st i e => match g.alive k with
      | true => loadT C.P g t (.op k b st i e)
      | false => none
    | x => match x with
      | .fp .. => loadT C.P g t x
      | .sp .. => loadT C.P g t x
      | _ => none
def resTs (C : Ctx) (g : Mem) (ts : Sl) : List ResultVar → Option (List T)
  | [] => some []
  | r :: l => match resT1 C g ts r, resTs C g ts l with
    | some t, some u => some (t :: u)
    | _, _ => none
def resT (C : Ctx) (g : Mem) (ts : Sl) (l : List ResultVar) : Option T := match resTs C g ts l with
  | some [t] => some t
  | some ts => some (.tup ts)
  | none => none

theorem resT1_ok {ts : Sl} {H : Hp} {w : World} {m : Nat → Option Nat} {a : Act} (h : HR w0 w O m H.get) (ht : AT w (Im m H.get) m (lens H.get) ts a) {r : ResultVar} {t : T} (hr : resT1 C H.get ts r = some t) :
    ∃ v, (match r with
    | .tmp t => pure (a.tmps.getD t undef)
    | .cell b t => do loadVar t (← asAddr (a.tmps.getD b undef)) : Sem Value).run C.P w = .ok v w ∧ TV w (Im m H.get) m (lens H.get) t v := by
  have get : ∀ i, TV w (Im m H.get) m (lens H.get) (tget ts i) (a.tmps.getD i undef) := ht
  cases r with
  | tmp i => cases hr; exact ⟨_, rfl, get i⟩
  | cell b ty =>
    simp only [resT1] at hr
    have hb := get b
    have fin : ∀ {x : T} {p : Addr}, tget ts b = x → a.tmps.getD b undef = .pointer (some p) → loadT C.P H.get ty x = some t → ∃ v, (do loadVar ty (← asAddr (a.tmps.getD b undef)) : Sem Value).run C.P w = .ok v w ∧ TV w (Im m H.get) m (lens H.get) t v := by
      intro x p e1 e2 e3
      rw [e1] at hb
      obtain ⟨v, g1, g2⟩ := loadT_ok (P := C.P) h e3 hb
      refine ⟨v, ?_, g2⟩
      rw [e2] at g1 ⊢
      simpa [Instr.loadAt, Instr.sureAddr, asAddr] using g1
    split at hr
    · rename_i k b' st i e he
      split at hr
      · rename_i hal
        obtain ⟨l, hl⟩ := alive_lens hal
        have hb' := hb
        rw [he] at hb'
        obtain ⟨_, bb, _, hv⟩ := hb'.op_inv hl
        exact fin he hv hr
      · cases hr
    · rename_i x hx
      split at hr
      · rename_i ks xs b0 st i e he
        have hb' := hb
        rw [he] at hb'
        obtain ⟨bb, off, hv, _⟩ := hb'.fp_inv
        exact fin rfl hv hr
      · rename_i cs i he
        have hb' := hb
        rw [he] at hb'
        obtain ⟨bb, off, vs, hv, _⟩ := hb'.sp_inv
        exact fin rfl hv hr
      · cases hr
theorem results_ok {fn : Func} {ts : Sl} {H : Hp} {w : World} {m : Nat → Option Nat} {a : Act} (h : HR w0 w O m H.get) (ht : AT w (Im m H.get) m (lens H.get) ts a) {t : T} (hr : resT C H.get ts fn.results.toList = some t) :
    ∃ v, (results fn a.tmps).run C.P w = .ok v w ∧ TV w (Im m H.get) m (lens H.get) t v := by
  let f : ResultVar → Sem Value := fun
    | .tmp t => pure (a.tmps.getD t undef)
    | .cell b t => do loadVar t (← asAddr (a.tmps.getD b undef))
  have key : ∀ (l : List ResultVar) (us : List T), resTs C H.get ts l = some us → ∃ vs, (l.mapM f).run C.P w = .ok vs w ∧ TVs w (Im m H.get) m (lens H.get) us vs := by
    intro l
    induction l with
    | nil => intro us hu; cases hu; exact ⟨[], rfl, .nil⟩
    | cons r l ih =>
      intro us hu
      simp only [resTs] at hu
      split at hu
      · rename_i t1 u1 e1 e2
        cases hu
        obtain ⟨v, g1, g2⟩ := resT1_ok h ht e1
        obtain ⟨vs, g3, g4⟩ := ih _ e2
        refine ⟨v :: vs, ?_, .cons g2 g4⟩
        rw [List.mapM_cons]
        have g1' : (f r).run C.P w = .ok v w := by cases r <;> exact g1
        simp only [Sem.run_bind, g1', Result.andThen_ok, g3, Sem.run_pure]
      · cases hu
  unfold resT at hr
  have main : ∀ us vs, resTs C H.get ts fn.results.toList = some us → (fn.results.toList.mapM f).run C.P w = .ok vs w →
      (results fn a.tmps).run C.P w = .ok (match vs with | [v] => v | vs => .tuple vs.toArray) w := by
    intro us vs _ hv
    unfold results
    have hv' : ∀ g : ResultVar → Sem Value, (∀ x, g x = f x) → (fn.results.toList.mapM g).run C.P w = .ok vs w := fun g hg => by rw [funext hg]; exact hv
    rw [Sem.run_bind, Array.mapM_eq_mapM_toList, Sem.run_map, hv' _ (fun x => by cases x <;> rfl)]
    simp only [Result.andThen_ok]
    match vs with
    | [] => rfl
    | [v] => rfl
    | _ :: _ :: _ => rfl
  split at hr
  · rename_i t1 e
    cases hr
    obtain ⟨vs, g1, g2⟩ := key _ _ e
    have := main _ _ e g1
    cases g2 with
    | cons q1 q2 => cases q2; exact ⟨_, this, q1⟩
  · rename_i us hne e
    cases hr
    obtain ⟨vs, g1, g2⟩ := key _ _ e
    have := main _ _ e g1
    refine ⟨.tuple vs.toArray, ?_, .tup g2⟩
    rw [this]
    match vs, g2 with
    | [], _ => rfl
    | [v], g2 => cases g2 with | cons q1 q2 => cases q2; exact absurd rfl (hne _)
    | _ :: _ :: _, _ => rfl
  · cases hr

/-- What a function's end is to leave. -/
def retK (C : Ctx) (fn : Func) (R : T → Hp → Prop) : Exit → Sl → Hp → Prop
  | .normal, ts, H => match resT C H.get ts fn.results.toList with
    | some t => R t H
    | none => False
  | .ret, ts, H => match resT C H.get ts fn.results.toList with
    | some t => R t H
    | none => False
  | _, _, _ => False
def slots : Nat → List T → Sl
  | _, [] => []
  | i, t :: r => (i, t) :: slots (i + 1) r
theorem slots_ok {w : World} {I m L} {args : List T} {vs : List Value} (h : TVs w I m L args vs) (a : Act) (i : Nat) (hv : ∀ j v, vs[j]? = some v → a.tmps.getD (i + j) undef = v) : AT w I m L (slots i args) a := by
  induction args generalizing vs i with
  | nil => intro k; exact .dead
  | cons t r ih =>
    cases h with
    | cons h hr =>
      rename_i v vs
      intro k
      simp only [slots, tget]
      cases e : Nat.beq i k
      · exact ih hr (i + 1) (fun j u hj => by have := hv (j + 1) u (by simpa using hj); rwa [show i + 1 + j = i + (j + 1) by omega]) k
      · have := Nat.eq_of_beq_eq_true e; subst this
        have := hv 0 v rfl
        rw [Nat.add_zero] at this; rw [this]; exact h
/-! ### what loops over functions lay, turned -/
theorem cell_odd {w : World} {l : Nat} {ob : Obj} (hl : w.heap[l]? = some ob) (ho : isOdd ob = true) (o : Nat) : w.cell? ⟨l, o, none⟩ = none := by
  unfold World.cell?
  simp only [hl]
  cases ob <;> first | rfl | cases ho
theorem Goes0.put {w : World} {l : Nat} {ob ob' : Obj} (hl : w.heap[l]? = some ob) (h1 : isOdd ob = true) (h2 : isOdd ob' = true) {I : Nat → Prop} {m : Nat → Option Nat} {L : Nat → Option (Option Nat)} : Goes0 w (w.putObj l ob') I I m m L L := by
  have hlt : l < w.heap.size := (Array.getElem?_eq_some_iff.1 hl).1
  refine ⟨fun _ _ h => h, by simp, fun b o hb _ => ?_, fun k s hs => ?_, fun b n hr => ?_⟩
  · by_cases e : b = l
    · subst e; rw [cell_odd hl h1, cell_odd (World.putObj_heap_same hlt) h2]
    · exact World.cell?_of_block (w := w) (World.putObj_heap_other e)
  · cases s with
    | none => exact .inl hs
    | some l => exact .inr ⟨l, rfl, hs, rfl⟩
  · have : b ≠ l := fun e => by
      subst e; rw [hr.not_odd hl] at h1; cases h1
    obtain ⟨c, h3, h4⟩ := hr
    exact ⟨c, (World.putObj_heap_other this).trans h3, h4⟩
theorem HR.put {w : World} {m : Nat → Option Nat} {g : Mem} (h : HR w0 w O m g) {l : Nat} {ob ob' : Obj} (hl : w.heap[l]? = some ob) (h1 : isOdd ob = true) (h2 : isOdd ob' = true) (hlo' : w0.heap.size ≤ l)
    (hv : ∀ k b, g k = some b → GV O w (Im m g) m (lens g) b → GV O (w.putObj l ob') (Im m g) m (lens g) b) : HR w0 (w.putObj l ob') O m g := by
  have G := Goes0.put hl h1 h2 (I := Im m g) (m := m) (L := lens g)
  refine ⟨⟨h.fr.os, h.fr.tape, h.fr.output, by simpa using h.fr.size, fun b hb ho => (World.putObj_heap_other (by omega)).trans (h.fr.block b hb ho)⟩, by simpa using h.lo, fun k b hk => ?_, h.inj, h.new⟩
  have hb := h.blk k b hk
  have fin : ∀ q, BVb O w (Im m g) m (lens g) b q → BVb O (w.putObj l ob') (Im m g) m (lens g) b q := by
    intro q hq
    have hne : ∀ n, Room w q n → q ≠ l := fun n hr e => by
      subst e; rw [hr.not_odd hl] at h1; cases h1
    have fz : q ≠ l → NoFrz w q → NoFrz (w.putObj l ob') q := fun hne hf o => (World.frozen?_of_block (w := w) (World.putObj_heap_other hne)).trans (hf o)
    have cl : q ≠ l → ∀ o, (w.putObj l ob').cell? ⟨q, o, none⟩ = w.cell? ⟨q, o, none⟩ := fun hne o => World.cell?_of_block (w := w) (World.putObj_heap_other hne)
    cases b with
    | mp kk vk es => obtain ⟨ms, c, a1, a2⟩ := hq; exact ⟨ms, c, (World.putObj_heap_other (fun e => by subst e; rw [hl] at a1; cases a1; cases h1)).trans a1, a2⟩
    | fl ks xs => obtain ⟨a1, a2, a3, a4⟩ := hq; have hne := hne _ a2; exact ⟨a1, G.room _ _ a2, fz hne a3, fun i x hx => (cl hne _).trans (a4 i x hx)⟩
    | cs cs => obtain ⟨vs, a1, a2, a3, a4⟩ := hq; have hne := hne _ a2; exact ⟨vs, a1.goes0 G, G.room _ _ a2, fz hne a3, fun i x hx => (cl hne _).trans (a4 i x hx)⟩
    | gone => trivial
    | gh id ts => exact hv k _ hk hq
    | lp id l st pe n ts ps asg body => exact hv k _ hk hq
  cases e : m k with
  | some q => rw [e] at hb; exact fin q hb
  | none =>
    rw [e] at hb
    cases b with
    | mp kk vk es => trivial
    | fl ks xs => exact hb
    | cs cs => exact hb
    | gone => trivial
    | gh id ts => exact hv k _ hk hb
    | lp id l st pe n ts ps asg body => exact hv k _ hk hb
theorem AT.put0 {w : World} {I : Nat → Prop} {m : Nat → Option Nat} {L : Nat → Option (Option Nat)} {w' : World} (G : Goes0 w w' I I m m L L) {ts : Sl} {a : Act} (h : AT w I m L ts a) : AT w' I m L ts a := fun i => (h i).goes0 G
theorem GlOk.put0 {w : World} {I : Nat → Prop} {m : Nat → Option Nat} {L : Nat → Option (Option Nat)} {w' : World} (G : Goes0 w w' I I m m L L) (h : GlOk C w I m L) : GlOk C w' I m L := fun i => (h i).goes0 G
theorem Mk.put {w : World} {l : Nat} {ob' : Obj} {ds : List Deferred} (hl : ∀ d ∈ ds, d ≠ { target := .collected l, args := #[] }) (h : Mk w ds) : Mk (w.putObj l ob') ds := by
  induction ds with
  | nil => trivial
  | cons d ds ih =>
    obtain ⟨⟨D, h1, h3, h4⟩, h5⟩ := h
    have : D ≠ l := fun e => hl d (List.mem_cons_self ..) (by rw [h1, e])
    exact ⟨⟨D, h1, (World.putObj_heap_other this).trans h3, h4⟩, ih (fun d hd => hl d (List.mem_cons_of_mem _ hd)) h5⟩
/-- A frame goes out past its marks. -/
theorem leave_ok {fn : Func} {tmps : Array Value} {R : Ending → World → Prop} {m : Nat → Option Nat} {g : Mem} {ts : Sl} {a : Act} (ht : a.tmps = tmps) : ∀ (ds : List Deferred) (w : World), HR w0 w O m g → AT w (Im m g) m (lens g) ts a → GlOk C w (Im m g) m (lens g) → Mk w ds → Lo O.lo ds →
    (∀ w', HR w0 w' O m g → AT w' (Im m g) m (lens g) ts a → GlOk C w' (Im m g) m (lens g) → ∃ v, (results fn tmps).run C.P w' = .ok v w' ∧ R (.returned v) w') → LeavesInM (FR none) 0 C.P fn tmps R ds .returning w := by
  intro ds
  induction ds with
  | nil => intro w h1 h2 h3 _ _ hR; exact hR w h1 h2 h3
  | cons d ds ih =>
    intro w h1 h2 h3 hm hlo hR
    obtain ⟨⟨D, rfl, hD, hne⟩, hm2⟩ := hm
    have hDlo : O.lo ≤ D := hlo _ (List.mem_cons_self ..) D rfl
    have G : Goes0 w (w.putObj D (.deferred none)) (Im m g) (Im m g) m m (lens g) (lens g) := Goes0.put hD rfl rfl
    have far : ∀ id, ∀ d ∈ (O.gh id).defers, d ≠ { target := .collected D, args := #[] } := fun id d hd e => by
      have := O.hi id d D hd (by rw [e]); omega
    refine ⟨(by intro e; cases e), .inl ⟨D, _, rfl, run_takeDeferred hD, ih _ (h1.put hD rfl rfl (Nat.le_trans (Nat.le_trans h1.lo.1 h1.lo.2.1) hDlo) (fun k b _ hb => ?_)) (h2.put0 G) (h3.put0 G) (hm2.put (fun e he => hne e he)) (fun e he => hlo e (List.mem_cons_of_mem _ he)) hR⟩⟩
    cases b with
    | mp kk vk es => trivial
    | fl ks xs => trivial
    | cs cs => trivial
    | gone => trivial
    | gh id ts => exact ⟨fun i => (hb.1 i).goes0 G, hb.2.put (far id)⟩
    | lp id l st pe n ts ps asg body =>
      obtain ⟨b1, b2, f, D', b3⟩ := hb
      refine ⟨⟨fun i => (b1.1 i).goes0 G, b1.2.put (far id)⟩, b2, f, D', (World.putObj_heap_other (fun e => ?_)).trans b3⟩
      subst e; rw [hD] at b3; cases b3

/-- A function, by the walk of its code. -/
theorem calls_ok {f : FuncId} {fn : Func} {c : Code} (hf : C.P.funcs[f]? = some fn) (hb : fn.body = some c) {args : List T} {vs : Array Value} {H : Hp} {w : World} {m : Nat → Option Nat}
    (h : HR w0 w O m H.get) (ha : TVs w (Im m H.get) m (lens H.get) args vs.toList) (hg : GlOk C w (Im m H.get) m (lens H.get)) {R : T → Hp → Prop}
    (hn : args.length ≤ fn.ntmps) (hw : TW C fn.ntmps false c (slots 0 args) H (retK C fn R)) :
    Calls C.P f vs w fun e w' => ∃ v t H' m', e = .returned v ∧ R t H' ∧ HR w0 w' O m' H'.get ∧ GlOk C w' (Im m' H'.get) m' (lens H'.get) ∧ TV w' (Im m' H'.get) m' (lens H'.get) t v := by
  have hl := ha.length
  refine (callsIn_FR (ro := none) (n := 0)).1 (callsIn_of_wp_marks hf hb trivial (wpIn_mono (hw.out none (fun _ => rfl) w0 O _ w ⟨m, h, slots_ok ha _ 0 ?_, hg, ⟨trivial, fun d hd => by cases hd⟩, ?_⟩) ?_))
  · intro j v hj
    have hlt : j < vs.size := by have := (List.getElem?_eq_some_iff.1 hj).1; simpa using this
    rw [Nat.zero_add, Array.getD_eq_getD_getElem?, Array.getElem?_append_left hlt]
    rw [Array.getElem?_toList] at hj
    rw [hj]; rfl
  · rw [Array.size_append, Array.size_replicate]
    have hl2 : args.length = vs.size := by rw [hl, Array.length_toList]
    omega
  · rintro e a' w' ⟨ts', H', hK, m', g1, g2, g3, ⟨g4, g6⟩, _⟩
    have fin : (match resT C H'.get ts' fn.results.toList with | some t => R t H' | none => False) → LeavesInM (FR none) 0 C.P fn a'.tmps (fun e w' => ∃ v t H' m', e = .returned v ∧ R t H' ∧ HR w0 w' O m' H'.get ∧ GlOk C w' (Im m' H'.get) m' (lens H'.get) ∧ TV w' (Im m' H'.get) m' (lens H'.get) t v) a'.defers .returning w' := by
      intro hq
      split at hq
      · rename_i t e
        refine leave_ok rfl _ _ g1 g2 g3 g4 g6 (fun w2 k1 k2 k3 => ?_)
        obtain ⟨v, q1, q2⟩ := results_ok k1 k2 e
        exact ⟨v, q1, v, t, H', m', rfl, hq, k1, k3, q2⟩
      · exact hq.elim
    cases e with
    | normal => exact fin hK
    | ret => exact fin hK
    | exit id => exact hK.elim
    | goto l => exact hK.elim
    | panic ch => exact hK.elim
    | outgrown => exact hK.elim
end
end Go.Proofs.YtnplgklnkcjmnaaGreatDoor.Am
namespace Go.Proofs.YtnplgklnkcjmnaaGreatDoor.Am
set_option linter.unusedVariables false
set_option linter.unusedSimpArgs false
open Go.RowKit

/-- What an operation has left: its slot, its value, what became of blocks; on which blocks it hangs (none: on all), at which slots it looks. -/
structure Rec where
  d : Option Tmp
  t : T
  up : List (Nat × Blk)
  dep : Option (List Nat)
  look : List Nat
mutual
def keysT : T → List Nat
  | .os k _ _ _ => [k]
  | .ow k _ _ => [k]
  | .op k _ _ _ _ => [k]
  | .mp k => [k]
  | .sl _ _ cs => keysTs cs
  | .sp cs _ => keysTs cs
  | .agg cs => keysTs cs
  | .tup cs => keysTs cs
  | .ifc _ x => keysT x
  | .fn _ a c => keysTs a ++ keysTs c
  | _ => []
def keysTs : List T → List Nat
  | [] => []
  | t :: r => keysT t ++ keysTs r
end
def slotOf : Operand → List Nat
  | .tmp t => [t]
  | _ => []
def slotsOf : List Operand → List Nat
  | [] => []
  | x :: r => slotOf x ++ slotsOf r
def lookOf (ops : Array Oper) (o : Oper) : List Nat := slotsOf o.op.operands.toList ++ match o.guard with
  | some (j, _) => match dstOf ops j with
    | some d => [d]
    | none => []
  | none => []
def keysE (C : Ctx) (ts : Sl) : List Operand → List Nat
  | [] => []
  | x :: r => keysT (ev C ts x) ++ keysE C ts r
def isCall : Op → Bool
  | .call c => match c.callee with
    | .value _ => true
    | _ => false
  | _ => false
/-- All blocks that these lead to: of numbers, or of cells that lead to such. -/
def reachBL (F : List Nat → Option (List Nat)) (g : Mem) : List Nat → Option (List Nat)
  | [] => some []
  | q :: r => match g q with
    | some (.fl _ _) => match reachBL F g r with
      | some b => some (q :: b)
      | none => none
    | some (.cs cs) => match F (keysTs cs) with
      | some a => match reachBL F g r with
        | some b => some (q :: (a ++ b))
        | none => none
      | none => none
    | _ => none
def noKeys : List Nat → Option (List Nat)
  | [] => some []
  | _ => none
def reachB (g : Mem) : Nat → List Nat → Option (List Nat)
  | 0 => reachBL noKeys g
  | d + 1 => reachBL (reachB g d) g
/-- Two memories are the same at a block, and at those that it leads to. -/
def Agree (g g' : Mem) : Nat → Nat → Prop
  | 0, q => g q = g' q ∧ ((∃ ks xs, g' q = some (.fl ks xs)) ∨ ∃ cs, g' q = some (.cs cs) ∧ keysTs cs = [])
  | d + 1, q => g q = g' q ∧ ((∃ ks xs, g' q = some (.fl ks xs)) ∨ ∃ cs, g' q = some (.cs cs) ∧ ∀ r ∈ keysTs cs, Agree g g' d r)
theorem Agree.eq {g g' : Mem} {d q : Nat} (h : Agree g g' d q) : g q = g' q := by cases d <;> exact h.1
theorem Agree.cs {g g' : Mem} {d q : Nat} (h : Agree g g' d q) {cs : List T} (hc : g' q = some (.cs cs)) : ∃ d', ∀ r ∈ keysTs cs, Agree g g' d' r := by
  cases d with
  | zero =>
    rcases h.2 with ⟨ks, xs, e⟩ | ⟨cs', e, h2⟩
    · rw [e] at hc; cases hc
    · rw [e] at hc; cases hc; exact ⟨0, fun r hr => by rw [h2] at hr; cases hr⟩
  | succ d =>
    rcases h.2 with ⟨ks, xs, e⟩ | ⟨cs', e, h2⟩
    · rw [e] at hc; cases hc
    · rw [e] at hc; cases hc; exact ⟨d, h2⟩
theorem reachBL_ok {F : List Nat → Option (List Nat)} {g g' : Mem} {R : Nat → Prop} (hF : ∀ ks l, F ks = some l → (∀ q ∈ l, g q = g' q) → ∀ q ∈ ks, R q) : ∀ {ks l : List Nat}, reachBL F g' ks = some l → (∀ q ∈ l, g q = g' q) →
    ∀ q ∈ ks, q ∈ l ∧ g q = g' q ∧ ((∃ k xs, g' q = some (.fl k xs)) ∨ ∃ cs, g' q = some (.cs cs) ∧ ∀ r ∈ keysTs cs, R r)
  | [], l, h, hl, q, hq => by cases hq
  | a :: r, l, h, hl, q, hq => by
    simp only [reachBL] at h
    split at h
    · rename_i k xs e
      split at h
      · rename_i b hb
        cases h
        rcases List.mem_cons.1 hq with rfl | hq
        · exact ⟨List.mem_cons_self .., hl _ (List.mem_cons_self ..), .inl ⟨_, _, e⟩⟩
        · obtain ⟨h1, h2⟩ := reachBL_ok hF hb (fun q hq => hl q (List.mem_cons_of_mem _ hq)) q hq
          exact ⟨List.mem_cons_of_mem _ h1, h2⟩
      · cases h
    · rename_i cs e
      split at h
      · rename_i x hx
        split at h
        · rename_i b hb
          cases h
          rcases List.mem_cons.1 hq with rfl | hq
          · exact ⟨List.mem_cons_self .., hl _ (List.mem_cons_self ..), .inr ⟨_, e, hF _ _ hx (fun q hq => hl q (List.mem_cons_of_mem _ (List.mem_append.2 (.inl hq))))⟩⟩
          · obtain ⟨h1, h2⟩ := reachBL_ok hF hb (fun q hq => hl q (List.mem_cons_of_mem _ (List.mem_append.2 (.inr hq)))) q hq
            exact ⟨List.mem_cons_of_mem _ (List.mem_append.2 (.inr h1)), h2⟩
        · cases h
      · cases h
    · cases h
theorem reachB_ok {g g' : Mem} : ∀ (d : Nat) {ks l : List Nat}, reachB g' d ks = some l → (∀ q ∈ l, g q = g' q) → ∀ q ∈ ks, q ∈ l ∧ Agree g g' d q
  | 0, ks, l, h, hl, q, hq => by
    obtain ⟨h1, h2, h3⟩ := reachBL_ok (R := fun _ => False) (fun ks l hF _ q hq => by cases ks with | nil => cases hq | cons a r => cases hF) h hl q hq
    refine ⟨h1, h2, h3.imp id fun ⟨cs, e, hc⟩ => ⟨cs, e, ?_⟩⟩
    cases hk : keysTs cs with
    | nil => rfl
    | cons a r => exact (hc a (by rw [hk]; exact List.mem_cons_self ..)).elim
  | d + 1, ks, l, h, hl, q, hq => by
    obtain ⟨h1, h2, h3⟩ := reachBL_ok (R := Agree g g' d) (fun ks l hF hl q hq => (reachB_ok d hF hl q hq).2) h hl q hq
    exact ⟨h1, h2, h3⟩
theorem reachB_self {g : Mem} {d : Nat} {ks l : List Nat} (h : reachB g d ks = some l) {q : Nat} (hq : q ∈ ks) : q ∈ l := (reachB_ok (g := g) d h (fun _ _ => rfl) q hq).1
def depOf (C : Ctx) (g : Mem) (ts : Sl) (key : Nat) (op : Op) : Option (List Nat) := match keysE C ts op.operands.toList with
  | [] => some [key, key + 1, key + 2, key + 3]
  | ks => match isCall op with
    | true => match reachB g 2 ks with
      | some l => some (key :: (key + 1) :: (key + 2) :: (key + 3) :: l)
      | none => none
    | false => some (key :: (key + 1) :: (key + 2) :: (key + 3) :: ks)

def ancOne (acc : List Nat) : List Edge → Nat → Nat
  | [], s => s
  | e :: r, s => match Region.binds .any e with
    | true => ancOne acc r (s ||| 2 ^ e.on ||| acc.getD e.on 0)
    | false => ancOne acc r s
def ancs : List Oper → List Nat → List Nat
  | [], acc => acc
  | o :: r, acc => ancs r (acc ++ [ancOne acc o.after.toList 0])
def meets : List Nat → List Nat → Bool
  | [], _ => false
  | a :: r, l => memN l a || meets r l
def hasD : Option Tmp → List Nat → Bool
  | some d, l => memN l d
  | none, _ => false
def sameD : Option Tmp → Option Tmp → Bool
  | some d, some e => Nat.beq d e
  | _, _ => false
def upKeys : List (Nat × Blk) → List Nat
  | [] => []
  | (k, _) :: r => k :: upKeys r
def clash (r s : Rec) : Bool := hasD s.d r.look || hasD r.d s.look || (match r.dep, upKeys s.up with
  | _, [] => false
  | none, _ => true
  | some l, u => meets u l) || (match s.dep, upKeys r.up with
  | _, [] => false
  | none, _ => true
  | some l, u => meets u l) || meets (upKeys r.up) (upKeys s.up)
/-- An operation and those ahead of it: unlike slots; where they hang on each other, they wait. rs: the ones ahead, the last one first. -/
def chkOne (A : List Nat) (r : Rec) (i : Nat) : List Rec → Bool
  | [] => true
  | s :: rs => !sameD r.d s.d && (!clash r s || (A.getD i 0).testBit rs.length) && chkOne A r i rs
def chkAll (A : List Nat) : List Rec → Bool
  | [] => true
  | r :: rs => chkOne A r rs.length rs && chkAll A rs
/-- The same, by rows that are laid out ahead: no number is reckoned of what is not known. -/
def rowB (a : Nat) : Nat → List Bool
  | 0 => []
  | n + 1 => a.testBit n :: rowB a n
def rowsB (A : List Nat) : Nat → List (List Bool)
  | 0 => []
  | n + 1 => rowB (A.getD n 0) n :: rowsB A n
def chkOneB (r : Rec) : List Bool → List Rec → Bool
  | b :: l, s :: rs => !sameD r.d s.d && (!clash r s || b) && chkOneB r l rs
  | _, [] => true
  | [], _ => false
def chkAllB : List (List Bool) → List Rec → Bool
  | l :: ls, r :: rs => chkOneB r l rs && chkAllB ls rs
  | _, [] => true
  | [], _ => false
theorem chkOneB_ok {A : List Nat} {r : Rec} {i : Nat} : ∀ {rs : List Rec}, chkOneB r (rowB (A.getD i 0) rs.length) rs = true → chkOne A r i rs = true := by
  intro rs
  induction rs with
  | nil => intro _; rfl
  | cons s rs ih =>
    intro h
    simp only [List.length_cons, rowB, chkOneB, Bool.and_eq_true] at h
    simp only [chkOne, Bool.and_eq_true]
    exact ⟨h.1, ih h.2⟩
theorem chkAllB_ok {A : List Nat} : ∀ {rs : List Rec}, chkAllB (rowsB A rs.length) rs = true → chkAll A rs = true := by
  intro rs
  induction rs with
  | nil => intro _; rfl
  | cons r rs ih =>
    intro h
    simp only [List.length_cons, rowsB, chkAllB, Bool.and_eq_true] at h
    simp only [chkAll, Bool.and_eq_true]
    exact ⟨chkOneB_ok h.1, ih h.2⟩
def edgesOk : Nat → List Oper → Bool
  | _, [] => true
  | i, o :: r => o.after.toList.all (fun e => !Region.binds .any e || Nat.blt e.on i) && edgesOk (i + 1) r

/-- What stands for the operations ahead of a call that all others wait for. -/
def dm : Rec := ⟨none, .tup [], [], some [], []⟩
def dms : Nat → List Rec
  | 0 => []
  | n + 1 => dm :: dms n
def allT : List Bool → Bool
  | [] => true
  | b :: r => b && allT r
/-- From i + 1 on: does each wait for i? -/
def waitsB (A : List Nat) (i : Nat) : Nat → Bool
  | 0 => true
  | k + 1 => (A.getD (i + 1 + k) 0).testBit i && waitsB A i k
/-- Does an operation wait for all ahead of it, and all behind it for it? -/
def cutB (A : List Nat) (i N : Nat) : Bool := allT (rowB (A.getD i 0) i) && waitsB A i (N - i - 1)

/-- The walk of such a row in the text's order; what each operation left is noted. q: how many are behind. -/
def dgoB (C : Ctx) (X : Caller) (n base : Nat) (ops : Array Oper) (o : Oper) (q : Nat) (rc : Sl → Hp → List Rec → Prop) (ts : Sl) (H : Hp) (rs : List Rec) : Prop :=
    let ex (ts : Sl) : Prop := match stepO C H.get ts (keyOf base o.dst) o.op with
      | some ot => andO ot.c (fT ot.t fun t => fP n ts o.dst t fun ts' => fU ot.up [] fun up => fU ot.up H fun H' => rc ts' H' (⟨o.dst, t, up, depOf C H.get ts (keyOf base o.dst) o.op, lookOf ops o⟩ :: rs))
      | none => match o.op with
        | .call c => match c.callee with
          | .value f => match chkAllB (rowsB (ancs ops.toList []) (ops.size - q - 1)) rs && (edgesOk 0 ops.toList && cutB (ancs ops.toList []) (ops.size - q - 1) ops.size) with
            | true => X (ev C ts f) (evL C ts c.args.toList) (keyOf base o.dst) ts H (fun t ts H => fP n ts o.dst t fun ts => rc ts H (dms (ops.size - q)))
            | false => False
          | _ => False
        | _ => False
    let sk (ts : Sl) : Prop := fP n ts o.dst (.tup []) fun ts' => rc ts' H (⟨o.dst, .tup [], [], some [], lookOf ops o⟩ :: rs)
    match o.guard with
      | none => ex ts
      | some (j, want) => match dstOf ops j with
        | none => False
        | some d => match tget ts d with
          | .v (.bool x) => ifB x
              (match want with
                | true => ex ((d, .v (.bool true)) :: ts)
                | false => sk ((d, .v (.bool true)) :: ts))
              (match want with
                | false => ex ((d, .v (.bool false)) :: ts)
                | true => sk ((d, .v (.bool false)) :: ts))
          | .tup _ => sk ts
          | _ => False
def lenO : List Oper → Nat
  | [] => 0
  | _ :: r => lenO r + 1
theorem lenO_eq (l : List Oper) : lenO l = l.length := by
  induction l with
  | nil => rfl
  | cons a l ih => simp only [lenO, ih, List.length_cons]
noncomputable def dgo (C : Ctx) (X : Caller) (n base : Nat) (ops : Array Oper) (F : Sl → Hp → List Rec → Prop) (l : List Oper) : Sl → Hp → List Rec → Prop :=
  @List.rec Oper (fun _ => Sl → Hp → List Rec → Prop) (fun ts H rs => F ts H rs) (fun o r rc => dgoB C X n base ops o (lenO r) rc) l
theorem dgo_cons {C : Ctx} {X : Caller} {n base : Nat} {ops : Array Oper} {F : Sl → Hp → List Rec → Prop} {o : Oper} {r : List Oper} {ts : Sl} {H : Hp} {rs : List Rec} : dgo C X n base ops F (o :: r) ts H rs = dgoB C X n base ops o (lenO r) (dgo C X n base ops F r) ts H rs := rfl
def dfin (ops : Array Oper) (K : Sl → Hp → Prop) (ts : Sl) (H : Hp) (rs : List Rec) : Prop := match chkAllB (rowsB (ancs ops.toList []) ops.size) rs && edgesOk 0 ops.toList with
  | true => K ts H
  | false => False
end Go.Proofs.YtnplgklnkcjmnaaGreatDoor.Am
namespace Go.Proofs.YtnplgklnkcjmnaaGreatDoor.Am
set_option linter.unusedVariables false
set_option linter.unusedSimpArgs false
open Go.RowKit

/-- What is told of a call hangs on the blocks alone that its values lead to. -/
def Ctx.loc (C : Ctx) : Prop := ∀ key f args g g', (∀ q ∈ keysTs args, Agree g g' 2 q) → C.spec key f args g = C.spec key f args g'

section
variable {C : Ctx} {g g' : Mem} {ts ts' : Sl}
theorem evL_congr {l : List Operand} (h : ∀ x ∈ l, ev C ts x = ev C ts' x) : evL C ts l = evL C ts' l := by
  induction l with
  | nil => rfl
  | cons x l ih => simp only [evL]; rw [h x (List.mem_cons_self ..), ih (fun y hy => h y (List.mem_cons_of_mem _ hy))]
theorem evP_congr {l : List (Nat × Operand)} (h : ∀ x ∈ l.map (·.2), ev C ts x = ev C ts' x) : evP C ts l = evP C ts' l := by
  induction l with
  | nil => rfl
  | cons p l ih => obtain ⟨i, x⟩ := p; simp only [evP]; rw [h x (by simp), ih (fun y hy => h y (by simp at hy ⊢; exact .inr hy))]
theorem evO_congr {l : Option Operand} (h : ∀ x ∈ l.toList, ev C ts x = ev C ts' x) : evO C ts l = evO C ts' l := by
  cases l with
  | none => rfl
  | some x => simp only [evO]; rw [h x (by simp)]

theorem step_congr {key : Nat} {op : Op} (h : ∀ x ∈ op.operands.toList, ev C ts x = ev C ts' x) : stepO C g ts key op = stepO C g ts' key op := by
  cases op
  case call c =>
    simp only [stepO, callT]
    have ha : ∀ x ∈ c.args.toList, ev C ts x = ev C ts' x := fun x hx => h x (by simp [Op.operands, Call.operands] at hx ⊢; exact .inr hx)
    split
    · rename_i e _; rw [ha _ (by rw [e]; simp)]
    · rename_i e _; rw [ha _ (by rw [e]; simp), ha _ (by rw [e]; simp)]
    · rename_i e _; rw [ha _ (by rw [e]; simp), ha _ (by rw [e]; simp)]
    · rename_i e; rw [ha _ (by rw [e]; simp), ha _ (by rw [e]; simp)]
    · rename_i e; rw [ha _ (by rw [e]; simp), ha _ (by rw [e]; simp)]
    · rename_i f e
      rw [h f (by simp [Op.operands, Call.operands, e]), evL_congr ha]
    · rfl
  case build t ps =>
    simp only [stepO]; rw [evP_congr (ts' := ts') (fun x hx => h x (by simpa [Op.operands] using hx))]
  case buildSlice t n ps =>
    simp only [stepO]; rw [evP_congr (ts' := ts') (fun x hx => h x (by simpa [Op.operands] using hx))]
  case slice t x lo hi mx =>
    cases mx with
    | some m =>
      simp only [stepO]
      rw [h x (by simp [Op.operands]), h m (by simp [Op.operands]), evO_congr (l := lo) (ts' := ts') (fun y hy => h y (by simp [Op.operands] at hy ⊢; exact .inr (.inl hy))), evO_congr (l := hi) (ts' := ts') (fun y hy => h y (by simp [Op.operands] at hy ⊢; exact .inr (.inr (.inl hy))))]
    | none =>
      simp only [stepO]
      rw [h x (by simp [Op.operands]), evO_congr (l := lo) (ts' := ts') (fun y hy => h y (by simp [Op.operands] at hy ⊢; exact .inr (.inl hy))), evO_congr (l := hi) (ts' := ts') (fun y hy => h y (by simp [Op.operands] at hy ⊢; exact .inr (.inr hy)))]
  case makeFunc fn a c =>
    simp only [stepO]
    rw [evL_congr (ts' := ts') (fun x hx => h x (by simp [Op.operands] at hx ⊢; exact .inl hx)), evL_congr (ts' := ts') (l := c.toList) (fun x hx => h x (by simp [Op.operands] at hx ⊢; exact .inr hx))]
  case makeMap t r =>
    simp only [stepO]
    rw [evO_congr (l := r) (ts' := ts') (fun y hy => h y (by simpa [Op.operands] using hy))]
  all_goals first
    | rfl
    | (simp only [Op.operands, List.mem_cons, List.not_mem_nil, or_false, forall_eq_or_imp, forall_eq] at h
       simp only [stepO]
       first | rw [h] | rw [h.1, h.2] | rw [h.1, h.2.1, h.2.2])

theorem alive_congr {k : Nat} (h : g k = g' k) : g.alive k = g'.alive k := by unfold Mem.alive; rw [h]
theorem isNew_congr {k : Nat} (h : g k = g' k) : isNew g k = isNew g' k := by unfold isNew; rw [h]
theorem low_keys (x : T) : keysT x.low = keysT x := by cases x <;> rfl

theorem nilT_congr {x : T} (h : ∀ q ∈ keysT x, g q = g' q) : nilT g x = nilT g' x := by
  unfold nilT; split <;> first | rfl | (simp only [alive_congr (h _ (List.mem_singleton.2 rfl))]) | (simp only [h _ (List.mem_singleton.2 rfl)])
theorem loadT_congr {P : Program} {t : TypeId} {x : T} (h : ∀ q ∈ keysT x, g q = g' q) : loadT P g t x = loadT P g' t x := by
  unfold loadT; split
  · rfl
  · rfl
  · simp only [h _ (List.mem_singleton.2 rfl)]
  · rfl
theorem storeT_congr {P : Program} {t : TypeId} {a x : T} (h : ∀ q ∈ keysT a, g q = g' q) : storeT P g t a x = storeT P g' t a x := by
  unfold storeT; split
  · simp only [h _ (List.mem_singleton.2 rfl)]
  · rfl
theorem fieldAddrT_congr {P : Program} {t : TypeId} {x : T} {f : Nat} (h : ∀ q ∈ keysT x, g q = g' q) : fieldAddrT P g t x f = fieldAddrT P g' t x f := by
  unfold fieldAddrT; split
  · split
    · split
      · split <;> first | rfl | (simp only [alive_congr (h _ (List.mem_singleton.2 rfl))]) | (simp only [h _ (List.mem_singleton.2 rfl)])
      · rfl
    · rfl
  · rfl
theorem indexAddrT_congr {P : Program} {t : TypeId} {x i : T} {lit : Bool} (h : ∀ q ∈ keysT x, g q = g' q) : indexAddrT P g t x i lit = indexAddrT P g' t x i lit := by
  unfold indexAddrT; split <;> first | rfl | (simp only [alive_congr (h _ (List.mem_singleton.2 rfl))]) | (simp only [h _ (List.mem_singleton.2 rfl)])
theorem sliceT_congr {P : Program} {t : TypeId} {x : T} {lo hi : Option T} (h : ∀ q ∈ keysT x, g q = g' q) : sliceT P g t x lo hi = sliceT P g' t x lo hi := by
  unfold sliceT; split
  · split
    · split
      · split <;> first | rfl | (simp only [alive_congr (h _ (List.mem_singleton.2 rfl))]) | (simp only [h _ (List.mem_singleton.2 rfl)])
      · rfl
    · split
      · split <;> first | rfl | (simp only [alive_congr (h _ (List.mem_singleton.2 rfl))]) | (simp only [h _ (List.mem_singleton.2 rfl)])
      · rfl
    · rfl
  · rfl
theorem lenT_congr {P : Program} {t : TypeId} {x : T} (h : ∀ q ∈ keysT x, g q = g' q) : lenT P g t x = lenT P g' t x := by
  unfold lenT; split <;> first | rfl | (simp only [alive_congr (h _ (List.mem_singleton.2 rfl))]) | (simp only [h _ (List.mem_singleton.2 rfl)])
theorem mapUpdT_congr {P : Program} {t : TypeId} {x k v : T} (h : ∀ q ∈ keysT x, g q = g' q) : mapUpdT P g t x k v = mapUpdT P g' t x k v := by
  unfold mapUpdT; split <;> first | rfl | (simp only [h _ (List.mem_singleton.2 rfl)])
theorem lookT_congr {P : Program} {t : TypeId} {x k : T} {ok : Bool} (h : ∀ q ∈ keysT x, g q = g' q) : lookT P g t x k ok = lookT P g' t x k ok := by
  unfold lookT; split <;> first | rfl | (simp only [h _ (List.mem_singleton.2 rfl)])
theorem contT_congr {sz : Nat} {x : T} (h : ∀ q ∈ keysT x, g q = g' q) : contT g sz x = contT g' sz x := by
  unfold contT; split <;> first | rfl | (simp only [alive_congr (h _ (List.mem_singleton.2 rfl))]) | (simp only [h _ (List.mem_singleton.2 rfl)])
theorem appendT_congr {P : Program} {key : Nat} {t t2 : TypeId} {s x : T} (hs : ∀ q ∈ keysT s, g q = g' q) (h : ∀ q ∈ keysT x, g q = g' q) : appendT P g key t t2 s x = appendT P g' key t t2 s x := by
  have h1 : ∀ sz, contT g sz x = contT g' sz x := fun sz => contT_congr h
  have h2 : ∀ sz k s1 n, s = .ow k s1 n → contT g sz (.ow k s1 n) = contT g' sz (.ow k s1 n) := fun sz k s1 n e => contT_congr (by subst e; exact hs)
  have h3 : ∀ sz k s1 n, s = .os k s1 0 n → contT g sz (.os k s1 0 n) = contT g' sz (.os k s1 0 n) := fun sz k s1 n e => contT_congr (by subst e; exact hs)
  unfold appendT
  simp only [h1]
  split
  · split
    · split
      · split
        · split
          · split
            · rfl
            · simp only [h2 _ _ _ _ rfl]
            · simp only [h3 _ _ _ _ rfl]
            · rfl
          · rfl
        · rfl
      · rfl
    · rfl
  · rfl

theorem keysE_mem {l : List Operand} {x : Operand} (h : x ∈ l) {q : Nat} (hq : q ∈ keysT (ev C ts x)) : q ∈ keysE C ts l := by
  induction l with
  | nil => simp at h
  | cons y l ih =>
    simp only [keysE]
    rcases List.mem_cons.1 h with rfl | h
    · exact List.mem_append.2 (.inl hq)
    · exact List.mem_append.2 (.inr (ih h))
theorem keysTs_append (a b : List T) : keysTs (a ++ b) = keysTs a ++ keysTs b := by
  induction a with
  | nil => rfl
  | cons t a ih => simp only [List.cons_append, keysTs, ih, List.append_assoc]

theorem copyT_congr {P : Program} {t : TypeId} {s x : T} (hs : ∀ q ∈ keysT s, g q = g' q) (hx : ∀ q ∈ keysT x, g q = g' q) : copyT P g t s x = copyT P g' t s x := by
  have h1 : ∀ sz, contT g sz x = contT g' sz x := fun sz => contT_congr hx
  unfold copyT
  have h2 : ∀ k s1 off n, osOf s = some (k, s1, off, n) → g k = g' k := by
    intro k s1 off n h
    cases s <;> simp only [osOf] at h <;> cases h <;> exact hs _ (by simp [keysT])
  split
  · split
    · rw [h1]
      split
      · rename_i e; rw [h2 _ _ _ _ (by assumption)]
      · rfl
    · rfl
  · rfl
theorem evL_mem {l : List Operand} {q : Nat} (h : q ∈ keysTs (evL C ts l)) : ∃ x ∈ l, q ∈ keysT (ev C ts x) := by
  induction l with
  | nil => simp [evL, keysTs] at h
  | cons x l ih =>
    simp only [evL, keysTs] at h
    rcases List.mem_append.1 h with h | h
    · exact ⟨x, List.mem_cons_self .., h⟩
    · obtain ⟨y, hy, h2⟩ := ih h; exact ⟨y, List.mem_cons_of_mem _ hy, h2⟩
theorem step_local (hL : C.loc) {key : Nat} {op : Op} (h : match depOf C g' ts key op with | some l => ∀ q ∈ l, g q = g' q | none => ∀ q, g q = g' q) : stepO C g ts key op = stepO C g' ts key op := by
  have hk : ∀ q ∈ keysE C ts op.operands.toList, g q = g' q := by
    unfold depOf at h
    split at h
    · rename_i l e
      intro q hq
      split at e
      · rename_i e2; rw [e2] at hq; simp at hq
      · split at e
        · split at e
          · rename_i l2 e3; cases e; exact h q (by simp [reachB_self e3 hq])
          · cases e
        · cases e; exact h q (by simp [hq])
    · exact fun q _ => h q
  have hn : g key = g' key ∧ g (key + 1) = g' (key + 1) ∧ g (key + 2) = g' (key + 2) ∧ g (key + 3) = g' (key + 3) := by
    unfold depOf at h
    split at h
    · rename_i l e
      split at e
      · cases e; exact ⟨h _ (by simp), h _ (by simp), h _ (by simp), h _ (by simp)⟩
      · split at e
        · split at e
          · cases e; exact ⟨h _ (by simp), h _ (by simp), h _ (by simp), h _ (by simp)⟩
          · cases e
        · cases e; exact ⟨h _ (by simp), h _ (by simp), h _ (by simp), h _ (by simp)⟩
    · exact ⟨h _, h _, h _, h _⟩
  have ho : ∀ x ∈ op.operands.toList, ∀ q ∈ keysT (ev C ts x), g q = g' q := fun x hx q hq => hk q (keysE_mem hx hq)
  have hnew := isNew_congr hn.1
  cases op
  case call c =>
    have ha : ∀ x ∈ c.args.toList, ∀ q ∈ keysT (ev C ts x), g q = g' q := fun x hx => ho x (by simp [Op.operands, Call.operands] at hx ⊢; exact .inr hx)
    simp only [stepO, callT]
    split
    · rename_i x _ _ _ e _; exact lenT_congr (fun q hq => ha x (by rw [e]; simp) q (by rwa [low_keys] at hq))
    · rename_i e _; rw [hnew, appendT_congr (ha _ (by rw [e]; simp)) (ha _ (by rw [e]; simp))]
    · rename_i e _; rw [copyT_congr (ha _ (by rw [e]; simp)) (ha _ (by rw [e]; simp))]
    · rfl
    · rfl
    · rename_i f e
      split
      · rename_i fid a b ef
        have hnews : news g key = news g' key := by unfold news; rw [hnew, isNew_congr hn.2.1, isNew_congr hn.2.2.1, isNew_congr hn.2.2.2]
        rw [hnews]
        have hs : C.spec key fid (a ++ evL C ts c.args.toList ++ b) g = C.spec key fid (a ++ evL C ts c.args.toList ++ b) g' := by
          have hsub : ∀ q ∈ keysTs (a ++ evL C ts c.args.toList ++ b), q ∈ keysE C ts (Op.call c).operands.toList := by
            intro q hq
            have hab : q ∈ keysTs a ++ keysTs b → q ∈ keysT (ev C ts f) := by
              intro hq
              unfold fnOf at ef
              split at ef
              · cases ef; simp [keysTs] at hq
              · rename_i e3; cases ef; rw [e3]; simpa only [keysT] using hq
              · cases ef
            rw [keysTs_append, keysTs_append] at hq
            rcases List.mem_append.1 hq with hq | hq
            · rcases List.mem_append.1 hq with hq | hq
              · exact keysE_mem (x := f) (by simp [Op.operands, Call.operands, e]) (hab (List.mem_append.2 (.inl hq)))
              · obtain ⟨x, hx, h2⟩ := evL_mem hq
                exact keysE_mem (x := x) (by simp [Op.operands, Call.operands] at hx ⊢; exact .inr hx) h2
            · exact keysE_mem (x := f) (by simp [Op.operands, Call.operands, e]) (hab (List.mem_append.2 (.inr hq)))
          have hic : isCall (.call c) = true := by simp [isCall, e]
          cases hfl : reachB g' 2 (keysE C ts (Op.call c).operands.toList) with
          | some l =>
            refine hL _ _ _ _ _ (fun q hq => (reachB_ok 2 hfl ?_ q (hsub q hq)).2)
            intro r hr
            cases hke : keysE C ts (Op.call c).operands.toList with
            | nil => rw [hke] at hfl; cases hfl; cases hr
            | cons q0 l0 =>
              rw [hke] at hfl
              have hd : depOf C g' ts key (.call c) = some (key :: (key + 1) :: (key + 2) :: (key + 3) :: l) := by unfold depOf; rw [hke]; simp only [hic, hfl]
              rw [hd] at h
              exact h r (by simp [hr])
          | none =>
            have hd : depOf C g' ts key (.call c) = none := by
              cases hke : keysE C ts (Op.call c).operands.toList with
              | nil => rw [hke] at hfl; cases hfl
              | cons q l =>
                rw [hke] at hfl
                unfold depOf; rw [hke]
                simp only [hic, hfl]
            rw [hd] at h
            have : g = g' := funext h
            rw [this]
        rw [hs]
      · rfl
    · rfl
  case load t a => simp only [stepO]; rw [loadT_congr (ho a (by simp [Op.operands]))]
  case store t a x => simp only [stepO]; rw [storeT_congr (ho a (by simp [Op.operands]))]
  case nilCheck x => simp only [stepO]; rw [nilT_congr (ho x (by simp [Op.operands]))]
  case indexAddr t x i => simp only [stepO]; rw [indexAddrT_congr (fun q hq => ho x (by simp [Op.operands]) q (by rwa [low_keys] at hq))]
  case fieldAddr t x f => simp only [stepO]; rw [fieldAddrT_congr (ho x (by simp [Op.operands]))]
  case slice t x lo hi mx =>
    cases mx with
    | some m => simp only [stepO, hnew]
    | none => simp only [stepO]; rw [sliceT_congr (fun q hq => ho x (by simp [Op.operands]) q (by rwa [low_keys] at hq))]
  case makeMap t r => simp only [stepO, hnew]
  case mapUpdate t x k v => simp only [stepO]; rw [mapUpdT_congr (ho x (by simp [Op.operands]))]
  case lookup t x k ok => simp only [stepO]; rw [lookT_congr (ho x (by simp [Op.operands]))]
  case alloc e => simp only [stepO, hnew]
  case box e x => simp only [stepO, hnew]
  case buildSlice t n ps => simp only [stepO, hnew]
  case makeSlice t l c => simp only [stepO, hnew]
  all_goals rfl
end
end Go.Proofs.YtnplgklnkcjmnaaGreatDoor.Am
namespace Go.Proofs.YtnplgklnkcjmnaaGreatDoor.Am
set_option linter.unusedVariables false
set_option linter.unusedSimpArgs false
open Go.RowKit

def atR : List Rec → Nat → Option Rec
  | [], _ => none
  | r :: rs, j => if j = rs.length then some r else atR rs j
/-- What is known of slots, and the machine's memory, when the operations of D are done. -/
def tsD (n : Nat) (D : Nat → Bool) (ts0 : Sl) : List Rec → Sl
  | [] => ts0
  | r :: rs => if D rs.length then putT n (tsD n D ts0 rs) r.d r.t else tsD n D ts0 rs
def hD (D : Nat → Bool) (H0 : Hp) : List Rec → Hp
  | [] => H0
  | r :: rs => if D rs.length then r.up ++ hD D H0 rs else hD D H0 rs

theorem atR_lt {rs : List Rec} {j : Nat} {r : Rec} (h : atR rs j = some r) : j < rs.length := by
  induction rs with
  | nil => cases h
  | cons a rs ih =>
    simp only [atR] at h
    split at h
    · simp; omega
    · have := ih h; simp; omega
theorem atR_some {rs : List Rec} {j : Nat} (h : j < rs.length) : ∃ r, atR rs j = some r := by
  induction rs with
  | nil => simp at h
  | cons a rs ih =>
    simp only [atR]
    split
    · exact ⟨_, rfl⟩
    · simp at h; exact ih (by omega)
theorem tget_put {n : Nat} {ts : Sl} {d : Option Tmp} {t : T} {s : Nat} : tget (putT n ts d t) s = if d = some s ∧ s < n then t else tget ts s := by
  cases d with
  | none => simp [putT]
  | some d =>
    simp only [putT]
    cases e : Nat.blt d n
    · have : ¬ d < n := fun h => by rw [← Nat.blt_eq] at h; rw [h] at e; cases e
      rw [if_neg]; rintro ⟨h1, h2⟩; cases h1; exact this h2
    · have hd : d < n := by rwa [Nat.blt_eq] at e
      simp only [tget]
      cases e2 : Nat.beq d s
      · have : ¬ d = s := fun h => by subst h; rw [Nat.beq_refl] at e2; cases e2
        rw [if_neg]; rintro ⟨h1, -⟩; cases h1; exact this rfl
      · have := Nat.eq_of_beq_eq_true e2; subst this; rw [if_pos ⟨rfl, hd⟩]
theorem get_up_not {up : List (Nat × Blk)} {H : Hp} {q : Nat} (h : q ∉ upKeys up) : Hp.get (up ++ H) q = Hp.get H q := by
  induction up with
  | nil => rfl
  | cons p up ih =>
    obtain ⟨k, b⟩ := p
    simp only [upKeys, List.mem_cons, not_or] at h
    simp only [List.cons_append, Hp.get]
    have : Nat.beq k q = false := by
      cases e : Nat.beq k q
      · rfl
      · exact absurd (Nat.eq_of_beq_eq_true e).symm h.1
    rw [this]; exact ih h.2
theorem get_up_in {up : List (Nat × Blk)} {H H' : Hp} {q : Nat} (h : q ∈ upKeys up) : Hp.get (up ++ H) q = Hp.get (up ++ H') q := by
  induction up with
  | nil => simp [upKeys] at h
  | cons p up ih =>
    obtain ⟨k, b⟩ := p
    simp only [List.cons_append, Hp.get]
    cases e : Nat.beq k q
    · simp only [upKeys, List.mem_cons] at h
      rcases h with h | h
      · subst h; rw [Nat.beq_refl] at e; cases e
      · exact ih h
    · rfl

theorem tsD_congr {n : Nat} {D E : Nat → Bool} {ts0 : Sl} {s : Nat} : ∀ {rs : List Rec}, (∀ j r, atR rs j = some r → r.d = some s → D j = E j) → tget (tsD n D ts0 rs) s = tget (tsD n E ts0 rs) s := by
  intro rs
  induction rs with
  | nil => intro _; rfl
  | cons a rs ih =>
    intro h
    have ih' := ih (fun j r hj hd => h j r (by simp only [atR]; rw [if_neg (by have := atR_lt hj; omega)]; exact hj) hd)
    simp only [tsD]
    by_cases hd : a.d = some s
    · have := h rs.length a (by simp [atR]) hd
      rw [this]
      split
      · rw [tget_put, tget_put, ih']
      · exact ih'
    · split <;> split <;> simp only [tget_put, hd, false_and, if_false, ih']
theorem hD_congr {D E : Nat → Bool} {H0 : Hp} {q : Nat} : ∀ {rs : List Rec}, (∀ j r, atR rs j = some r → q ∈ upKeys r.up → D j = E j) → Hp.get (hD D H0 rs) q = Hp.get (hD E H0 rs) q := by
  intro rs
  induction rs with
  | nil => intro _; rfl
  | cons a rs ih =>
    intro h
    have ih' := ih (fun j r hj hd => h j r (by simp only [atR]; rw [if_neg (by have := atR_lt hj; omega)]; exact hj) hd)
    simp only [hD]
    by_cases hd : q ∈ upKeys a.up
    · have := h rs.length a (by simp [atR]) hd
      rw [this]
      split
      · exact get_up_in hd
      · exact ih'
    · split <;> split <;> simp only [get_up_not hd, ih']

/-- One operation more. -/
def plus (D : Nat → Bool) (i : Nat) (j : Nat) : Bool := if j = i then true else D j
theorem tsD_plus {n : Nat} {D : Nat → Bool} {ts0 : Sl} {s i : Nat} {r : Rec} : ∀ {rs : List Rec}, atR rs i = some r → (∀ j r', atR rs j = some r' → j ≠ i → r.d = some s → r'.d ≠ some s) →
    tget (tsD n (plus D i) ts0 rs) s = tget (putT n (tsD n D ts0 rs) r.d r.t) s := by
  intro rs h hu
  rw [tget_put]
  by_cases hd : r.d = some s
  · by_cases hs : s < n
    · rw [if_pos ⟨hd, hs⟩]
      have key : ∀ {rs : List Rec}, atR rs i = some r → (∀ j r', atR rs j = some r' → j ≠ i → r'.d ≠ some s) → tget (tsD n (plus D i) ts0 rs) s = r.t := by
        intro rs
        induction rs with
        | nil => intro h; cases h
        | cons a rs ih =>
          intro h hu
          simp only [atR] at h
          split at h
          · rename_i e; cases h; simp only [tsD, plus, e, if_true, tget_put]; rw [if_pos ⟨hd, hs⟩]
          · rename_i e
            have ha := hu rs.length a (by simp [atR]) (fun e' => e e'.symm)
            have ih' := ih h (fun j r' hj => hu j r' (by simp only [atR]; rw [if_neg (by have := atR_lt hj; omega)]; exact hj))
            simp only [tsD]
            split
            · rw [tget_put, if_neg (by rintro ⟨h1, _⟩; exact ha h1)]; exact ih'
            · exact ih'
      exact key h (fun j r' hj hji => hu j r' hj hji hd)
    · rw [if_neg (fun hh => hs hh.2)]
      have key : ∀ {D : Nat → Bool} {rs : List Rec}, tget (tsD n D ts0 rs) s = tget ts0 s := by
        intro D rs
        induction rs with
        | nil => rfl
        | cons a rs ih =>
          simp only [tsD]
          split
          · rw [tget_put, if_neg (fun hh => hs hh.2)]; exact ih
          · exact ih
      rw [key, key]
  · rw [if_neg (fun hh => hd hh.1)]
    refine tsD_congr (fun j r' hj hd' => ?_)
    unfold plus
    rw [if_neg]
    rintro rfl
    rw [h] at hj; cases hj; exact hd hd'
theorem hD_plus {D : Nat → Bool} {H0 : Hp} {q i : Nat} {r : Rec} : ∀ {rs : List Rec}, atR rs i = some r → (∀ j r', atR rs j = some r' → i < j → q ∈ upKeys r.up → q ∈ upKeys r'.up → D j = false) →
    Hp.get (hD (plus D i) H0 rs) q = Hp.get (r.up ++ hD D H0 rs) q := by
  intro rs h hu
  by_cases hd : q ∈ upKeys r.up
  · have key : ∀ {rs : List Rec}, atR rs i = some r → (∀ j r', atR rs j = some r' → i < j → q ∈ upKeys r'.up → D j = false) → ∀ H', Hp.get (hD (plus D i) H0 rs) q = Hp.get (r.up ++ H') q := by
      intro rs
      induction rs with
      | nil => intro h; cases h
      | cons a rs ih =>
        intro h hu H'
        simp only [atR] at h
        split at h
        · rename_i e; cases h; simp only [hD, plus, e, if_true]; exact get_up_in hd
        · rename_i e
          have hlt := atR_lt h
          have ih' := ih h (fun j r' hj => hu j r' (by simp only [atR]; rw [if_neg (by have := atR_lt hj; omega)]; exact hj)) H'
          simp only [hD]
          by_cases ha : q ∈ upKeys a.up
          · have := hu rs.length a (by simp [atR]) hlt ha
            have hp : plus D i rs.length = false := by unfold plus; rw [if_neg (by omega)]; exact this
            rw [hp]; exact ih'
          · split
            · rw [get_up_not ha]; exact ih'
            · exact ih'
    exact key h (fun j r' hj hij => hu j r' hj hij hd) _
  · rw [get_up_not hd]
    refine hD_congr (fun j r' hj hd' => ?_)
    unfold plus
    rw [if_neg]
    rintro rfl
    rw [h] at hj; cases hj; exact hd hd'

/-! ### who waits for whom -/
theorem ancOne_spec {acc : List Nat} {j : Nat} : ∀ {es : List Edge} {s : Nat}, (ancOne acc es s).testBit j = true → s.testBit j = true ∨ ∃ e ∈ es, Region.binds .any e = true ∧ (e.on = j ∨ (acc.getD e.on 0).testBit j = true) := by
  intro es
  induction es with
  | nil => intro s h; exact .inl h
  | cons e es ih =>
    intro s h
    simp only [ancOne] at h
    split at h
    · rename_i hb
      rcases ih h with h1 | ⟨e', h1, h2⟩
      · rw [Nat.testBit_or, Nat.testBit_or, Bool.or_eq_true, Bool.or_eq_true] at h1
        rcases h1 with (h1 | h1) | h1
        · exact .inl h1
        · rw [Nat.testBit_two_pow] at h1; exact .inr ⟨e, List.mem_cons_self .., hb, .inl (by simpa using h1)⟩
        · exact .inr ⟨e, List.mem_cons_self .., hb, .inr h1⟩
      · exact .inr ⟨e', List.mem_cons_of_mem _ h1, h2⟩
    · rcases ih h with h1 | ⟨e', h1, h2⟩
      · exact .inl h1
      · exact .inr ⟨e', List.mem_cons_of_mem _ h1, h2⟩
theorem ancs_spec : ∀ {l : List Oper} {acc : List Nat} {i : Nat} {o : Oper}, l[i]? = some o → ∀ j, ((ancs l acc).getD (acc.length + i) 0).testBit j = true →
    ∃ e ∈ o.after.toList, Region.binds .any e = true ∧ (e.on = j ∨ (e.on < acc.length + i ∧ ((ancs l acc).getD e.on 0).testBit j = true)) := by
  have pre : ∀ (l : List Oper) (acc : List Nat), ∃ tl, ancs l acc = acc ++ tl := by
    intro l
    induction l with
    | nil => intro acc; exact ⟨[], by simp [ancs]⟩
    | cons o l ih => intro acc; obtain ⟨tl, h⟩ := ih (acc ++ [ancOne acc o.after.toList 0]); exact ⟨ancOne acc o.after.toList 0 :: tl, by simp only [ancs]; rw [h, List.append_assoc]; rfl⟩
  intro l
  induction l with
  | nil => intro acc i o h; simp at h
  | cons a l ih =>
    intro acc i o h j hj
    simp only [ancs] at hj ⊢
    cases i with
    | zero =>
      simp at h; subst h
      obtain ⟨tl, htl⟩ := pre l (acc ++ [ancOne acc a.after.toList 0])
      have e1 : (ancs l (acc ++ [ancOne acc a.after.toList 0])).getD (acc.length + 0) 0 = ancOne acc a.after.toList 0 := by
        rw [htl, List.getD_eq_getElem?_getD]; simp
      rw [e1] at hj
      rcases ancOne_spec hj with h1 | ⟨e, h1, h2, h3⟩
      · simp at h1
      · refine ⟨e, h1, h2, h3.imp id (fun h4 => ?_)⟩
        have hlt : e.on < acc.length := by
          rcases Nat.lt_or_ge e.on acc.length with h5 | h5
          · exact h5
          · rw [List.getD_eq_getElem?_getD, List.getElem?_eq_none h5] at h4; simp at h4
        refine ⟨by omega, ?_⟩
        rw [htl, List.getD_eq_getElem?_getD, List.append_assoc, List.getElem?_append_left hlt, ← List.getD_eq_getElem?_getD]
        exact h4
    | succ i =>
      simp at h
      have := ih (acc := acc ++ [ancOne acc a.after.toList 0]) h j (by rw [List.length_append, List.length_singleton, show acc.length + 1 + i = acc.length + (i + 1) by omega]; exact hj)
      rw [List.length_append, List.length_singleton, show acc.length + 1 + i = acc.length + (i + 1) by omega] at this
      exact this
end Go.Proofs.YtnplgklnkcjmnaaGreatDoor.Am
namespace Go.Proofs.YtnplgklnkcjmnaaGreatDoor.Am
set_option linter.unusedVariables false
set_option linter.unusedSimpArgs false
open Go.RowKit

def full : Nat → Bool := fun _ => true
def gYes (ops : Array Oper) (ts : Sl) (o : Oper) : Prop := match o.guard with
  | none => True
  | some (j, want) => ∃ d, dstOf ops j = some d ∧ tget ts d = .v (.bool want)
def gNo (ops : Array Oper) (ts : Sl) (o : Oper) : Prop := match o.guard with
  | none => False
  | some (j, want) => ∃ d, dstOf ops j = some d ∧ (tget ts d = .v (.bool (!want)) ∨ ∃ cs, tget ts d = .tup cs)
/-- What was noted of an operation is so. -/
def OpOk (C : Ctx) (base : Nat) (ops : Array Oper) (ts : Sl) (g : Mem) (o : Oper) (r : Rec) : Prop :=
  r.d = o.dst ∧ r.look = lookOf ops o ∧ ((gYes ops ts o ∧ ∃ ot, stepO C g ts (keyOf base o.dst) o.op = some ot ∧ ot.ok ∧ r.t = ot.t ∧ r.up = ot.up ∧ r.dep = depOf C g ts (keyOf base o.dst) o.op) ∨
    (gNo ops ts o ∧ r.t = .tup [] ∧ r.up = [] ∧ r.dep = some []))
inductive Chain (C : Ctx) (n base : Nat) (ops : Array Oper) (ts0 : Sl) (H0 : Hp) (i0 : Nat) : List Rec → Prop
  | nil : Chain C n base ops ts0 H0 i0 (dms i0)
  | cons {r : Rec} {rs : List Rec} {o : Oper} (h : Chain C n base ops ts0 H0 i0 rs) (ho : ops[rs.length]? = some o) (hr : OpOk C base ops (tsD n full ts0 rs) (hD full H0 rs).get o r) : Chain C n base ops ts0 H0 i0 (r :: rs)

theorem ev_tget {C : Ctx} {ts ts' : Sl} (h : ∀ s, tget ts s = tget ts' s) (x : Operand) : ev C ts x = ev C ts' x := by cases x <;> first | rfl | exact h _
theorem keysE_congr {C : Ctx} {ts ts' : Sl} {l : List Operand} (h : ∀ x ∈ l, ev C ts x = ev C ts' x) : keysE C ts l = keysE C ts' l := by
  induction l with
  | nil => rfl
  | cons x l ih => simp only [keysE]; rw [h x (List.mem_cons_self ..), ih (fun y hy => h y (List.mem_cons_of_mem _ hy))]
theorem depOf_congr {C : Ctx} {g g' : Mem} {ts ts' : Sl} {key : Nat} {op : Op} (hg : g = g') (h : ∀ x ∈ op.operands.toList, ev C ts x = ev C ts' x) : depOf C g ts key op = depOf C g' ts' key op := by
  unfold depOf; rw [keysE_congr h, hg]

section
variable {C : Ctx} {n base : Nat} {w0 : World} {O : Env} {ops : Array Oper}

theorem dms_len (i : Nat) : (dms i).length = i := by induction i with
  | zero => rfl
  | succ i ih => simp [dms, ih]
theorem Chain.le {ts0 : Sl} {H0 : Hp} {i0 : Nat} (hi : i0 ≤ ops.size) {rs : List Rec} (h : Chain C n base ops ts0 H0 i0 rs) : i0 ≤ rs.length ∧ rs.length ≤ ops.size := by
  induction h with
  | nil => rw [dms_len]; exact ⟨Nat.le_refl _, hi⟩
  | cons _ ho _ ih => have := (Array.getElem?_eq_some_iff.1 ho).1; simp; omega
/-- How the walk of a row ends: at its end, or at a call that all others wait for. -/
def Ends (C : Ctx) (X : Caller) (n base : Nat) (ops : Array Oper) (F : Sl → Hp → List Rec → Prop) (ts0 : Sl) (H0 : Hp) (i0 : Nat) : Prop :=
  ∃ ts' H' rs', Chain C n base ops ts0 H0 i0 rs' ∧ (∀ s, tget ts' s = tget (tsD n full ts0 rs') s) ∧ (∀ q, H'.get q = (hD full H0 rs').get q) ∧
    ((rs'.length = ops.size ∧ F ts' H' rs') ∨
      (∃ (o : Oper) (l' : List Oper) (f : Operand) (as : Array Operand) (tys : Array TypeId), ops.toList.drop rs'.length = o :: l' ∧ gYes ops (tsD n full ts0 rs') o ∧ o.op = .call ⟨.value f, as, tys⟩ ∧
        chkAll (ancs ops.toList []) rs' = true ∧ edgesOk 0 ops.toList = true ∧ cutB (ancs ops.toList []) rs'.length ops.size = true ∧
        X (ev C ts' f) (evL C ts' as.toList) (keyOf base o.dst) ts' H' (fun t ts H => fP n ts o.dst t fun ts => dgo C X n base ops F l' ts H (dms (rs'.length + 1)))))
theorem dgo_run {X : Caller} {F : Sl → Hp → List Rec → Prop} {ts0 : Sl} {H0 : Hp} {i0 : Nat} (hi0 : i0 ≤ ops.size) : ∀ (l : List Oper) (ts : Sl) (H : Hp) (rs : List Rec), dgo C X n base ops F l ts H rs → ops.toList.drop rs.length = l → Chain C n base ops ts0 H0 i0 rs →
    (∀ s, tget ts s = tget (tsD n full ts0 rs) s) → (∀ q, H.get q = (hD full H0 rs).get q) → Ends C X n base ops F ts0 H0 i0 := by
  intro l
  induction l with
  | nil =>
    intro ts H rs h hd hc ht hh
    refine ⟨ts, H, rs, hc, ht, hh, .inl ⟨?_, h⟩⟩
    have h1 : ops.toList.length ≤ rs.length := List.drop_eq_nil_iff.1 hd
    rw [Array.length_toList] at h1
    have := (hc.le hi0).2
    omega
  | cons o l ih =>
    intro ts H rs h hd hc ht hh
    have ho : ops[rs.length]? = some o := by
      rw [← Array.getElem?_toList]
      have : (ops.toList.drop rs.length)[0]? = some o := by rw [hd]; rfl
      rwa [List.getElem?_drop, Nat.add_zero] at this
    have hd' : ops.toList.drop (rs.length + 1) = l := by rw [← List.drop_drop, hd]; rfl
    have hlen : ops.size - lenO l = rs.length + 1 := by
      rw [lenO_eq, ← hd', List.length_drop, Array.length_toList]
      have := (Array.getElem?_eq_some_iff.1 ho).1
      omega
    have hg : H.get = (hD full H0 rs).get := funext hh
    have ex : ∀ (ts1 : Sl), (∀ s, tget ts1 s = tget ts s) → gYes ops (tsD n full ts0 rs) o →
        (match stepO C H.get ts1 (keyOf base o.dst) o.op with
          | some ot => andO ot.c (fT ot.t fun t => fP n ts1 o.dst t fun ts' => fU ot.up [] fun up => fU ot.up H fun H' => dgo C X n base ops F l ts' H' (⟨o.dst, t, up, depOf C H.get ts1 (keyOf base o.dst) o.op, lookOf ops o⟩ :: rs))
          | none => match o.op with
            | .call c => match c.callee with
              | .value f => match chkAllB (rowsB (ancs ops.toList []) (ops.size - lenO l - 1)) rs && (edgesOk 0 ops.toList && cutB (ancs ops.toList []) (ops.size - lenO l - 1) ops.size) with
                | true => X (ev C ts1 f) (evL C ts1 c.args.toList) (keyOf base o.dst) ts1 H (fun t ts H => fP n ts o.dst t fun ts => dgo C X n base ops F l ts H (dms (ops.size - lenO l)))
                | false => False
              | _ => False
            | _ => False) → Ends C X n base ops F ts0 H0 i0 := by
      intro ts1 h1 hy hx
      split at hx
      · rename_i ot e
        obtain ⟨hok, hx⟩ := andO_ok hx
        simp only [fT_eq, fP_eq, fU_eq, List.append_nil] at hx
        have hev : ∀ x ∈ o.op.operands.toList, ev C ts1 x = ev C (tsD n full ts0 rs) x := fun x _ => ev_tget (fun s => (h1 s).trans (ht s)) x
        refine ih _ _ _ hx hd' (.cons hc ho ⟨rfl, rfl, .inl ⟨hy, ot, ?_, hok, rfl, rfl, depOf_congr hg hev⟩⟩) (fun s => ?_) (fun q => ?_)
        · rw [← step_congr hev, ← hg]; exact e
        · simp only [tsD, full, if_true]
          rw [tget_put, tget_put, h1, ht]
        · simp only [hD, full, if_true]
          by_cases hq : q ∈ upKeys ot.up
          · exact get_up_in hq
          · rw [get_up_not hq, get_up_not hq]; exact hh q
      · split at hx
        · rename_i c e
          split at hx
          · rename_i f ef
            split at hx
            · rename_i hb
              simp only [Bool.and_eq_true] at hb
              obtain ⟨callee, as, tys⟩ := c
              simp only at ef; subst ef
              rw [hlen] at hx hb
              rw [Nat.add_sub_cancel] at hb
              exact ⟨ts1, H, rs, hc, fun s => (h1 s).trans (ht s), hh, .inr ⟨o, l, f, as, tys, hd, hy, e, chkAllB_ok hb.1, hb.2.1, hb.2.2, hx⟩⟩
            · exact hx.elim
          · exact hx.elim
        · exact hx.elim
    have sk : ∀ (ts1 : Sl), (∀ s, tget ts1 s = tget ts s) → gNo ops (tsD n full ts0 rs) o →
        (fP n ts1 o.dst (.tup []) fun ts' => dgo C X n base ops F l ts' H (⟨o.dst, .tup [], [], some [], lookOf ops o⟩ :: rs)) → Ends C X n base ops F ts0 H0 i0 := by
      intro ts1 h1 hy hx
      rw [fP_eq] at hx
      refine ih _ _ _ hx hd' (.cons hc ho ⟨rfl, rfl, .inr ⟨hy, rfl, rfl, rfl⟩⟩) (fun s => ?_) (fun q => ?_)
      · simp only [tsD, full, if_true]
        rw [tget_put, tget_put, h1, ht]
      · simp only [hD, full, if_true, List.nil_append]; exact hh q
    rw [dgo_cons] at h
    unfold dgoB at h
    simp only at h
    cases hgd : o.guard with
    | none =>
      rw [hgd] at h
      exact ex ts (fun _ => rfl) (by unfold gYes; rw [hgd]; trivial) h
    | some jw =>
      obtain ⟨j, want⟩ := jw
      rw [hgd] at h
      simp only at h
      split at h
      · exact h.elim
      · rename_i d hdd
        split at h
        · rename_i x hx
          have hx' : tget (tsD n full ts0 rs) d = .v (.bool x) := by rw [← ht]; exact hx
          have same : ∀ y, x = y → ∀ s, tget ((d, T.v (.bool y)) :: ts) s = tget ts s := by
            intro y hy s
            subst hy
            simp only [tget]
            cases e2 : Nat.beq d s
            · rfl
            · have := Nat.eq_of_beq_eq_true e2; subst this; exact hx.symm
          have yes : x = want → gYes ops (tsD n full ts0 rs) o := fun e => by unfold gYes; rw [hgd]; exact ⟨d, hdd, e ▸ hx'⟩
          have no : x = (!want) → gNo ops (tsD n full ts0 rs) o := fun e => by unfold gNo; rw [hgd]; exact ⟨d, hdd, .inl (e ▸ hx')⟩
          cases x <;> cases want <;> simp only [ifB] at h
          · exact ex _ (same _ rfl) (yes rfl) h
          · exact sk _ (same _ rfl) (no rfl) h
          · exact sk _ (same _ rfl) (no rfl) h
          · exact ex _ (same _ rfl) (yes rfl) h
        · rename_i cs hx
          exact sk ts (fun _ => rfl) (by unfold gNo; rw [hgd]; exact ⟨d, hdd, .inr ⟨cs, by rw [← ht]; exact hx⟩⟩) h
        · exact h.elim

theorem atR_dms {i j : Nat} {r : Rec} (h : atR (dms i) j = some r) : r = dm ∧ j < i := by
  induction i with
  | zero => cases h
  | succ i ih =>
    simp only [dms, atR] at h
    split at h
    · rename_i e; cases h; rw [dms_len] at e; exact ⟨rfl, by omega⟩
    · obtain ⟨h1, h2⟩ := ih h; exact ⟨h1, by omega⟩
theorem chain_at {ts0 : Sl} {H0 : Hp} {i0 : Nat} {rs : List Rec} (h : Chain C n base ops ts0 H0 i0 rs) : ∀ {i : Nat} {r : Rec}, i0 ≤ i → atR rs i = some r → ∃ pre more o, rs = more ++ (r :: pre) ∧ pre.length = i ∧ ops[i]? = some o ∧ OpOk C base ops (tsD n full ts0 pre) (hD full H0 pre).get o r := by
  induction h with
  | nil => intro i r hi h; have := (atR_dms h).2; omega
  | cons hc ho hr ih =>
    intro i r hi h
    simp only [atR] at h
    split at h
    · rename_i e; cases h; exact ⟨_, [], _, rfl, e.symm, by rw [e]; exact ho, hr⟩
    · obtain ⟨pre, more, o, h1, h2⟩ := ih hi h
      exact ⟨pre, _ :: more, o, by rw [h1]; rfl, h2⟩
theorem tsD_pre {D : Nat → Bool} {ts0 : Sl} {pre : List Rec} : ∀ {more : List Rec}, (∀ j, pre.length ≤ j → D j = false) → (∀ j, j < pre.length → D j = true) → tsD n D ts0 (more ++ pre) = tsD n full ts0 pre := by
  intro more h1 h2
  induction more with
  | nil =>
    rw [List.nil_append]
    have : ∀ {q : List Rec}, q.length ≤ pre.length → tsD n D ts0 q = tsD n full ts0 q := by
      intro q
      induction q with
      | nil => intro _; rfl
      | cons a q ih => intro hq; simp only [List.length_cons] at hq; simp only [tsD, h2 q.length (by omega), full, ih (by omega)]
    exact this (Nat.le_refl _)
  | cons a more ih => simp only [List.cons_append, tsD]; rw [h1 _ (by simp)]; simpa using ih
theorem hD_pre {D : Nat → Bool} {H0 : Hp} {pre : List Rec} : ∀ {more : List Rec}, (∀ j, pre.length ≤ j → D j = false) → (∀ j, j < pre.length → D j = true) → hD D H0 (more ++ pre) = hD full H0 pre := by
  intro more h1 h2
  induction more with
  | nil =>
    rw [List.nil_append]
    have : ∀ {q : List Rec}, q.length ≤ pre.length → hD D H0 q = hD full H0 q := by
      intro q
      induction q with
      | nil => intro _; rfl
      | cons a q ih => intro hq; simp only [List.length_cons] at hq; simp only [hD, h2 q.length (by omega), full, ih (by omega)]
    exact this (Nat.le_refl _)
  | cons a more ih => simp only [List.cons_append, hD]; rw [h1 _ (by simp)]; simpa using ih

/-! what the check says -/
theorem meets_iff {a b : List Nat} : meets a b = true ↔ ∃ q, q ∈ a ∧ q ∈ b := by
  induction a with
  | nil => simp [meets]
  | cons x a ih =>
    simp only [meets, Bool.or_eq_true, memN_iff, ih]
    constructor
    · rintro (h | ⟨q, h1, h2⟩)
      · exact ⟨x, List.mem_cons_self .., h⟩
      · exact ⟨q, List.mem_cons_of_mem _ h1, h2⟩
    · rintro ⟨q, h1, h2⟩
      rcases List.mem_cons.1 h1 with rfl | h1
      · exact .inl h2
      · exact .inr ⟨q, h1, h2⟩
theorem chkOne_spec {A : List Nat} {r : Rec} {i : Nat} : ∀ {rs : List Rec}, chkOne A r i rs = true → ∀ j s, atR rs j = some s → sameD r.d s.d = false ∧ (clash r s = true → (A.getD i 0).testBit j = true) := by
  intro rs
  induction rs with
  | nil => intro _ j s h; cases h
  | cons a rs ih =>
    intro h j s hj
    simp only [chkOne, Bool.and_eq_true, Bool.or_eq_true, Bool.not_eq_true'] at h
    simp only [atR] at hj
    split at hj
    · rename_i e
      cases hj
      refine ⟨h.1.1, fun hc => ?_⟩
      rcases h.1.2 with h2 | h2
      · rw [hc] at h2; cases h2
      · rw [e]; exact h2
    · exact ih h.2 j s hj
theorem chkAll_spec {A : List Nat} : ∀ {rs : List Rec}, chkAll A rs = true → ∀ i j r s, atR rs i = some r → atR rs j = some s → j < i → sameD r.d s.d = false ∧ (clash r s = true → (A.getD i 0).testBit j = true) := by
  intro rs
  induction rs with
  | nil => intro _ i j r s h; cases h
  | cons a rs ih =>
    intro h i j r s hi hj hlt
    simp only [chkAll, Bool.and_eq_true] at h
    simp only [atR] at hi hj
    split at hi
    · rename_i e
      cases hi
      rw [if_neg (by omega)] at hj
      subst e
      exact chkOne_spec h.1 j s hj
    · rw [if_neg (by have := atR_lt hi; omega)] at hj
      exact ih h.2 i j r s hi hj hlt
theorem edgesOk_spec : ∀ {l : List Oper} {k : Nat}, edgesOk k l = true → ∀ i o, l[i]? = some o → ∀ e ∈ o.after.toList, Region.binds .any e = true → e.on < k + i := by
  intro l
  induction l with
  | nil => intro k _ i o h; simp at h
  | cons a l ih =>
    intro k h i o hi e he hb
    simp only [edgesOk, Bool.and_eq_true] at h
    cases i with
    | zero =>
      simp at hi; subst hi
      have := List.all_eq_true.1 h.1 e he
      rw [hb] at this
      simp at this
      omega
    | succ i =>
      simp at hi
      have := ih h.2 i o hi e he hb
      omega

/-- Who is done, when operations are drawn. -/
def done (listed : Array Bool) (j : Nat) : Bool := listed.getD j false
theorem done_set {listed : Array Bool} {i : Nat} (hi : i < listed.size) : done (listed.setIfInBounds i true) = plus (done listed) i := by
  funext j
  unfold done plus
  rw [Array.getD_eq_getD_getElem?, Array.getElem?_setIfInBounds]
  by_cases h : i = j
  · subst h; rw [if_pos rfl, if_pos hi, if_pos rfl]; rfl
  · rw [if_neg h, if_neg (fun e => h e.symm)]; show _ = listed.getD j false; rw [Array.getD_eq_getD_getElem?]
def left (N : Nat) (D : Nat → Bool) : Nat := ((List.range N).filter fun j => !D j).length
theorem left_plus {N i : Nat} {D : Nat → Bool} (hi : i < N) (hd : D i = false) : left N (plus D i) < left N D := by
  unfold left
  rw [← List.countP_eq_length_filter, ← List.countP_eq_length_filter]
  have key : ∀ (l : List Nat), l.countP (fun j => !plus D i j) ≤ l.countP (fun j => !D j) ∧ (i ∈ l → l.countP (fun j => !plus D i j) < l.countP (fun j => !D j)) := by
    intro l
    induction l with
    | nil => simp
    | cons a l ih =>
      rw [List.countP_cons, List.countP_cons]
      by_cases ha : a = i
      · subst ha
        have h1 : plus D a a = true := by unfold plus; rw [if_pos rfl]
        simp [h1, hd]
        have := ih.1; omega
      · have h1 : plus D i a = D a := by unfold plus; rw [if_neg ha]
        rw [h1]
        refine ⟨by have := ih.1; omega, fun h => ?_⟩
        have := ih.2 (by rcases List.mem_cons.1 h with h | h; exact absurd h.symm ha; exact h)
        omega
  exact (key _).2 (List.mem_range.2 hi)

/-- What holds while operations are drawn. -/
structure Dr (C : Ctx) (n : Nat) (w0 : World) (O : Env) (ops : Array Oper) (ts0 : Sl) (H0 : Hp) (i0 : Nat) (rs : List Rec) (listed : Array Bool) (a : Act) (w : World) : Prop where
  size : listed.size = ops.size
  shut : ∀ i, done listed i = true → ∀ j, ((ancs ops.toList []).getD i 0).testBit j = true → done listed j = true
  low : ∀ j, j < i0 → done listed j = true
  high : ∀ j, rs.length ≤ j → done listed j = false
  rl : Rl C n w0 O (tsD n (done listed) ts0 rs) (hD (done listed) H0 rs) a w

theorem allT_spec {l : List Bool} (h : allT l = true) : ∀ b ∈ l, b = true := by
  induction l with
  | nil => simp
  | cons a l ih => simp only [allT, Bool.and_eq_true] at h; intro b hb; rcases List.mem_cons.1 hb with rfl | hb; exact h.1; exact ih h.2 b hb
theorem rowB_mem (a : Nat) : ∀ {n j : Nat}, j < n → a.testBit j ∈ rowB a n := by
  intro n
  induction n with
  | zero => intro j h; omega
  | succ n ih =>
    intro j h
    simp only [rowB]
    by_cases e : j = n
    · subst e; exact List.mem_cons_self ..
    · exact List.mem_cons_of_mem _ (ih (by omega))
theorem waitsB_spec {A : List Nat} {i : Nat} : ∀ {k : Nat}, waitsB A i k = true → ∀ j, j < k → (A.getD (i + 1 + j) 0).testBit i = true := by
  intro k
  induction k with
  | zero => intro _ j h; omega
  | succ k ih =>
    intro h j hj
    simp only [waitsB, Bool.and_eq_true] at h
    by_cases e : j = k
    · subst e; exact h.1
    · exact ih h.2 j (by omega)
theorem cutB_spec {A : List Nat} {i N : Nat} (h : cutB A i N = true) : (∀ j, j < i → (A.getD i 0).testBit j = true) ∧ (∀ j, i < j → j < N → (A.getD j 0).testBit i = true) := by
  unfold cutB at h
  rw [Bool.and_eq_true] at h
  refine ⟨fun j hj => allT_spec h.1 _ (rowB_mem _ hj), fun j h1 h2 => ?_⟩
  have := waitsB_spec h.2 (j - (i + 1)) (by omega)
  rwa [show i + 1 + (j - (i + 1)) = j by omega] at this
theorem meets_no {a b : List Nat} (h : meets a b = false) {q : Nat} (ha : q ∈ a) (hb : q ∈ b) : False := by
  have := meets_iff.2 ⟨q, ha, hb⟩; rw [h] at this; cases this

theorem ready_done {ops : Array Oper} {listed : Array Bool} {i : Nat} (hs : listed.size = ops.size) (hi : i ∈ Region.ready .any ops listed) : i < ops.size ∧ done listed i = false ∧
    (∀ j, ((ancs ops.toList []).getD i 0).testBit j = true → (∀ q, done listed q = true → ∀ j, ((ancs ops.toList []).getD q 0).testBit j = true → done listed j = true) → done listed j = true) := by
  unfold Region.ready at hi
  rw [List.mem_filter] at hi
  obtain ⟨hi1, hi2⟩ := hi
  have hi1 := List.mem_range.1 hi1
  rw [Bool.and_eq_true, Bool.not_eq_true'] at hi2
  obtain ⟨hi2, hi3⟩ := hi2
  have ho : ops[i]? = some ops[i] := Array.getElem?_eq_getElem hi1
  refine ⟨hi1, ?_, ?_⟩
  · unfold done
    rw [Array.getD_eq_getD_getElem?] at hi2 ⊢
    rw [Array.getElem?_eq_getElem (by omega)] at hi2 ⊢
    exact hi2
  · intro j hj shut
    have hl : ops.toList[i]? = some ops[i] := by rw [Array.getElem?_toList]; exact ho
    obtain ⟨e, he, hb, hor⟩ := ancs_spec (acc := []) hl j (by simpa using hj)
    have hed : done listed e.on = true := by
      rw [ho] at hi3
      simp only [Option.map_some, Option.getD_some] at hi3
      rw [← Array.all_toList, List.all_eq_true] at hi3
      have := hi3 e he
      rw [hb] at this
      simpa [done] using this
    rcases hor with rfl | ⟨_, h2⟩
    · exact hed
    · exact shut _ hed j (by simpa using h2)
theorem allD (hedg : edgesOk 0 ops.toList = true) : ∀ (listed : Array Bool), listed.size = ops.size → Region.ready .any ops listed = [] → ∀ i, i < ops.size → done listed i = true := by
    intro listed hs hr i
    induction i using Nat.strongRecOn with
    | _ i ih =>
      intro hi
      cases hd : done listed i with
      | true => rfl
      | false =>
        have hmem : i ∈ Region.ready .any ops listed := by
          unfold Region.ready
          rw [List.mem_filter]
          refine ⟨List.mem_range.2 hi, ?_⟩
          have ho : ops[i]? = some ops[i] := Array.getElem?_eq_getElem hi
          have hl : listed.getD i true = false := by
            unfold done at hd
            rw [Array.getD_eq_getD_getElem?] at hd ⊢
            rw [Array.getElem?_eq_getElem (by omega)] at hd ⊢
            exact hd
          rw [hl, ho]
          simp only [Bool.not_false, Bool.true_and, Option.map_some, Option.getD_some]
          rw [← Array.all_toList, List.all_eq_true]
          intro e he
          cases hb : Region.binds .any e with
          | false => rfl
          | true =>
            have := edgesOk_spec hedg i ops[i] (by rw [Array.getElem?_toList]; exact ho) e he hb
            have := ih e.on (by omega) (by omega)
            simpa [done] using this
        rw [hr] at hmem; simp at hmem
theorem any_ok (hC : C.ok) (hL : C.loc) {ts0 : Sl} {H0 : Hp} {i0 : Nat} {rs : List Rec} (hi0 : i0 ≤ ops.size) (hc : Chain C n base ops ts0 H0 i0 rs) (hcut : rs.length = ops.size ∨ cutB (ancs ops.toList []) rs.length ops.size = true) (hchk : chkAll (ancs ops.toList []) rs = true) (hedg : edgesOk 0 ops.toList = true)
    {ro : Option Nat} {Q : Exit → Act → World → Prop}
    (hend : ∀ (fuel : Nat) (listed : Array Bool) (a : Act) (w : World), left ops.size (done listed) ≤ fuel → listed.size = ops.size → (∀ j, done listed j = decide (j < rs.length)) →
      (∀ i, done listed i = true → ∀ j, ((ancs ops.toList []).getD i 0).testBit j = true → done listed j = true) → Rl C n w0 O (tsD n full ts0 rs) (hD full H0 rs) a w → wpAnyIn (FR ro) 0 C.P .any ops Q fuel listed a w) :
    ∀ (fuel : Nat) (listed : Array Bool) (a : Act) (w : World), left ops.size (done listed) ≤ fuel → Dr C n w0 O ops ts0 H0 i0 rs listed a w → wpAnyIn (FR ro) 0 C.P .any ops Q fuel listed a w := by
  -- of two that clash the one waits for the other one
  have clash' : ∀ {i j r s}, atR rs i = some r → atR rs j = some s → i ≠ j → clash r s = true ∨ clash s r = true → (j < i → ((ancs ops.toList []).getD i 0).testBit j = true) ∧ (i < j → ((ancs ops.toList []).getD j 0).testBit i = true) := by
    intro i j r s hi hj hne hcl
    have sym : clash r s = clash s r := by
      have mc : ∀ x y, meets x y = meets y x := by
        intro x y
        cases e1 : meets x y <;> cases e2 : meets y x <;> try rfl
        · obtain ⟨q, h1, h2⟩ := meets_iff.1 e2; exact (meets_no e1 h2 h1).elim
        · obtain ⟨q, h1, h2⟩ := meets_iff.1 e1; exact (meets_no e2 h2 h1).elim
      unfold clash
      rw [mc (upKeys r.up) (upKeys s.up)]
      cases hasD s.d r.look <;> cases hasD r.d s.look <;> simp only [Bool.false_or, Bool.true_or, Bool.or_comm, Bool.or_assoc, Bool.or_left_comm]
    have hcl' : clash r s = true := by rcases hcl with h | h; exact h; rw [sym]; exact h
    exact ⟨fun h => (chkAll_spec hchk i j r s hi hj h).2 hcl', fun h => (chkAll_spec hchk j i s r hj hi h).2 (sym ▸ hcl')⟩
  have hle := hc.le hi0
  have fin : ∀ (fuel : Nat) (listed : Array Bool) (a : Act) (w : World), left ops.size (done listed) ≤ fuel → Dr C n w0 O ops ts0 H0 i0 rs listed a w → (∀ j, j < rs.length → done listed j = true) → wpAnyIn (FR ro) 0 C.P .any ops Q fuel listed a w := by
    intro fuel listed a w hlf hd h1
    refine hend fuel listed a w hlf hd.size (fun j => ?_) hd.shut ?_
    · by_cases h : j < rs.length
      · rw [h1 j h, decide_eq_true h]
      · rw [hd.high j (by omega), decide_eq_false h]
    obtain ⟨m, g1, g2, g3, g4, g5⟩ := hd.rl
    have e1 : (hD (done listed) H0 rs).get = (hD full H0 rs).get := funext fun q => hD_congr (fun j r hj _ => h1 j (by have := atR_lt hj; omega))
    have e2 : ∀ s, tget (tsD n (done listed) ts0 rs) s = tget (tsD n full ts0 rs) s := fun s => tsD_congr (fun j r hj _ => h1 j (by have := atR_lt hj; omega))
    rw [e1] at g1 g2 g3
    exact ⟨m, g1, fun i => by rw [← e2]; exact g2 i, g3, g4, g5⟩
  intro fuel
  induction fuel with
  | zero =>
    intro listed a w hlf hd
    refine fin 0 listed a w hlf hd (fun j hj => ?_)
    cases e : done listed j with
    | true => rfl
    | false => have := left_plus (i := j) (N := ops.size) (by omega) e; omega
  | succ fuel ih =>
    intro listed a w hlf hd
    by_cases hall : ∀ j, j < rs.length → done listed j = true
    · exact fin _ listed a w hlf hd hall
    refine ⟨fun hr => absurd (fun j hj => allD hedg listed hd.size hr j (by omega)) hall, fun i hi => ?_⟩
    obtain ⟨hi1, hdi, hwait⟩ := ready_done hd.size hi
    -- those for which it waits are done
    have wait : ∀ j, ((ancs ops.toList []).getD i 0).testBit j = true → done listed j = true := fun j hj => hwait j hj hd.shut
    have hir : i < rs.length := by
      rcases Nat.lt_trichotomy i rs.length with h | h | h
      · exact h
      · exfalso
        rcases hcut with hcut | hcut
        · omega
        · exact hall (fun j hj => wait j (by rw [h]; exact (cutB_spec hcut).1 j hj))
      · exfalso
        rcases hcut with hcut | hcut
        · omega
        · have := wait rs.length ((cutB_spec hcut).2 i h hi1)
          rw [hd.high rs.length (Nat.le_refl _)] at this; cases this
    have hii : i0 ≤ i := by
      rcases Nat.lt_or_ge i i0 with h | h
      · have := hd.low i h; rw [hdi] at this; cases this
      · exact h
    obtain ⟨r, hr⟩ := atR_some (rs := rs) (j := i) hir
    obtain ⟨pre, more, o, hrs, hpl, ho, hok⟩ := chain_at hc hii hr
    have after : ∀ j, ((ancs ops.toList []).getD j 0).testBit i = true → done listed j = false := by
      intro j hj
      cases e : done listed j with
      | false => rfl
      | true => have := hd.shut j e i hj; rw [hdi] at this; cases this
    -- what it looks at is as in the text's order
    have hpre : rs = (more ++ [r]) ++ pre := by rw [hrs]; simp
    let P : Nat → Bool := fun j => decide (j < i)
    have eP1 : tsD n P ts0 rs = tsD n full ts0 pre := by rw [hpre]; exact tsD_pre (fun j hj => by simp [P]; omega) (fun j hj => by simp [P]; omega)
    have eP2 : hD P H0 rs = hD full H0 pre := by rw [hpre]; exact hD_pre (fun j hj => by simp [P]; omega) (fun j hj => by simp [P]; omega)
    have agree : ∀ j s, atR rs j = some s → j = i ∨ (clash r s = true ∨ clash s r = true) → j ≠ i → done listed j = P j := by
      intro j s hj hor hne
      have hcl := clash' hr hj (Ne.symm hne) (hor.resolve_left hne)
      by_cases hlt : j < i
      · rw [wait j (hcl.1 hlt)]; simp [P, hlt]
      · rw [after j (hcl.2 (by omega))]; simp [P, hlt]
    have lookS : ∀ s, s ∈ r.look → tget (tsD n (done listed) ts0 rs) s = tget (tsD n full ts0 pre) s := by
      intro s hs
      rw [← eP1]
      refine tsD_congr (fun j q hj hq => ?_)
      by_cases hji : j = i
      · subst hji; rw [hdi]; simp [P]
      · refine agree j q hj (.inr (.inl ?_)) hji
        unfold clash
        have : hasD q.d r.look = true := by rw [hq]; exact memN_iff.2 hs
        rw [this]; simp
    obtain ⟨hrd, hrl, hor⟩ := hok
    have evS : ∀ x ∈ o.op.operands.toList, ev C (tsD n (done listed) ts0 rs) x = ev C (tsD n full ts0 pre) x := by
      intro x hx
      cases x with
      | tmp s =>
        refine lookS s ?_
        rw [hrl]; unfold lookOf
        refine List.mem_append.2 (.inl ?_)
        have : ∀ {l : List Operand}, Operand.tmp s ∈ l → s ∈ slotsOf l := by
          intro l
          induction l with
          | nil => intro h; simp at h
          | cons y l ih =>
            intro h
            simp only [slotsOf]
            rcases List.mem_cons.1 h with rfl | h
            · exact List.mem_append.2 (.inl (by simp [slotOf]))
            · exact List.mem_append.2 (.inr (ih h))
        exact this hx
      | _ => rfl
    have grd : ∀ j want d, o.guard = some (j, want) → dstOf ops j = some d → tget (tsD n (done listed) ts0 rs) d = tget (tsD n full ts0 pre) d := by
      intro j want d h1 h2
      refine lookS d ?_
      rw [hrl]; unfold lookOf
      rw [h1]; simp only [h2]
      exact List.mem_append.2 (.inr (by simp))
    have hres : ∀ {a' : Act} {w' : World}, Rl C n w0 O (putT n (tsD n (done listed) ts0 rs) r.d r.t) (r.up ++ hD (done listed) H0 rs) a' w' → wpAnyIn (FR ro) 0 C.P .any ops Q fuel (listed.setIfInBounds i true) a' w' := by
      intro a' w' hrl'
      have hds : done (listed.setIfInBounds i true) = plus (done listed) i := done_set (by have := hd.size; omega)
      refine ih _ _ _ (by rw [hds]; have := left_plus hi1 hdi; omega) ⟨by simpa using hd.size, fun q hq j hj => ?_, fun j hj => ?_, fun j hj => ?_, ?_⟩
      · rw [hds] at hq ⊢
        unfold plus at hq ⊢
        split at hq
        · rename_i e; subst e
          split
          · rfl
          · exact wait j hj
        · split
          · rfl
          · exact hd.shut q hq j hj
      · rw [hds]; unfold plus; split
        · rfl
        · exact hd.low j hj
      · rw [hds]; unfold plus; rw [if_neg (by omega)]; exact hd.high j hj
      · rw [hds]
        obtain ⟨m, g1, g2, g3, g4, g5⟩ := hrl'
        have e1 : (hD (plus (done listed) i) H0 rs).get = Hp.get (r.up ++ hD (done listed) H0 rs) := by
          funext q
          refine hD_plus hr (fun j s hj hij h1 h2 => ?_)
          have hcl := clash' hr hj (by omega) (.inl (by
            unfold clash
            have : meets (upKeys r.up) (upKeys s.up) = true := meets_iff.2 ⟨q, h1, h2⟩
            rw [this]; simp))
          exact after j (hcl.2 hij)
        have e2 : ∀ s, tget (tsD n (plus (done listed) i) ts0 rs) s = tget (putT n (tsD n (done listed) ts0 rs) r.d r.t) s := by
          intro s
          refine tsD_plus hr (fun j q hj hji h1 h2 => ?_)
          have hsd : sameD r.d q.d = true ∧ sameD q.d r.d = true := by rw [h1, h2]; simp [sameD]
          rcases Nat.lt_or_ge j i with h | h
          · have := (chkAll_spec hchk i j r q hr hj h).1; rw [hsd.1] at this; cases this
          · have := (chkAll_spec hchk j i q r hj hr (by omega)).1; rw [hsd.2] at this; cases this
        refine ⟨m, by rw [e1]; exact g1, fun s => ?_, by rw [e1]; exact g3, g4, g5⟩
        rw [e2, e1]; exact g2 s
    unfold wpOpIn
    rw [ho]
    simp only
    rcases hor with ⟨hy, ot, hst, hok, ht, hup, hdep⟩ | ⟨hno, ht, hup, hdep⟩
    · have hw : Region.wanted o (yielded ops a.tmps) = true := by
        unfold gYes at hy
        unfold Region.wanted
        split at hy
        · rename_i e; rw [e]
        · rename_i j want e
          rw [e]
          obtain ⟨d, h1, h2⟩ := hy
          rw [← grd j want d e h1] at h2
          simp only [hd.rl.yield h1 h2]
          cases want <;> rfl
      rw [if_pos hw]
      -- the memory that it looks at is as in the text's order
      have hg : stepO C (hD (done listed) H0 rs).get (tsD n (done listed) ts0 rs) (keyOf base o.dst) o.op = some ot := by
        rw [step_congr evS, ← hst]
        refine step_local hL ?_
        rw [← hdep]
        have fact : ∀ q, (∀ j s, atR rs j = some s → q ∈ upKeys s.up → j ≠ i → clash r s = true) → (hD (done listed) H0 rs).get q = (hD full H0 pre).get q := by
          intro q hq
          rw [← eP2]
          refine hD_congr (fun j s hj hs => ?_)
          by_cases hji : j = i
          · subst hji; rw [hdi]; simp [P]
          · exact agree j s hj (.inr (.inl (hq j s hj hs hji))) hji
        split
        · rename_i l el
          intro q hq
          refine fact q (fun j s hj hs hji => ?_)
          unfold clash
          rw [el]
          have hm : meets (upKeys s.up) l = true := meets_iff.2 ⟨q, hs, hq⟩
          cases hu : upKeys s.up with
          | nil => rw [hu] at hs; simp at hs
          | cons x y =>
            rw [hu] at hm
            show (_ || _ || meets (x :: y) l || _ || _) = true
            rw [hm]; simp
        · rename_i el
          intro q
          refine fact q (fun j s hj hs hji => ?_)
          unfold clash
          rw [el]
          cases hu : upKeys s.up with
          | nil => rw [hu] at hs; simp at hs
          | cons x y => simp
      refine step_rl hC hd.rl hg hok (fun a w hr' => hres ?_)
      rw [hrd, ht, hup]; exact hr'
    · have hw : Region.wanted o (yielded ops a.tmps) = false := by
        unfold gNo at hno
        unfold Region.wanted
        split at hno
        · exact hno.elim
        · rename_i j want e
          rw [e]
          obtain ⟨d, h1, h2⟩ := hno
          rw [← grd j want d e h1] at h2
          rcases h2 with h2 | ⟨cs, h2⟩
          · simp only [hd.rl.yield h1 h2]
            cases want <;> rfl
          · simp only [hd.rl.yield0 h1 h2]; rfl
      rw [hw]
      simp only [Bool.false_eq_true, if_false]
      refine ⟨fun _ _ => trivial, hres ?_⟩
      rw [hup, ht, hrd, List.nil_append]
      exact hd.rl.skip _

theorem tsD_dms (D : Nat → Bool) (ts : Sl) : ∀ i, tsD n D ts (dms i) = ts
  | 0 => rfl
  | i + 1 => by simp only [dms, tsD, dm]; rw [tsD_dms D ts i]; split <;> rfl
theorem hD_dms (D : Nat → Bool) (H : Hp) : ∀ i, hD D H (dms i) = H
  | 0 => rfl
  | i + 1 => by simp only [dms, hD, dm]; rw [hD_dms D H i]; split <;> rfl
theorem Rl.congr' {w0 w : World} {O : Env} {ts ts' : Sl} {H H' : Hp} {a : Act} (h : Rl C n w0 O ts H a w) (ht : ∀ s, tget ts' s = tget ts s) (hh : ∀ q, H'.get q = H.get q) : Rl C n w0 O ts' H' a w := by
  obtain ⟨m, g1, g2, g3, g4, g5⟩ := h
  have e : H'.get = H.get := funext hh
  refine ⟨m, by rw [e]; exact g1, fun i => by rw [ht, e]; exact g2 i, by rw [e]; exact g3, g4, g5⟩
/-- Operations in whatever order, from one on for which all wait. -/
theorem seg_ok (hC : C.ok) (hL : C.loc) {rd : Bool} {X : Caller} (hX : XOk C rd X) {ro : Option Nat} (hro : rd = false → ro = none) {K : Sl → Hp → Prop} {Q : Exit → Act → World → Prop} (hQ : ∀ ts H a w, K ts H → Rl C n w0 O ts H a w → Q .normal a w) :
    ∀ (m : Nat) (l : List Oper) (i0 : Nat), l.length ≤ m → ops.toList.drop i0 = l → i0 ≤ ops.size → ∀ (ts : Sl) (H : Hp), dgo C X n base ops (dfin ops K) l ts H (dms i0) →
    ∀ (fuel : Nat) (listed : Array Bool) (a : Act) (w : World), left ops.size (done listed) ≤ fuel → listed.size = ops.size → (∀ j, done listed j = decide (j < i0)) →
      (∀ i, done listed i = true → ∀ j, ((ancs ops.toList []).getD i 0).testBit j = true → done listed j = true) → Rl C n w0 O ts H a w → wpAnyIn (FR ro) 0 C.P .any ops Q fuel listed a w := by
  intro m
  induction m using Nat.strongRecOn with
  | _ m ihm =>
    intro l i0 hl hd hi0 ts H h fuel listed a w hlf hsz hdn hsh hr
    obtain ⟨ts', H', rs, hc, ht, hh, hE⟩ := dgo_run hi0 l ts H (dms i0) h (by rw [dms_len]; exact hd) .nil (fun s => by rw [tsD_dms]) (fun q => by rw [hD_dms])
    have hle := hc.le hi0
    have start : ∀ j, rs.length ≤ j → done listed j = false := fun j hj => by rw [hdn, decide_eq_false (by omega)]
    have hDr : Dr C n w0 O ops ts H i0 rs listed a w := by
      refine ⟨hsz, hsh, fun j hj => by rw [hdn, decide_eq_true hj], start, ?_⟩
      -- those ahead have left nothing here
      have base0 : ∀ {rs : List Rec}, Chain C n base ops ts H i0 rs → tsD n (done listed) ts rs = ts ∧ hD (done listed) H rs = H := by
        intro rs hc
        induction hc with
        | nil => exact ⟨tsD_dms _ _ _, hD_dms _ _ _⟩
        | @cons r2 rs2 o2 hc ho hr ih =>
          have : done listed rs2.length = false := by rw [hdn]; exact decide_eq_false (by have := (hc.le hi0).1; omega)
          simp only [tsD, hD]
          rw [this]
          exact ih
      obtain ⟨e1, e2⟩ := base0 hc
      rw [e1, e2]; exact hr
    rcases hE with ⟨hlen, hF⟩ | ⟨o, l', f, as, tys, hd', hy, hop, hck, hedg, hcb, hXc⟩
    · unfold dfin at hF
      split at hF
      · rename_i e
        rw [Bool.and_eq_true] at e
        refine any_ok hC hL hi0 hc (.inl hlen) (chkAllB_ok (by rw [hlen]; exact e.1)) e.2 (fun fuel listed a w _ hs hd2 _ hr2 => ?_) fuel listed a w hlf hDr
        have hrd : Region.ready .any ops listed = [] := by
          refine List.eq_nil_iff_forall_not_mem.2 (fun i hi => ?_)
          obtain ⟨h1, h2, -⟩ := ready_done hs hi
          rw [hd2, hlen, decide_eq_true h1] at h2; cases h2
        have hq : Q .normal a w := hQ _ _ _ _ hF (hr2.congr' ht hh)
        cases fuel with
        | zero => exact ⟨hrd, hq⟩
        | succ fuel => exact ⟨fun _ => hq, fun i hi => by rw [hrd] at hi; simp at hi⟩
      · exact hF.elim
    · have ho : ops[rs.length]? = some o := by
        rw [← Array.getElem?_toList]
        have : (ops.toList.drop rs.length)[0]? = some o := by rw [hd']; rfl
        rwa [List.getElem?_drop, Nat.add_zero] at this
      have hlt := (Array.getElem?_eq_some_iff.1 ho).1
      have hd2 : ops.toList.drop (rs.length + 1) = l' := by rw [← List.drop_drop, hd']; rfl
      refine any_ok hC hL hi0 hc (.inr hcb) hck hedg (fun fuel listed a w hlf hs hdn2 hsh2 hr2 => ?_) fuel listed a w hlf hDr
      have hno : done listed rs.length = false := by rw [hdn2]; exact decide_eq_false (by omega)
      cases fuel with
      | zero => have := left_plus hlt hno; omega
      | succ fuel =>
        refine ⟨fun hrd => ?_, fun i hi => ?_⟩
        · have := allD hedg listed hs hrd rs.length hlt; rw [hno] at this; cases this
        obtain ⟨h1, h2, hwait⟩ := ready_done hs hi
        have hi' : i = rs.length := by
          rcases Nat.lt_trichotomy i rs.length with h | h | h
          · rw [hdn2, decide_eq_true h] at h2; cases h2
          · exact h
          · have := hwait rs.length ((cutB_spec hcb).2 i h h1) hsh2
            rw [hno] at this; cases this
        subst hi'
        unfold wpOpIn
        rw [ho]
        simp only
        have hr3 : Rl C n w0 O ts' H' a w := hr2.congr' ht hh
        have hw : Region.wanted o (yielded ops a.tmps) = true := by
          unfold gYes at hy
          unfold Region.wanted
          split at hy
          · rename_i e; rw [e]
          · rename_i j want e
            rw [e]
            obtain ⟨d, h1, h2⟩ := hy
            rw [← ht] at h2
            simp only [hr3.yield h1 h2]
            cases want <;> rfl
        rw [if_pos hw]
        refine hX _ _ _ _ _ _ hXc ro hro n w0 O a w hr3 o f as tys hop rfl rfl _ _ (fun t ts2 H2 v w' hK hv => ?_)
        rw [fP_eq] at hK
        obtain ⟨_, _, _, _, _, h5⟩ := hr3
        have hds : done (listed.setIfInBounds rs.length true) = plus (done listed) rs.length := done_set (by omega)
        have hlen' : l.length = ops.size - i0 := by rw [← hd, List.length_drop, Array.length_toList]
        refine ihm (ops.size - (rs.length + 1)) (by omega) l' (rs.length + 1) (by rw [← hd2, List.length_drop, Array.length_toList]; exact Nat.le_refl _) hd2 (by omega) _ _ hK fuel _ _ _ (by rw [hds]; have := left_plus hlt hno; omega) (by simpa using hs) (fun j => ?_) (fun q hq j hj => ?_) (hv.put h5 _)
        · rw [hds]; unfold plus
          by_cases e : j = rs.length
          · rw [if_pos e, decide_eq_true (by omega)]
          · rw [if_neg e, hdn2]
            by_cases e2 : j < rs.length
            · rw [decide_eq_true e2, decide_eq_true (by omega)]
            · rw [decide_eq_false e2, decide_eq_false (by omega)]
        · rw [hds] at hq ⊢
          unfold plus at hq ⊢
          split at hq
          · rename_i e; subst e
            split
            · rfl
            · exact hwait j hj hsh2
          · split
            · rfl
            · exact hsh2 q hq j hj
end
end Go.Proofs.YtnplgklnkcjmnaaGreatDoor.Am
namespace Go.Proofs.YtnplgklnkcjmnaaGreatDoor.Am
set_option linter.unusedVariables false
set_option linter.unusedSimpArgs false
open Go.RowKit

/-- What is told of slots is cut down to those of a list (an empty list: none is cut). -/
def fPr : List Nat → Sl → (Sl → Prop) → Prop
  | [], _, K => K []
  | i :: r, ts, K => fT (tget ts i) fun t => match t with
    | .dead => fPr r ts K
    | t => fPr r ts fun ts' => K ((i, t) :: ts')
def fPr0 (lv : List Nat) (ts : Sl) (K : Sl → Prop) : Prop := match lv with
  | [] => K ts
  | i :: r => fPr (i :: r) ts K
/-- What a test has looked at is let go. -/
def cset (c : Operand) (b : Bool) (ts : Sl) : Sl := match c with
  | .tmp t => (t, .v (.bool b)) :: ts
  | _ => ts
abbrev VC := Nat → Nat → Bool → List Nat → Code → Sl → Hp → (Exit → Sl → Hp → Prop) → Prop
def scpK (V : Code → Sl → Hp → (Exit → Sl → Hp → Prop) → Prop) (b : Code) (K : Exit → Sl → Hp → Prop) : Exit → Sl → Hp → Prop
  | .goto l, ts, H => match findLabel b l with
    | some rest => V rest ts H (fun e ts H => match e with
      | .goto _ => False
      | e => K e ts H)
    | none => False
  | e, ts, H => K e ts H
/-- Code, by what its operations leave. X: what is made of calls; V: of the code behind a label; RF: of loops over functions. -/
noncomputable def vcB (C : Ctx) (X : Caller) (V : VC) (RF : Operand → Array Tmp → Code → Code → Sl → Hp → (Exit → Sl → Hp → Prop) → Prop) (n base : Nat) (rd : Bool) (lv : List Nat) (c : Code) : Sl → Hp → (Exit → Sl → Hp → Prop) → Prop :=
  @Code.rec (fun _ => Sl → Hp → (Exit → Sl → Hp → Prop) → Prop)
    (fun ts H K => K .normal ts H)
    (fun _ ops draw ts H K => match draw with
      | false => rgo C X n base ops ops.toList ts H (fun ts H => fPr0 lv ts fun ts => K .normal ts H)
      | true => dgo C X n base ops (dfin ops fun ts H => fPr0 lv ts fun ts => K .normal ts H) ops.toList ts H [])
    (fun _ _ ra rb ts H K => ra ts H (seqK (fun ts H => rb ts H K) K))
    (fun c _ _ rx ry ts H K => match ev C ts c with
      | .v (.bool b) => ifB b (rx (cset c true ts) H K) (ry (cset c false ts) H K)
      | _ => False)
    (fun id _ rc ts H K => rc ts H (blkK id K))
    (fun b _ ts H K => TW C n rd (.loop b) ts H K)
    (fun f ps a b _ _ ts H K => RF f ps a b ts H K)
    (fun id ts H K => K (.exit id) ts H)
    (fun b rc ts H K => rc ts H (scpK (V n base rd lv) b K))
    (fun _ ts H K => K .normal ts H)
    (fun l ts H K => K (.goto l) ts H)
    (fun ts H K => K .ret ts H)
    (fun y ts H K => TW C n rd (.refuse y) ts H K) c

def isDeadK (H : Hp) (k : Nat) : Bool := match H.get k with
  | none => true
  | some .gone => true
  | _ => false
def idB (g : Option Blk) (id : Nat) : Bool := match g with
  | some (.gh j _) => Nat.beq j id
  | some (.lp j _ _ _ _ _ _ _ _) => Nat.beq j id
  | _ => false
def lpB (g : Option Blk) : Bool := match g with
  | some (.lp _ _ _ _ _ _ _ _ _) => true
  | _ => false
/-- No frame that waits bears this name. -/
def noId (H : Hp) (id : Nat) : Hp → Bool
  | [] => true
  | (k, b) :: r => match idB (some b) id with
    | true => match idB (H.get k) id with
      | true => false
      | false => noId H id r
    | false => noId H id r
/-- There is no loop over a function. -/
def noLp (H : Hp) : Hp → Bool
  | [] => true
  | (k, b) :: r => match lpB (some b) with
    | true => match lpB (H.get k) with
      | true => false
      | false => noLp H r
    | false => noLp H r
/-- The loop over a function that there is. -/
def lpOf (H : Hp) : Hp → Option Nat
  | [] => none
  | (k, b) :: r => match lpB (some b) with
    | true => match lpB (H.get k) with
      | true => some k
      | false => lpOf H r
    | false => lpOf H r
def inlLook : List Inl → FuncId → Option Inl
  | [], _ => none
  | i :: r, f => match Nat.beq i.f f with
    | true => some i
    | false => inlLook r f
/-- A function that was walked where it was called has come to its end: on in the frame that waited. -/
def retX (C : Ctx) (fn : Func) (gk : Nat) (K : T → Sl → Hp → Prop) : T → Hp → Prop := fun t H => match H.get gk with
  | some (.gh id ts') => match Nat.beq id gk && noId ((gk, .gone) :: H) gk H with
    | true => K t ts' ((gk, .gone) :: H)
    | false => False
  | _ => False
/-- Slots of a round: what yield was handed. -/
def parS (n : Nat) : List Nat → List T → Sl → Option Sl
  | [], [], ts => some ts
  | p :: ps, t :: r, ts => match Nat.blt p n with
    | true => parS n ps r ((p, t) :: ts)
    | false => none
  | _, _, _ => none
/-- A round has come to its end. -/
def rndK (l0 kl gk : Nat) (K : T → Sl → Hp → Prop) : Exit → Sl → Hp → Prop := fun e _ H => match H.get kl, H.get gk with
  | some (.lp id l .busy none n ts ps asg body), some (.gh j ts') => match Nat.beq j gk && noId ((gk, .gone) :: H) gk H && noLp ((kl, .gone) :: (gk, .gone) :: H) H && !Nat.beq gk kl with
    | true => match e with
      | .normal => l = l0 ∧ K (.v (.bool true)) ts' ((kl, .lp id l .ready none n ts ps asg body) :: (gk, .gone) :: H)
      | .ret => l = l0 ∧ K (.v (.bool false)) ts' ((kl, .lp id l .done (some .ret) n ts ps asg body) :: (gk, .gone) :: H)
      | .exit q => l = l0 ∧ K (.v (.bool false)) ts' ((kl, .lp id l .done (some (.exit q)) n ts ps asg body) :: (gk, .gone) :: H)
      | .goto q => l = l0 ∧ K (.v (.bool false)) ts' ((kl, .lp id l .done (some (.goto q)) n ts ps asg body) :: (gk, .gone) :: H)
      | _ => False
    | false => False
  | _, _ => False
/-- Ahead of a round's body: the loop is busy. -/
def begK (V : VC) (n l0 kl gk base : Nat) (bd : Code) (K : T → Sl → Hp → Prop) : Exit → Sl → Hp → Prop
  | .normal, ts, H => match H.get kl with
    | some (.lp id l .ready none n' ts' ps asg body) => match noLp ((kl, .gone) :: H) H with
      | true => l = l0 ∧ V n base true [] bd ts ((kl, .lp id l .busy none n' ts' ps asg body) :: H) (rndK l0 kl gk K)
      | false => False
    | _ => False
  | _, _, _ => False
def calY (C : Ctx) (V : VC) : Caller := fun fv args key ts H K => match fnOf fv with
  | some (f, pre, post) => match inlLook C.inl f with
    | some i => match isDeadK H ((key + 1) * 4096) && noId H ((key + 1) * 4096) H && Nat.ble (pre ++ args ++ post).length i.fn.ntmps with
      | true => V i.fn.ntmps ((key + 1) * 4096 + 8) false i.lv i.c (slots 0 (pre ++ args ++ post)) (((key + 1) * 4096, .gh ((key + 1) * 4096) ts) :: H) (retK C i.fn (fun t H => fT t fun t => retX C i.fn ((key + 1) * 4096) K t H))
      | false => False
    | none => False
  | none => match fv with
    | .fn (.yield l) [] [] => match lpOf H H with
      | some kl => match H.get kl with
        | some (.lp id l' .ready none n' ts' ps asg body) => match isDeadK H ((key + 1) * 4096) && noId H ((key + 1) * 4096) H && !Nat.beq kl ((key + 1) * 4096) with
          | true => match parS n' ps.toList args ts' with
            | some ts1 => l' = l ∧ V n' ((key + 1) * 4096 + 8) true [] asg ts1 (((key + 1) * 4096, .gh ((key + 1) * 4096) ts) :: H) (begK V n' l kl ((key + 1) * 4096) ((key + 1) * 4096 + 8) body K)
            | none => False
          | false => False
        | _ => False
      | none => False
    | _ => False
/-- The same, with key and arguments laid out. -/
def calX (C : Ctx) (V : VC) : Caller := fun fv args key ts H K => fN key fun key => fTs args fun args => calY C V fv args key ts H K
/-- The function that was looped over has come to its end. -/
def retR (l0 kl : Nat) (K : Exit → Sl → Hp → Prop) : T → Hp → Prop := fun _ H => match H.get kl with
  | some (.lp id l st pe _ ts' _ _ _) => match Nat.beq id kl && noId ((kl, .gone) :: H) kl H && noLp ((kl, .gone) :: H) H with
    | true => match st with
      | .ready => match pe with
        | none => l = l0 ∧ K .normal ts' ((kl, .gone) :: H)
        | some _ => False
      | .done => match pe with
        | some .ret => l = l0 ∧ K .ret ts' ((kl, .gone) :: H)
        | some (.exit q) => l = l0 ∧ K (.exit q) ts' ((kl, .gone) :: H)
        | some (.goto q) => l = l0 ∧ K (.goto q) ts' ((kl, .gone) :: H)
        | _ => False
      | _ => False
    | false => False
  | _ => False
def rngX (C : Ctx) (V : VC) (n base : Nat) (rd : Bool) : Operand → Array Tmp → Code → Code → Sl → Hp → (Exit → Sl → Hp → Prop) → Prop := fun f ps asg body ts H K => match rd with
  | true => False
  | false => match fnOf (ev C ts f) with
    | some (g, pre, post) => match inlLook C.inl g with
      | some i => match isDeadK H (base + 4 * n) && noId H (base + 4 * n) H && noLp H H && Nat.ble (pre.length + 1 + post.length) i.fn.ntmps with
        | true => ∀ l : Nat, V i.fn.ntmps ((base + 4 * n + 1) * 4096 + 8) false i.lv i.c (slots 0 (pre ++ [.fn (.yield l) [] []] ++ post)) ((base + 4 * n, .lp (base + 4 * n) l .ready none n ts ps asg body) :: H) (retK C i.fn (retR l (base + 4 * n) K))
        | false => False
      | none => False
    | none => False
/-- Code, by what its operations leave; functions of the list are walked where they are called, so deep. -/
noncomputable def vcL (C : Ctx) (d : Nat) : VC :=
  @Nat.rec (fun _ => VC)
    (fun n base rd lv c => vcB C (fun _ _ _ _ _ _ => False) (fun _ _ _ _ _ _ _ _ => False) (fun _ _ _ _ _ _ _ => False) n base rd lv c)
    (fun _ V n base rd lv c => vcB C (calX C V) V (rngX C V n base rd) n base rd lv c) d

structure Ctx.good (C : Ctx) : Prop where
  ok : C.ok
  loc : C.loc
  mixed : C.P.follows .mixedOrders = true
  glq : C.glq

/-! ### soundness -/
theorem fPr_spec {ts : Sl} : ∀ {lv : List Nat} {K : Sl → Prop}, fPr lv ts K → ∃ ts', K ts' ∧ ∀ i, tget ts' i = .dead ∨ tget ts' i = tget ts i := by
  intro lv
  induction lv with
  | nil => intro K h; exact ⟨[], h, fun _ => .inl rfl⟩
  | cons i r ih =>
    intro K h
    rw [fPr, fT_eq] at h
    have keep : ∀ t, t = tget ts i → (fPr r ts fun ts' => K ((i, t) :: ts')) → ∃ ts', K ts' ∧ ∀ i, tget ts' i = .dead ∨ tget ts' i = tget ts i := by
      intro t ht h
      obtain ⟨ts', h1, h2⟩ := ih h
      refine ⟨_, h1, fun j => ?_⟩
      simp only [tget]
      cases e : Nat.beq i j
      · exact h2 j
      · have := Nat.eq_of_beq_eq_true e; subst this; exact .inr ht
    split at h
    · exact ih h
    · exact keep _ rfl h
theorem fPr0_spec {ts : Sl} {lv : List Nat} {K : Sl → Prop} (h : fPr0 lv ts K) : ∃ ts', K ts' ∧ ∀ i, tget ts' i = .dead ∨ tget ts' i = tget ts i := by
  unfold fPr0 at h
  split at h
  · exact ⟨ts, h, fun _ => .inr rfl⟩
  · exact fPr_spec h
theorem Rl.cut {C : Ctx} {n : Nat} {w0 w : World} {O : Env} {ts ts' : Sl} {H : Hp} {a : Act} (h : Rl C n w0 O ts H a w) (hc : ∀ i, tget ts' i = .dead ∨ tget ts' i = tget ts i) : Rl C n w0 O ts' H a w := by
  obtain ⟨m, h1, h2, h3, h4, h5⟩ := h
  refine ⟨m, h1, fun i => ?_, h3, h4, h5⟩
  rcases hc i with e | e <;> rw [e]
  · exact .dead
  · exact h2 i
theorem get_mem {H : Hp} {k : Nat} {b : Blk} (h : H.get k = some b) : (k, b) ∈ H := by
  induction H with
  | nil => cases h
  | cons p H ih =>
    obtain ⟨j, c⟩ := p
    simp only [Hp.get] at h
    cases e : Nat.beq j k
    · rw [e] at h; exact List.mem_cons_of_mem _ (ih h)
    · rw [e] at h; cases h; have := Nat.eq_of_beq_eq_true e; subst this; exact List.mem_cons_self ..
theorem noId_spec {H : Hp} {id : Nat} (h : noId H id H = true) {k : Nat} {b : Blk} (hk : H.get k = some b) : idB (some b) id = false := by
  have key : ∀ l : Hp, noId H id l = true → (k, b) ∈ l → idB (some b) id = false := by
    intro l
    induction l with
    | nil => intro _ hm; simp at hm
    | cons p l ih =>
      obtain ⟨j, c⟩ := p
      intro hn hm
      simp only [noId] at hn
      rcases List.mem_cons.1 hm with hm | hm
      · cases hm
        rw [hk] at hn
        cases e : idB (some b) id
        · rfl
        · rw [e] at hn; cases hn
      · refine ih ?_ hm
        split at hn
        · split at hn
          · cases hn
          · exact hn
        · exact hn
  exact key H h (get_mem hk)
theorem noLp_spec {H : Hp} (h : noLp H H = true) {k : Nat} {b : Blk} (hk : H.get k = some b) : lpB (some b) = false := by
  have key : ∀ l : Hp, noLp H l = true → (k, b) ∈ l → lpB (some b) = false := by
    intro l
    induction l with
    | nil => intro _ hm; simp at hm
    | cons p l ih =>
      obtain ⟨j, c⟩ := p
      intro hn hm
      simp only [noLp] at hn
      rcases List.mem_cons.1 hm with hm | hm
      · cases hm
        rw [hk] at hn
        cases e : lpB (some b)
        · rfl
        · rw [e] at hn; cases hn
      · refine ih ?_ hm
        split at hn
        · split at hn
          · cases hn
          · exact hn
        · exact hn
  exact key H h (get_mem hk)
theorem get_cons (k : Nat) (b : Blk) (H : Hp) : Hp.get ((k, b) :: H) = upd H.get [(k, b)] := get_append [(k, b)] H

section
variable {w0 w : World} {O : Env} {m : Nat → Option Nat} {g : Mem}
def isG : Blk → Bool
  | .fl _ _ => false
  | .cs _ => false
  | .mp _ _ _ => false
  | _ => true
theorem isG_len {b : Blk} (h : isG b = true) : b.len? = none := by cases b <;> first | rfl | cases h
theorem BV_of_GV {I : Nat → Prop} {L : Nat → Option (Option Nat)} {b : Blk} (h : isG b = true) (hv : GV O w I m L b) (q : Option Nat) : BV O w I m L b q := by
  cases b <;> first | (cases h; done) | (cases q <;> exact hv)
theorem GV_of_BV {I : Nat → Prop} {L : Nat → Option (Option Nat)} {b : Blk} (h : isG b = true) {q : Option Nat} (hv : BV O w I m L b q) : GV O w I m L b := by
  cases b <;> first | (cases h; done) | (cases q <;> exact hv)
theorem HR.gv (h : HR w0 w O m g) {k : Nat} {b : Blk} (hk : g k = some b) (hb : isG b = true) : GV O w (Im m g) m (lens g) b := GV_of_BV hb (h.blk k b hk)
/-- At this key there is nothing that is pointed to. -/
def Free (g : Mem) (k : Nat) : Prop := ∀ b, g k = some b → b.len? = none
theorem Goes.addG (w : World) (m : Nat → Option Nat) {k : Nat} (hk : Free g k) {b : Blk} (hb : isG b = true) : Goes w w (Im m g) (Im m (upd g [(k, b)])) m m (lens g) (lens (upd g [(k, b)])) := by
  refine ⟨⟨fun c hc hI ho => ?_, Nat.le_refl _, fun _ _ _ _ => rfl, fun j s hs => ?_, fun _ _ hr => hr⟩, fun _ _ ho _ => ho⟩
  · obtain ⟨j, l, hj, e⟩ := ho
    rw [lens_upd] at hj
    by_cases hkj : k = j
    · rw [if_pos hkj, isG_len hb] at hj; cases hj
    · rw [if_neg hkj] at hj; exact hI ⟨j, l, hj, e⟩
  · rw [lens_upd]
    by_cases hkj : k = j
    · rw [if_pos hkj, isG_len hb]; exact .inl rfl
    · rw [if_neg hkj]
      cases s with
      | none => exact .inl hs
      | some l => exact .inr ⟨l, rfl, hs, rfl⟩
theorem HR.addG (h : HR w0 w O m g) {k : Nat} (hk : Free g k) {b : Blk} (hb : isG b = true) (hv : GV O w (Im m (upd g [(k, b)])) m (lens (upd g [(k, b)])) b) : HR w0 w O m (upd g [(k, b)]) := by
  have hlen : ∀ j s, lens (upd g [(k, b)]) j = some (some s) → lens g j = some (some s) := fun j s hj => by
    rw [lens_upd] at hj
    by_cases hkj : k = j
    · rw [if_pos hkj, isG_len hb] at hj; cases hj
    · rwa [if_neg hkj] at hj
  refine h.change h.fr (Goes.addG w m hk hb) (fun j c hj => ?_) (fun j j' l l' n hj hj' => h.inj _ _ _ _ _ (hlen _ _ hj) (hlen _ _ hj')) (fun j l n hj => h.new _ _ _ (hlen _ _ hj))
  rw [upd_one] at hj
  by_cases hkj : k = j
  · rw [if_pos hkj] at hj; cases hj; right; exact BV_of_GV hb hv _
  · rw [if_neg hkj] at hj; left; exact ⟨hj, fun l hl => ⟨rfl, fun n hn => ⟨fun _ => rfl, fun _ => rfl, fun _ hr => hr, rfl⟩⟩⟩
theorem HR.env (h : HR w0 w O m g) {O' : Env} (hp : O'.p = O.p) (hb0 : O'.b0 = O.b0) (hlo : O.b0 ≤ O'.lo ∧ O'.lo ≤ w.heap.size) (hv : ∀ k b, g k = some b → isG b = true → ∀ id, idB (some b) id = true → O'.gh id = O.gh id) : HR w0 w O' m g := by
  refine ⟨⟨h.fr.os, h.fr.tape, h.fr.output, h.fr.size, fun b hb ho => h.fr.block b hb (by rwa [hp] at ho)⟩, ⟨by rw [hb0]; exact h.lo.1, by rw [hb0]; exact hlo.1, hlo.2⟩, fun k b hk => ?_, h.inj, fun k l n hk hm => by rw [hp]; exact h.new k l n hk hm⟩
  have hb := h.blk k b hk
  cases b with
  | fl ks xs => cases e : m k <;> (rw [e] at hb; exact hb)
  | cs cs => cases e : m k <;> (rw [e] at hb; exact hb)
  | mp kk vk es => cases e : m k <;> (rw [e] at hb; exact hb)
  | gone => cases m k <;> trivial
  | gh id ts =>
    have e := hv k _ hk rfl id (by simp [idB])
    have : FV w (Im m g) m (lens g) ts (O.gh id) := GV_of_BV (b := .gh id ts) rfl hb
    refine BV_of_GV (b := .gh id ts) rfl (show FV w (Im m g) m (lens g) ts (O'.gh id) from ?_) _
    rw [e]; exact this
  | lp id l st pe n ts ps asg body =>
    have e := hv k _ hk rfl id (by simp [idB])
    have : FV w (Im m g) m (lens g) ts (O.gh id) ∧ ((O.gh id).tmps.size = n ∧ O.b0 ≤ l) ∧ ∃ fn D, w.heap[l]? = some (.loop { state := st, pending := pe, fn := fn, tmps := (O.gh id).tmps, params := ps, assign := asg, body := body, defers := D }) := GV_of_BV (b := .lp id l st pe n ts ps asg body) rfl hb
    refine BV_of_GV (b := .lp id l st pe n ts ps asg body) rfl (show FV w (Im m g) m (lens g) ts (O'.gh id) ∧ ((O'.gh id).tmps.size = n ∧ O'.b0 ≤ l) ∧ ∃ fn D, w.heap[l]? = some (.loop { state := st, pending := pe, fn := fn, tmps := (O'.gh id).tmps, params := ps, assign := asg, body := body, defers := D }) from ?_) _
    rw [e, hb0]; exact this
end
theorem isDeadK_free {H : Hp} {k : Nat} (h : isDeadK H k = true) : Free H.get k := by
  intro b hb
  unfold isDeadK at h
  rw [hb] at h
  cases b <;> first | rfl | cases h
theorem fnOf_ok {w : World} {I : Nat → Prop} {m : Nat → Option Nat} {L : Nat → Option (Option Nat)} {fv : T} {v : Value} {f : FuncId} {pre post : List T} (h : TV w I m L fv v) (e : fnOf fv = some (f, pre, post)) :
    ∃ vpre vpost : Array Value, v = .func (.func f) vpre vpost ∧ TVs w I m L pre vpre.toList ∧ TVs w I m L post vpost.toList := by
  unfold fnOf at e
  split at e
  · obtain ⟨h1, -⟩ := h.v_inv; cases e; exact ⟨#[], #[], h1, .nil, .nil⟩
  · cases e; cases h with | fn h1 h2 => exact ⟨_, _, rfl, h1, h2⟩
  · cases e
theorem inlLook_mem {l : List Inl} {f : FuncId} {i : Inl} (h : inlLook l f = some i) : i ∈ l ∧ i.f = f := by
  induction l with
  | nil => cases h
  | cons a l ih =>
    simp only [inlLook] at h
    split at h
    · rename_i hb; cases h; exact ⟨List.mem_cons_self .., Nat.eq_of_beq_eq_true hb⟩
    · obtain ⟨h1, h2⟩ := ih h; exact ⟨List.mem_cons_of_mem _ h1, h2⟩
/-- The frames that wait, and one more. -/
def Env.push (O : Env) (id : Nat) (a : Act) (lo : Nat) (h1 : O.lo ≤ lo) (h2 : ∀ d D, d ∈ a.defers → d.target = .collected D → D < lo) : Env :=
  ⟨O.p, fun j => if j = id then a else O.gh j, O.b0, lo, fun j d D hd ht => by
    by_cases e : j = id
    · simp only [e, if_true] at hd; exact h2 d D hd ht
    · simp only [e, if_false] at hd; exact Nat.lt_of_lt_of_le (O.hi j d D hd ht) h1⟩
theorem Mk.lt {w : World} {ds : List Deferred} (h : Mk w ds) : ∀ d D, d ∈ ds → d.target = .collected D → D < w.heap.size := by
  induction ds with
  | nil => intro d D hd; simp at hd
  | cons e ds ih =>
    obtain ⟨⟨D', h1, h2, _⟩, h3⟩ := h
    intro d D hd ht
    rcases List.mem_cons.1 hd with rfl | hd
    · rw [h1] at ht; cases ht; exact (Array.getElem?_eq_some_iff.1 h2).1
    · exact ih h3 d D hd ht
theorem no_id {H : Hp} {id : Nat} (h : noId H id H = true) {k : Nat} {b : Blk} (hk : H.get k = some b) {j : Nat} (hj : idB (some b) j = true) : j ≠ id := by
  intro e; subst e
  rw [noId_spec h hk] at hj; cases hj

def VOk (C : Ctx) (V : VC) : Prop := ∀ n base rd lv c ts H K, V n base rd lv c ts H K → TW C n rd c ts H K
section
variable {C : Ctx} {V : VC}
theorem TVs.glq {w w' : World} {I I' : Nat → Prop} {m m' : Nat → Option Nat} {L L' : Nat → Option (Option Nat)} (G : Goes w w' I I' m m' L L') {ts : Sl} {a : Act} (h : AT w I m L ts a) : AT w' I' m' L' ts a := h.goes G

/-- A call that is walked. -/
theorem calX_fn (hV : VOk C V) {key : Nat} {args : List T} {ts : Sl} {H : Hp} {K : T → Sl → Hp → Prop} {n : Nat} {w0 : World} {O : Env} {a : Act} {w : World} (hr : Rl C n w0 O ts H a w) {i : Inl} (hi : i ∈ C.inl) {vs : List Value}
    (hc : (isDeadK H ((key + 1) * 4096) && noId H ((key + 1) * 4096) H && Nat.ble args.length i.fn.ntmps) = true)
    (h : V i.fn.ntmps ((key + 1) * 4096 + 8) false i.lv i.c (slots 0 args) (((key + 1) * 4096, .gh ((key + 1) * 4096) ts) :: H) (retK C i.fn (fun t H => fT t fun t => retX C i.fn ((key + 1) * 4096) K t H)))
    (ha : ∀ m, HR w0 w O m H.get → AT w (Im m H.get) m (lens H.get) ts a → GlOk C w (Im m H.get) m (lens H.get) → TVs w (Im m H.get) m (lens H.get) args vs) {R : Value → World → Prop}
    (hn : ∀ t ts' H' v w', K t ts' H' → Rv C w0 O ts' H' a w' t v → R v w') : Calls C.P i.f vs.toArray w fun e w' => ∃ v, e = .returned v ∧ R v w' := by
  obtain ⟨gk, hgk⟩ : ∃ gk, (key + 1) * 4096 = gk := ⟨_, rfl⟩
  rw [hgk] at h hc
  simp only [Bool.and_eq_true] at hc
  obtain ⟨⟨c1, c2⟩, c3⟩ := hc
  have c3 := Nat.le_of_ble_eq_true c3
  obtain ⟨m, h1, h2, h3, h4, h5⟩ := hr
  have hfree := isDeadK_free c1
  have G := Goes.addG w m hfree (b := .gh gk ts) rfl
  have hlt := h4.1.lt
  let O' : Env := O.push gk a w.heap.size h1.lo.2.2 hlt
  have e1 : HR w0 w O' m H.get := h1.env rfl rfl ⟨Nat.le_trans h1.lo.2.1 h1.lo.2.2, Nat.le_refl _⟩ (fun k b hk _ id hid => by
    show (if id = gk then a else O.gh id) = _
    rw [if_neg (no_id c2 hk hid)])
  have e2 : HR w0 w O' m (Hp.get ((gk, .gh gk ts) :: H)) := by
    rw [get_cons]
    refine e1.addG hfree rfl ?_
    show FV w _ m _ ts (if gk = gk then a else O.gh gk)
    rw [if_pos rfl]
    exact ⟨h2.goes G, h4.1⟩
  have ok := C.hinl i hi
  refine (calls_ok ok.hf ok.hb e2 (by rw [get_cons]; simpa using (ha m h1 h2 h3).goes G) (by rw [get_cons]; exact h3.goes G) c3 (hV _ _ _ _ _ _ _ _ h)).mono ?_
  rintro e w' ⟨v, t, H', m', rfl, hR, g1, g2, g3⟩
  rw [fT_eq] at hR
  unfold retX at hR
  split at hR
  · rename_i id ts' eg
    split at hR
    · rename_i hcc
      simp only [Bool.and_eq_true] at hcc
      have hid := Nat.eq_of_beq_eq_true hcc.1
      subst hid
      have hfv : FV w' (Im m' H'.get) m' (lens H'.get) ts' (if id = id then a else O.gh id) := g1.gv eg rfl
      rw [if_pos rfl] at hfv
      have hfr : Free H'.get id := fun b hb => by rw [eg] at hb; cases hb; rfl
      have G' := Goes.addG w' m' hfr (b := .gone) rfl
      have q1 : HR w0 w' O' m' (upd H'.get [(id, .gone)]) := g1.addG hfr rfl trivial
      rw [← get_cons] at q1 G'
      refine ⟨v, rfl, hn t ts' _ v w' hR ⟨m', q1.env rfl rfl ⟨h1.lo.2.1, Nat.le_trans h1.lo.2.2 g1.lo.2.2⟩ (fun k b hk _ j hj => ?_), AT.goes G' hfv.1, g2.goes G', ⟨hfv.2, h4.2⟩, g3.goes G'⟩⟩
      show _ = (if j = id then a else O.gh j)
      rw [if_neg (no_id hcc.2 hk hj)]
    · exact hR.elim
  · exact hR.elim
end
section
variable {C : Ctx} {V : VC} {w0 : World} {O : Env}
theorem Goes0.then {w1 w2 w3 : World} {I1 I2 I3 : Nat → Prop} {m1 m2 m3 : Nat → Option Nat} {L1 L2 L3 : Nat → Option (Option Nat)} (h : Goes0 w1 w2 I1 I2 m1 m2 L1 L2) (k : Goes0 w2 w3 I2 I3 m2 m3 L2 L3) : Goes0 w1 w3 I1 I3 m1 m3 L1 L3 := by
  refine ⟨fun b hb hI => k.imm b (Nat.lt_of_lt_of_le hb h.size) (h.imm b hb hI), Nat.le_trans h.size k.size, fun b o hb hI => (k.cell b o (Nat.lt_of_lt_of_le hb h.size) (h.imm b hb hI)).trans (h.cell b o hb hI), fun j s hs => ?_, fun b n hr => k.room _ _ (h.room _ _ hr)⟩
  rcases h.own j s hs with e | ⟨l, rfl, e, em⟩
  · rcases k.own j _ e with e' | ⟨l, e', _⟩
    · exact .inl e'
    · cases e'
  · rcases k.own j _ e with e' | ⟨l', e', e2, em'⟩
    · exact .inl e'
    · cases e'; exact .inr ⟨l, rfl, e2, em'.trans em⟩
theorem Mk.loop {w : World} {l : Nat} {r : Loop} {ob' : Obj} (hl : w.heap[l]? = some (.loop r)) {ds : List Deferred} (h : Mk w ds) : Mk (w.putObj l ob') ds := by
  induction ds with
  | nil => trivial
  | cons d ds ih =>
    obtain ⟨⟨D, h1, h3, h4⟩, h5⟩ := h
    have : D ≠ l := fun e => by subst e; rw [hl] at h3; cases h3
    exact ⟨⟨D, h1, (World.putObj_heap_other this).trans h3, h4⟩, ih h5⟩
/-- The record of the loop over a function is let go: what is known besides stays, whatever becomes of the record. -/
theorem drop_lp {w : World} {m : Nat → Option Nat} {H : Hp} (h : HR w0 w O m H.get) {kl id l : Nat} {st : LoopState} {pe : Option Code} {n : Nat} {ts : Sl} {ps : Array Tmp} {asg body : Code} (hk : H.get kl = some (.lp id l st pe n ts ps asg body)) (hno : noLp ((kl, .gone) :: H) H = true) (r' : Loop) :
    ∃ fn D, w.heap[l]? = some (.loop { state := st, pending := pe, fn := fn, tmps := (O.gh id).tmps, params := ps, assign := asg, body := body, defers := D }) ∧
      HR w0 (w.putObj l (.loop r')) O m (Hp.get ((kl, .gone) :: H)) ∧ Goes0 w (w.putObj l (.loop r')) (Im m H.get) (Im m (Hp.get ((kl, .gone) :: H))) m m (lens H.get) (lens (Hp.get ((kl, .gone) :: H))) ∧
      FV (w.putObj l (.loop r')) (Im m (Hp.get ((kl, .gone) :: H))) m (lens (Hp.get ((kl, .gone) :: H))) ts (O.gh id) ∧ (O.gh id).tmps.size = n ∧ O.b0 ≤ l ∧ l < w.heap.size := by
  obtain ⟨⟨f1, f2⟩, ⟨f3, f5⟩, fn, D, f4⟩ : FV w (Im m H.get) m (lens H.get) ts (O.gh id) ∧ ((O.gh id).tmps.size = n ∧ O.b0 ≤ l) ∧ ∃ fn D, w.heap[l]? = some (.loop { state := st, pending := pe, fn := fn, tmps := (O.gh id).tmps, params := ps, assign := asg, body := body, defers := D }) := h.gv hk rfl
  have hfr : Free H.get kl := fun b hb => by rw [hk] at hb; cases hb; rfl
  have G1 := Goes.addG w m hfr (b := .gone) rfl
  have q1 : HR w0 w O m (upd H.get [(kl, .gone)]) := h.addG hfr rfl trivial
  rw [← get_cons] at q1 G1
  have G2 : Goes0 w (w.putObj l (.loop r')) (Im m (Hp.get ((kl, .gone) :: H))) (Im m (Hp.get ((kl, .gone) :: H))) m m (lens (Hp.get ((kl, .gone) :: H))) (lens (Hp.get ((kl, .gone) :: H))) := Goes0.put f4 rfl rfl
  have q2 : HR w0 (w.putObj l (.loop r')) O m (Hp.get ((kl, .gone) :: H)) := q1.put f4 rfl rfl (Nat.le_trans h.lo.1 f5) (fun k b hkb hb => by
    cases b with
    | fl ks xs => trivial
    | cs cs => trivial
    | mp kk vk es => trivial
    | gone => trivial
    | gh id ts => exact ⟨fun i => (hb.1 i).goes0 G2, hb.2.loop f4⟩
    | lp id l st pe n ts ps asg body => have := noLp_spec (H := (kl, .gone) :: H) hno hkb; cases this)
  exact ⟨fn, D, f4, q2, G1.toGoes0.then G2, ⟨fun i => ((f1 i).goes G1).goes0 G2, f2.loop f4⟩, f3, f5, (Array.getElem?_eq_some_iff.1 f4).1⟩
/-- The record of the loop over a function is turned. -/
theorem turn_lp {w : World} {m : Nat → Option Nat} {H : Hp} (h : HR w0 w O m H.get) {kl id l : Nat} {st : LoopState} {pe : Option Code} {n : Nat} {ts : Sl} {ps : Array Tmp} {asg body : Code} (hk : H.get kl = some (.lp id l st pe n ts ps asg body)) (hno : noLp ((kl, .gone) :: H) H = true) (st' : LoopState) (pe' : Option Code) :
    ∃ fn D, w.heap[l]? = some (.loop { state := st, pending := pe, fn := fn, tmps := (O.gh id).tmps, params := ps, assign := asg, body := body, defers := D }) ∧
      HR w0 (w.putObj l (.loop { state := st', pending := pe', fn := fn, tmps := (O.gh id).tmps, params := ps, assign := asg, body := body, defers := D })) O m (Hp.get ((kl, .lp id l st' pe' n ts ps asg body) :: H)) ∧
      Goes0 w (w.putObj l (.loop { state := st', pending := pe', fn := fn, tmps := (O.gh id).tmps, params := ps, assign := asg, body := body, defers := D })) (Im m H.get) (Im m (Hp.get ((kl, .lp id l st' pe' n ts ps asg body) :: H))) m m (lens H.get) (lens (Hp.get ((kl, .lp id l st' pe' n ts ps asg body) :: H))) := by
  obtain ⟨fn, D, f4, -⟩ := drop_lp h hk hno default
  obtain ⟨fn', D', f4', q2, G, q3, q4, q5, q6⟩ := drop_lp h hk hno { state := st', pending := pe', fn := fn, tmps := (O.gh id).tmps, params := ps, assign := asg, body := body, defers := D }
  refine ⟨fn, D, f4, ?_, ?_⟩
  all_goals
    have hu : Hp.get ((kl, .lp id l st' pe' n ts ps asg body) :: H) = upd (Hp.get ((kl, .gone) :: H)) [(kl, .lp id l st' pe' n ts ps asg body)] := by
      rw [get_cons, get_cons]; funext j; rw [upd_one, upd_one, upd_one]; split <;> rfl
    have hfr : Free (Hp.get ((kl, .gone) :: H)) kl := fun b hb => by simp [Hp.get] at hb; subst hb; rfl
    have G3 := Goes.addG (w.putObj l (.loop { state := st', pending := pe', fn := fn, tmps := (O.gh id).tmps, params := ps, assign := asg, body := body, defers := D })) m hfr (b := .lp id l st' pe' n ts ps asg body) rfl
    rw [hu]
  · refine q2.addG hfr rfl ⟨q3.goes G3, ⟨q4, q5⟩, fn, D, World.putObj_heap_same q6⟩
  · exact G.then G3.toGoes0

theorem parS_spec {n : Nat} {w : World} {I : Nat → Prop} {m : Nat → Option Nat} {L : Nat → Option (Option Nat)} : ∀ {ps : List Nat} {args : List T} {vs : List Value} {ts ts1 : Sl} {tm : Array Value}, parS n ps args ts = some ts1 → TVs w I m L args vs → tm.size = n → (∀ i, TV w I m L (tget ts i) (tm.getD i undef)) →
    ps.length = vs.length ∧ (∀ i, TV w I m L (tget ts1 i) (((ps.zip vs).foldl (fun (t : Array Value) (x : Nat × Value) => t.setIfInBounds x.1 x.2) tm).getD i undef)) ∧ ((ps.zip vs).foldl (fun (t : Array Value) (x : Nat × Value) => t.setIfInBounds x.1 x.2) tm).size = n := by
  intro ps
  induction ps with
  | nil =>
    intro args vs ts ts1 tm h ha hs ht
    cases args with
    | nil => cases h; cases ha; exact ⟨rfl, ht, hs⟩
    | cons t r => cases h
  | cons p ps ih =>
    intro args vs ts ts1 tm h ha hs ht
    cases args with
    | nil => cases h
    | cons t r =>
      simp only [parS] at h
      split at h
      · rename_i hp
        rw [Nat.blt_eq] at hp
        cases ha with
        | cons h1 h2 =>
          rename_i v vs
          obtain ⟨k1, k2, k3⟩ := ih h h2 (tm := tm.setIfInBounds p v) (by simpa using hs) (fun i => by
            simp only [tget]
            rw [Array.getD_eq_getD_getElem?, Array.getElem?_setIfInBounds]
            cases e : Nat.beq p i
            · have hi : ¬ p = i := fun hi => by subst hi; rw [Nat.beq_refl] at e; cases e
              rw [if_neg hi, ← Array.getD_eq_getD_getElem?]; exact ht i
            · have := Nat.eq_of_beq_eq_true e; subst this
              rw [if_pos rfl, if_pos (by omega)]; exact h1)
          exact ⟨by simp [k1], k2, k3⟩
      · cases h
theorem zipF (ps : Array Tmp) (vs : Array Value) (tm : Array Value) : (ps.zip vs).foldl (fun tmps (t, a) => tmps.setIfInBounds t a) tm = (ps.toList.zip vs.toList).foldl (fun (t : Array Value) (x : Nat × Value) => t.setIfInBounds x.1 x.2) tm := by
  rw [← Array.foldl_toList, Array.toList_zip]

theorem yield_exec {o : Oper} {f : Operand} {as : Array Operand} {tys : Array TypeId} (hop : o.op = .call ⟨.value f, as, tys⟩) {a : Act} {l : Nat} (hf : a.eval f = .func (.yield l) #[] #[]) : execOp a.eval o = Instr.yield l (as.map a.eval) := by
  obtain ⟨dst, op, ty, pos, after, guard⟩ := o
  simp only at hop
  subst hop
  simp only [execOp, resolve, hf, Deferred.ofValue, pure_bind, invoke]
  simp
end
section
variable {C : Ctx} {V : VC}
theorem calX_ok (hV : VOk C V) (rd : Bool) : XOk C rd (calX C V) := by
  intro fv args key ts H K h ro hro n w0 O a w hr o f as tys hop hfv hargs next Q hn
  unfold calX at h
  rw [fN_eq, fTs_eq] at h
  unfold calY at h
  split at h
  · rename_i fid pre post e
    split at h
    · rename_i i hi
      obtain ⟨hi1, rfl⟩ := inlLook_mem hi
      split at h
      · rename_i hc
        obtain ⟨m, h1, h2, h3, h4⟩ := id hr
        have hf := ev_ok h2 h3 f
        rw [hfv] at hf
        obtain ⟨vpre, vpost, hv, -, -⟩ := fnOf_ok hf e
        refine wpIn_of_wp (fun c e => by rw [hop] at e; cases e) ?_
        unfold Oper.wp
        have he : execOp a.eval o = callFunc i.f (vpre.toList ++ as.toList.map a.eval ++ vpost.toList).toArray := by
          obtain ⟨dst, op, ty, pos, after, guard⟩ := o
          simp only at hop
          subst hop
          simp only [execOp, resolve, hv, Deferred.ofValue, pure_bind, invoke]
          congr 1
          apply Array.ext'
          simp
        rw [he, (C.hinl i hi1).he]
        refine (calX_fn hV hr hi1 hc h (vs := vpre.toList ++ as.toList.map a.eval ++ vpost.toList) (R := fun v w' => next (a.put o.dst v) w') (fun m h1 h2 h3 => ?_) (fun t ts' H' v w' hK hv => hn t ts' H' v w' hK hv)).mono ?_
        · have hf := ev_ok h2 h3 f
          rw [hfv] at hf
          obtain ⟨vpre', vpost', hv', hpre, hpost⟩ := fnOf_ok hf e
          rw [hv] at hv'; cases hv'
          have := evL_ok h2 h3 as.toList
          rw [hargs] at this
          exact (hpre.append this).append hpost
        · rintro e w' ⟨v, rfl, hv⟩
          exact hv
      · exact h.elim
    · exact h.elim
  · split at h
    · rename_i l
      split at h
      · rename_i kl hkl
        split at h
        · rename_i id l' n' ts' ps asg body eg
          split at h
          · rename_i hc
            split at h
            · rename_i ts1 hps
              obtain ⟨rfl, h⟩ := h
              simp only [Bool.and_eq_true, Bool.not_eq_true'] at hc
              obtain ⟨⟨c1, c2⟩, c3⟩ := hc
              obtain ⟨gk, hgk⟩ : ∃ gk, (key + 1) * 4096 = gk := ⟨_, rfl⟩
              rw [hgk] at h c1 c2 c3
              obtain ⟨m, h1, h2, h3, h4, h5⟩ := hr
              have hf := ev_ok h2 h3 f
              rw [hfv] at hf
              have hv : a.eval f = .func (.yield l') #[] #[] := by
                generalize a.eval f = vf at hf
                cases hf with
                | fn p q =>
                  rename_i as cs
                  have e1 : as = #[] := by have := p.length; simp at this; exact Array.eq_empty_of_size_eq_zero this.symm
                  have e2 : cs = #[] := by have := q.length; simp at this; exact Array.eq_empty_of_size_eq_zero this.symm
                  rw [e1, e2]
              have hargs' := evL_ok h2 h3 as.toList
              rw [hargs] at hargs'
              obtain ⟨⟨f1, f2⟩, ⟨f3, f5⟩, fn, D, f4⟩ : FV w (Im m H.get) m (lens H.get) ts' (O.gh id) ∧ ((O.gh id).tmps.size = n' ∧ O.b0 ≤ l') ∧ ∃ fn D, w.heap[l']? = some (.loop { state := .ready, pending := none, fn := fn, tmps := (O.gh id).tmps, params := ps, assign := asg, body := body, defers := D }) := h1.gv eg rfl
              obtain ⟨p1, p2, p3⟩ := parS_spec hps hargs' f3 f1
              have hsz : (as.map a.eval).size = ps.size := by simpa using p1.symm
              refine ⟨fun _ _ => trivial, ?_⟩
              rw [Oper.semAt_eq _ _ _ (fun c e => by rw [hop] at e; cases e), yield_exec hop hv, run_yield f4 hsz]
              refine ⟨fun hh => (by cases hh), ?_⟩
              have hfree := isDeadK_free c1
              have G := Goes.addG w m hfree (b := .gh gk ts) rfl
              let O1 : Env := O.push gk a w.heap.size h1.lo.2.2 h4.1.lt
              have e1 : HR w0 w O1 m H.get := h1.env rfl rfl ⟨Nat.le_trans h1.lo.2.1 h1.lo.2.2, Nat.le_refl _⟩ (fun k b hk _ id hid => by
                show (if id = gk then a else O.gh id) = _
                rw [if_neg (no_id c2 hk hid)])
              have e2 : HR w0 w O1 m (Hp.get ((gk, .gh gk ts) :: H)) := by
                rw [get_cons]
                refine e1.addG hfree rfl ?_
                show FV w _ m _ ts (if gk = gk then a else O.gh gk)
                rw [if_pos rfl]
                exact ⟨h2.goes G, h4.1⟩
              have hin : (FR ro).inRound l' = FR (some l') := rfl
              refine roundIn_of_wpIn (F := FR ro) trivial ?_
              rw [hin]
              refine wpIn_mono ((hV _ _ _ _ _ _ _ _ h).out (some l') (fun hh => by cases hh) w0 O1 _ w ⟨m, e2, ?_, by rw [get_cons]; exact h3.goes G, ⟨trivial, fun d hd => by cases hd⟩, ?_⟩) ?_
              · rw [get_cons]
                intro i
                have := p2 i
                simp only [zipF]
                rw [Array.toList_map]
                exact this.goes G
              · simp only [zipF]
                rw [Array.toList_map]
                exact p3
              rintro e a1 w1 ⟨ts2, H2, hK, hr2⟩
              cases e with
              | normal =>
                simp only [begK] at hK
                split at hK
                · rename_i id2 l2 n2 ts2' ps2 asg2 b2 eg2
                  split at hK
                  · rename_i hno
                    obtain ⟨rfl, hK⟩ := hK
                    obtain ⟨m2, q1, q2, q3, q4, q5⟩ := hr2
                    obtain ⟨fn2, D2, q6, q7, q8⟩ := turn_lp q1 eg2 hno .busy none
                    refine ⟨_, run_beginRound q6 rfl, ?_⟩
                    refine wpIn_mono ((hV _ _ _ _ _ _ _ _ hK).out (some l2) (fun hh => by cases hh) w0 O1 _ _ ⟨m2, q7, fun i => (q2 i).goes0 q8, fun i => (q3 i).goes0 q8, ⟨q4.1.loop q6, q4.2⟩, q5⟩) ?_
                    rintro e a3 w3 ⟨ts3, H3, hK3, hr3⟩
                    unfold rndK at hK3
                    split at hK3
                    · rename_i id3 l3 n3 ts3' ps3 asg3 b3 j3 ts4 eg3 eg4
                      split at hK3
                      · rename_i hcc
                        simp only [Bool.and_eq_true, Bool.not_eq_true'] at hcc
                        obtain ⟨⟨⟨d1, d2⟩, d3⟩, d4⟩ := hcc
                        have hj := Nat.eq_of_beq_eq_true d1
                        subst hj
                        obtain ⟨m3, r1, r2, r3, r4, r5⟩ := hr3
                        have hfv3 : FV w3 (Im m3 H3.get) m3 (lens H3.get) ts4 (if j3 = j3 then a else O.gh j3) := r1.gv eg4 rfl
                        rw [if_pos rfl] at hfv3
                        have hfr : Free H3.get j3 := fun b hb => by rw [eg4] at hb; cases hb; rfl
                        have G' := Goes.addG w3 m3 hfr (b := .gone) rfl
                        have s1 : HR w0 w3 O1 m3 (upd H3.get [(j3, .gone)]) := r1.addG hfr rfl trivial
                        rw [← get_cons] at s1 G'
                        have s2 : HR w0 w3 O m3 (Hp.get ((j3, .gone) :: H3)) := s1.env rfl rfl ⟨h1.lo.2.1, Nat.le_trans h1.lo.2.2 r1.lo.2.2⟩ (fun k b hk _ j hj => by
                          show _ = (if j = j3 then a else O.gh j)
                          rw [if_neg (no_id d2 hk hj)])
                        have eg5 : Hp.get ((j3, .gone) :: H3) kl = some (.lp id3 l3 .busy none n3 ts3' ps3 asg3 b3) := by
                          simp only [Hp.get, d4, cond_false]; exact eg3
                        have fin : ∀ (jump : Option Code) (st : LoopState) (v : Bool), st = (if jump.isNone then .ready else .done) → v = jump.isNone → l3 = l2 → K (.v (.bool v)) ts4 ((kl, .lp id3 l3 st jump n3 ts3' ps3 asg3 b3) :: (j3, .gone) :: H3) →
                            ∃ v w', (Instr.endRound l2 jump).run C.P w3 = .ok v w' ∧ next (a.put o.dst v) w' := by
                          intro jump st v e1 e2 e3 hK
                          subst e3
                          obtain ⟨fn3, D3, t1, t2, t3⟩ := turn_lp s2 eg5 d3 st jump
                          refine ⟨_, _, run_endRound jump t1, ?_⟩
                          subst e1 e2
                          refine hn _ _ _ _ _ hK ⟨m3, t2, fun i => ((hfv3.1 i).goes G').goes0 t3, fun i => ((r3 i).goes G').goes0 t3, ⟨hfv3.2.loop t1, h4.2⟩, .v rfl⟩
                        cases e with
                        | normal => exact fin none _ _ rfl rfl hK3.1 hK3.2
                        | ret => exact fin (some .ret) _ _ rfl rfl hK3.1 hK3.2
                        | exit q => exact fin (some (.exit q)) _ _ rfl rfl hK3.1 hK3.2
                        | goto q => exact fin (some (.goto q)) _ _ rfl rfl hK3.1 hK3.2
                        | panic ch => exact hK3.elim
                        | outgrown => exact hK3.elim
                      · exact hK3.elim
                    · exact hK3.elim
                  · exact hK.elim
                · exact hK.elim
              | exit q => exact hK.elim
              | goto q => exact hK.elim
              | ret => exact hK.elim
              | panic ch => exact hK.elim
              | outgrown => exact hK.elim
            · exact h.elim
          · exact h.elim
        · exact h.elim
      · exact h.elim
    · exact h.elim
end
section
variable {C : Ctx} {V : VC}
theorem rng_ok (hV : VOk C V) {n base : Nat} {rd : Bool} {f : Operand} {ps : Array Tmp} {asg body : Code} {ts : Sl} {H : Hp} {K : Exit → Sl → Hp → Prop} (h : rngX C V n base rd f ps asg body ts H K) : TW C n rd (.rangeFunc f ps asg body) ts H K := by
  refine ⟨fun ro hro w0 O a w hr => ?_⟩
  unfold rngX at h
  split at h
  · exact h.elim
  · have hro := hro rfl
    subst hro
    split at h
    · rename_i gid pre post e
      split at h
      · rename_i i hi
        obtain ⟨hi1, rfl⟩ := inlLook_mem hi
        split at h
        · rename_i hc
          simp only [Bool.and_eq_true] at hc
          obtain ⟨⟨⟨c1, c2⟩, c3⟩, c4⟩ := hc
          have c4 := Nat.le_of_ble_eq_true c4
          obtain ⟨kl, hkl⟩ : ∃ kl, base + 4 * n = kl := ⟨_, rfl⟩
          rw [hkl] at h c1 c2
          obtain ⟨m, h1, h2, h3, h4, h5⟩ := hr
          have hf := ev_ok h2 h3 f
          obtain ⟨vpre, vpost, hv, hpre, hpost⟩ := fnOf_ok hf e
          have ok := C.hinl i hi1
          refine wpIn_rangeFunc (F := FR none) (fun fn _ => ?_)
          let D := w.heap.size
          let l := w.heap.size + 1
          let mark : Deferred := { target := .collected D, args := #[] }
          let rec0 : Loop := { state := .ready, pending := none, fn := fn, tmps := a.tmps, params := ps, assign := asg, body := body, defers := D }
          let w2 := (w.alloc (.deferred (some []))).alloc (.loop rec0)
          let a' : Act := { a with defers := mark :: a.defers }
          have hb : Below w.heap.size w w2 := ((Below.refl _ w).alloc (Nat.le_refl _) _).alloc (by simp) _
          have hD : w2.heap[D]? = some (.deferred (some [])) := (Below.heap_alloc _ _ _ (by simp [D])).trans (World.alloc_heap_new w _)
          have hL : w2.heap[l]? = some (.loop rec0) := by have := World.alloc_heap_new (w.alloc (.deferred (some []))) (.loop rec0); rwa [World.size_alloc] at this
          have hs2 : w2.heap.size = w.heap.size + 2 := by simp [w2]
          have Gb := Goes.of_below hb h1
          have r1 : HR w0 w2 O m H.get := h1.below hb
          have hmk : Mk w2 a'.defers := ⟨⟨D, rfl, hD, fun e he ee => by
            have := h4.1.lt e D he (by rw [ee]); omega⟩, h4.1.goes Gb.odd⟩
          have hlt : ∀ d q, d ∈ a'.defers → d.target = .collected q → q < w2.heap.size := hmk.lt
          let O1 : Env := O.push kl a' w2.heap.size r1.lo.2.2 hlt
          have hfree := isDeadK_free c1
          have G := Goes.addG w2 m hfree (b := .lp kl l .ready none n ts ps asg body) rfl
          have e1 : HR w0 w2 O1 m H.get := r1.env rfl rfl ⟨Nat.le_trans r1.lo.2.1 r1.lo.2.2, Nat.le_refl _⟩ (fun k b hk _ id hid => by
            show (if id = kl then a' else O.gh id) = _
            rw [if_neg (no_id c2 hk hid)])
          have e2 : HR w0 w2 O1 m (Hp.get ((kl, .lp kl l .ready none n ts ps asg body) :: H)) := by
            rw [get_cons]
            refine e1.addG hfree rfl ?_
            have : O1.gh kl = a' := by show (if kl = kl then a' else O.gh kl) = a'; rw [if_pos rfl]
            show FV w2 _ m _ ts (O1.gh kl) ∧ ((O1.gh kl).tmps.size = n ∧ O1.b0 ≤ l) ∧ ∃ fn D, w2.heap[l]? = some (.loop { state := .ready, pending := none, fn := fn, tmps := (O1.gh kl).tmps, params := ps, assign := asg, body := body, defers := D })
            rw [this]
            refine ⟨⟨(h2.goes Gb).goes G, hmk⟩, ⟨h5, ?_⟩, fn, D, hL⟩
            have := h1.lo; show O.b0 ≤ w.heap.size + 1; omega
          have hargs : TVs w2 (Im m (Hp.get ((kl, .lp kl l .ready none n ts ps asg body) :: H))) m (lens (Hp.get ((kl, .lp kl l .ready none n ts ps asg body) :: H))) (pre ++ [.fn (.yield l) [] []] ++ post) (vpre.toList ++ [.func (.yield l) #[] #[]] ++ vpost.toList) := by
            rw [get_cons]
            exact ((((hpre.goes Gb).append (TVs.cons (.fn .nil .nil) .nil)).append (hpost.goes Gb))).goes G
          refine ⟨l, [mark], w2, { target := .fn (.func i.f) vpost, args := vpre ++ #[.func (.yield l) #[] #[]] }, w2, i.f, (vpre.toList ++ [Value.func (.yield l) #[] #[]] ++ vpost.toList).toArray, w2, ?_, ?_, fun _ _ => trivial, ?_, fun hh => (by cases hh), ?_⟩
          · exact run_enterLoop_outer _ _ _ _ _
          · simp only [resolve, hv]
            simp [go_sem, Act.eval]
          · have : (callFunc i.f (vpre ++ #[.func (.yield l) #[] #[]] ++ vpost)).run C.P w2 = .ok (.enter i.f (vpre ++ #[.func (.yield l) #[] #[]] ++ vpost)) w2 := ok.he _ _
            have e3 : (vpre.toList ++ [Value.func (.yield l) #[] #[]] ++ vpost.toList).toArray = vpre ++ #[.func (.yield l) #[] #[]] ++ vpost := by apply Array.ext'; simp
            rw [e3]
            simpa [invoke] using this
          · refine callsIn_FR.2 ((calls_ok ok.hf ok.hb e2 (by simpa using hargs) (by rw [get_cons]; exact (h3.goes Gb).goes G) (by simp; omega) (hV _ _ _ _ _ _ _ _ (h l))).mono ?_)
            rintro e w3 ⟨v, t, H', m', rfl, hR, g1, g2, g3⟩
            unfold retR at hR
            split at hR
            · rename_i id' l' st pe n' ts' ps' asg' body' eg
              split at hR
              · rename_i hcc
                simp only [Bool.and_eq_true] at hcc
                obtain ⟨⟨d1, d2⟩, d3⟩ := hcc
                have hid := Nat.eq_of_beq_eq_true d1
                subst hid
                obtain ⟨fn0, D0, t0, -⟩ := drop_lp g1 eg d3 default
                obtain ⟨fn3, D3, t1, t2, t3, t4, t5, t6, t7⟩ := drop_lp g1 eg d3 { state := .exhausted, pending := pe, fn := fn0, tmps := (O1.gh id').tmps, params := ps', assign := asg', body := body', defers := D0 }
                have hgh : O1.gh id' = a' := by show (if id' = id' then a' else O.gh id') = a'; rw [if_pos rfl]
                rw [hgh] at t0 t2 t3 t4
                have s2 : HR w0 (w3.putObj l' (.loop { state := .exhausted, pending := pe, fn := fn0, tmps := a'.tmps, params := ps', assign := asg', body := body', defers := D0 })) O m' (Hp.get ((id', .gone) :: H')) :=
                  t2.env rfl rfl ⟨h1.lo.2.1, Nat.le_trans h1.lo.2.2 (Nat.le_trans hb.size (Nat.le_trans g1.lo.2.2 (by simp)))⟩ (fun k b hk _ j hj => by
                    show _ = (if j = id' then a' else O.gh j)
                    rw [if_neg (no_id d2 hk hj)])
                have hlo' : Lo O.lo a'.defers := fun d hd q hq => by
                  rcases List.mem_cons.1 hd with rfl | hd
                  · cases hq; exact h1.lo.2.2
                  · exact h4.2 d hd q hq
                have hrl : Rl C n w0 O ts' ((id', .gone) :: H') a' (w3.putObj l' (.loop { state := .exhausted, pending := pe, fn := fn0, tmps := a'.tmps, params := ps', assign := asg', body := body', defers := D0 })) :=
                  ⟨m', s2, t4.1, fun i => (g2 i).goes0 t3, ⟨t4.2, hlo'⟩, h5⟩
                have fin : st ≠ .busy → l' = l → (match pe with
                    | none => ∃ ts' H', K .normal ts' H' ∧ Rl C n w0 O ts' H' a' (w3.putObj l' (.loop { state := .exhausted, pending := pe, fn := fn0, tmps := a'.tmps, params := ps', assign := asg', body := body', defers := D0 }))
                    | some c => c.wpIn (FR none) 0 C.P (fun e a' w' => ∃ ts' H', K e ts' H' ∧ Rl C n w0 O ts' H' a' w') a' (w3.putObj l' (.loop { state := .exhausted, pending := pe, fn := fn0, tmps := a'.tmps, params := ps', assign := asg', body := body', defers := D0 }))) →
                    rangePost (FR none) 0 C.P l (fun e a' w' => ∃ ts' H', K e ts' H' ∧ Rl C n w0 O ts' H' a' w') a' (.returned v) w3 := by
                  intro hst hl hp
                  subst hl
                  refine ⟨pe, _, run_endLoop t0 hst, ?_⟩
                  cases pe with
                  | none => exact hp
                  | some c => exact hp
                cases st with
                | ready =>
                  simp only at hR
                  split at hR
                  · exact fin (by intro h; cases h) hR.1 ⟨_, _, hR.2, hrl⟩
                  · exact hR.elim
                | done =>
                  simp only at hR
                  split at hR
                  · exact fin (by intro h; cases h) hR.1 (wpIn_ret ⟨_, _, hR.2, hrl⟩)
                  · exact fin (by intro h; cases h) hR.1 (wpIn_exit ⟨_, _, hR.2, hrl⟩)
                  · exact fin (by intro h; cases h) hR.1 (wpIn_goto ⟨_, _, hR.2, hrl⟩)
                  · exact hR.elim
                | busy => exact hR.elim
                | exhausted => exact hR.elim
              · exact hR.elim
            · exact hR.elim
        · exact h.elim
      · exact h.elim
    · exact h.elim
end
section
variable {P : Program} {b : Frame} {a : Act} {k : List Item} {cs : List Frame} {w : World} {F : Fence} {n : Nat} {Q : Exit → Act → World → Prop}
theorem stepR_scope {c : Code} : step P (lone (b.atR a (.code (.scope c) :: k)) cs w) = .next (lone (b.atR a (.code c :: .inScope c :: k)) cs w) :=
  step_lone_go (by simp [stepG, stepG.exec, Frame.atR])
theorem stepR_inScope {c : Code} : step P (lone (b.atR a (.inScope c :: k)) cs w) = .next (lone (b.atR a k) cs w) :=
  step_lone_go (by simp [stepG, stepG.exec, Frame.atR])
/-- By no goto. -/
def ngQ (Q : Exit → Act → World → Prop) : Exit → Act → World → Prop
  | .goto _, _, _ => False
  | e, a, w => Q e a w
def scpQ (F : Fence) (n : Nat) (P : Program) (c : Code) (Q : Exit → Act → World → Prop) : Exit → Act → World → Prop
  | .goto l, a, w => ∃ rest, findLabel c l = some rest ∧ rest.wpIn F n P (ngQ Q) a w
  | e, a, w => Q e a w
theorem wpIn_scope {c : Code} (h : c.wpIn F n P (scpQ F n P c Q) a w) : (Code.scope c).wpIn F n P Q a w := by
  intro b k cs hro hb hr
  have h0 : (lone (b.atR a (.code (.scope c) :: k)) cs w).fenced P F := fenced_calm hb hr rfl
  have st : StepsIn (Machine.fenced P F) P (lone (b.atR a (.code (.scope c) :: k)) cs w) (lone (b.atR a (.code c :: .inScope c :: k)) cs w) := .one h0 stepR_scope
  obtain ⟨e, a₁, w₁, hq, harr⟩ := h b (.inScope c :: k) cs hro hb hr
  cases e with
  | normal => exact ⟨.normal, a₁, w₁, hq, StepsIn.trans st (StepsIn.trans harr (.one (fenced_calm hb hr rfl) stepR_inScope))⟩
  | exit id => exact ⟨_, a₁, w₁, hq, .of_steps st ⟨fun k' hk => harr.1 k' (by simpa [exitTo] using hk), fun hr' hk => harr.2 hr' (by simpa [exitTo] using hk)⟩⟩
  | ret => exact ⟨_, a₁, w₁, hq, .of_steps st harr⟩
  | panic ch => exact ⟨_, a₁, w₁, hq, .of_steps st harr⟩
  | outgrown => exact ⟨_, a₁, w₁, hq, .of_steps st harr⟩
  | goto l =>
    obtain ⟨rest, hf, hq⟩ := hq
    have hg : gotoIn l (.inScope c :: k) = some (.code rest :: .inScope c :: k) := by simp [gotoIn, hf]
    have st2 := StepsIn.trans st (harr.1 _ hg)
    obtain ⟨e2, a2, w2, hq2, harr2⟩ := hq b (.inScope c :: k) cs hro hb hr
    cases e2 with
    | normal => exact ⟨.normal, a2, w2, hq2, StepsIn.trans st2 (StepsIn.trans harr2 (.one (fenced_calm hb hr rfl) stepR_inScope))⟩
    | exit id => exact ⟨_, a2, w2, hq2, .of_steps st2 ⟨fun k' hk => harr2.1 k' (by simpa [exitTo] using hk), fun hr' hk => harr2.2 hr' (by simpa [exitTo] using hk)⟩⟩
    | ret => exact ⟨_, a2, w2, hq2, .of_steps st2 harr2⟩
    | panic ch => exact ⟨_, a2, w2, hq2, .of_steps st2 harr2⟩
    | outgrown => exact ⟨_, a2, w2, hq2, .of_steps st2 harr2⟩
    | goto l' => exact hq2.elim
end
section
variable {C : Ctx} {n : Nat}
theorem Rl.congr {w0 w : World} {O : Env} {ts ts' : Sl} {H H' : Hp} {a : Act} (h : Rl C n w0 O ts H a w) (ht : ∀ s, tget ts' s = tget ts s) (hh : ∀ q, H'.get q = H.get q) : Rl C n w0 O ts' H' a w := by
  obtain ⟨m, g1, g2, g3, g4, g5⟩ := h
  have e : H'.get = H.get := funext hh
  refine ⟨m, by rw [e]; exact g1, fun i => by rw [ht, e]; exact g2 i, by rw [e]; exact g3, g4, g5⟩
theorem drawn_ok (hC : C.good) {rd : Bool} {X : Caller} (hX : XOk C rd X) {base id : Nat} {lv : List Nat} {ops : Array Oper} {ts : Sl} {H : Hp} {K : Exit → Sl → Hp → Prop} (h : dgo C X n base ops (dfin ops fun ts H => fPr0 lv ts fun ts => K .normal ts H) ops.toList ts H []) : TW C n rd (.region id ops true) ts H K := by
  refine ⟨fun ro hro w0 O a w hr => ?_⟩
  have hw : Rl C n w0 O ts H a ({ w with drawn := w.drawn + 1 } : World) := by
    obtain ⟨m, g1, g2, g3, g4, g5⟩ := hr
    have hb : Below w.heap.size w (w.drewN 1) := ⟨rfl, rfl, rfl, Nat.le_refl _, fun _ _ => rfl⟩
    have G := Goes.of_below hb g1
    exact ⟨m, g1.below hb, g2.goes G, g3.goes G, ⟨g4.1.goes G.odd, g4.2⟩, g5⟩
  have hrep : ∀ i, done (Array.replicate ops.size false) i = false := by
    intro i; unfold done; rw [Array.getD_eq_getD_getElem?, Array.getElem?_replicate]; split <;> rfl
  refine wpIn_region_any hC.mixed (seg_ok hC.ok hC.loc hX hro (K := fun ts H => fPr0 lv ts fun ts => K .normal ts H) (fun ts H a w hK hr => ?_) ops.size ops.toList 0 (by simp) rfl (Nat.zero_le _) ts H h ops.size _ a _ ?_ (by simp) (fun j => ?_) (fun i hi => ?_) hw)
  · obtain ⟨ts2, hK, hcut⟩ := fPr0_spec hK
    exact ⟨ts2, H, hK, hr.cut hcut⟩
  · unfold left
    refine Nat.le_trans (List.length_filter_le _ _) ?_
    simp
  · rw [hrep]; rfl
  · rw [hrep] at hi; cases hi

theorem vcB_ok (hC : C.good) {rd : Bool} {X : Caller} {V : VC} {RF : Operand → Array Tmp → Code → Code → Sl → Hp → (Exit → Sl → Hp → Prop) → Prop} (hX : XOk C rd X) (hV : VOk C V)
    (hRF : ∀ f ps a b ts H K, RF f ps a b ts H K → TW C n rd (.rangeFunc f ps a b) ts H K) {base : Nat} {lv : List Nat} :
    ∀ (c : Code) (ts : Sl) (H : Hp) (K : Exit → Sl → Hp → Prop), vcB C X V RF n base rd lv c ts H K → TW C n rd c ts H K := by
  intro c
  induction c with
  | skip => intro ts H K h; exact ⟨fun ro hro w0 O a w hr => wpIn_skip ⟨ts, H, h, hr⟩⟩
  | label l => intro ts H K h; exact ⟨fun ro hro w0 O a w hr => wpIn_label ⟨ts, H, h, hr⟩⟩
  | seq x y ihx ihy =>
    intro ts H K h
    refine ⟨fun ro hro w0 O a w hr => wpIn_seq (wpIn_mono ((ihx _ _ _ h).out ro hro w0 O a w hr) ?_)⟩
    rintro e a' w' ⟨ts', H', hK, hr'⟩
    cases e with
    | normal => exact (ihy _ _ _ hK).out ro hro w0 O a' w' hr'
    | exit id => exact ⟨ts', H', hK, hr'⟩
    | goto l => exact ⟨ts', H', hK, hr'⟩
    | ret => exact ⟨ts', H', hK, hr'⟩
    | panic c => exact ⟨ts', H', hK, hr'⟩
    | outgrown => exact ⟨ts', H', hK, hr'⟩
  | cond c x y ihx ihy =>
    intro ts H K h
    refine ⟨fun ro hro w0 O a w hr => ?_⟩
    change (match ev C ts c with | .v (.bool b) => ifB b (vcB C X V RF n base rd lv x (cset c true ts) H K) (vcB C X V RF n base rd lv y (cset c false ts) H K) | _ => False) at h
    split at h
    · rename_i b e
      obtain ⟨m, h1, h2, h3, h4, h5⟩ := id hr
      have hc := ev_ok h2 h3 c
      rw [e] at hc
      obtain ⟨hc, -⟩ := hc.v_inv
      have hs : ∀ y, b = y → Rl C n w0 O (cset c y ts) H a w := by
        intro y hy
        cases c with
        | tmp t => exact hr.setT e hy
        | _ => exact hr
      cases b
      · exact wpIn_cond_false hc ((ihy _ _ _ h).out ro hro w0 O a w (hs _ rfl))
      · exact wpIn_cond_true hc ((ihx _ _ _ h).out ro hro w0 O a w (hs _ rfl))
    · exact h.elim
  | block id c ih =>
    intro ts H K h
    refine ⟨fun ro hro w0 O a w hr => wpIn_block (wpIn_mono ((ih _ _ _ h).out ro hro w0 O a w hr) ?_)⟩
    rintro e a' w' ⟨ts', H', hK, hr'⟩
    cases e with
    | exit j =>
      simp only [Exit.inBlock]
      unfold blkK at hK
      by_cases hj : j = id
      · subst hj; rw [if_pos rfl]; simp only [Nat.beq_refl] at hK; exact ⟨ts', H', hK, hr'⟩
      · rw [if_neg hj]
        have : Nat.beq j id = false := by
          cases e : Nat.beq j id
          · rfl
          · exact absurd (Nat.eq_of_beq_eq_true e) hj
        simp only [this] at hK; exact ⟨ts', H', hK, hr'⟩
    | normal => exact ⟨ts', H', hK, hr'⟩
    | goto l => exact ⟨ts', H', hK, hr'⟩
    | ret => exact ⟨ts', H', hK, hr'⟩
    | panic c => exact ⟨ts', H', hK, hr'⟩
    | outgrown => exact ⟨ts', H', hK, hr'⟩
  | exit id => intro ts H K h; exact ⟨fun ro hro w0 O a w hr => wpIn_exit ⟨ts, H, h, hr⟩⟩
  | ret => intro ts H K h; exact ⟨fun ro hro w0 O a w hr => wpIn_ret ⟨ts, H, h, hr⟩⟩
  | goto l => intro ts H K h; exact ⟨fun ro hro w0 O a w hr => wpIn_goto ⟨ts, H, h, hr⟩⟩
  | region id ops draw =>
    intro ts H K h
    cases draw with
    | true => exact drawn_ok hC hX h
    | false =>
      refine ⟨fun ro hro w0 O a w hr => wpIn_region ?_⟩
      have := rgo_ok (Q := fun e a' w' => ∃ ts' H', K e ts' H' ∧ Rl C n w0 O ts' H' a' w') hC.ok hX hro (fun ts H a w hK hr => (by
        obtain ⟨ts2, hK, hcut⟩ := fPr0_spec hK
        exact ⟨ts2, H, hK, hr.cut hcut⟩)) _ 0 _ _ _ _ rfl h hr
      rwa [Array.length_toList, ← List.range_eq_range'] at this
  | loop c ih => intro ts H K h; exact h
  | rangeFunc f p as b ih1 ih2 => intro ts H K h; exact hRF _ _ _ _ _ _ _ h
  | scope b ih =>
    intro ts H K h
    refine ⟨fun ro hro w0 O a w hr => wpIn_scope (wpIn_mono ((ih _ _ _ h).out ro hro w0 O a w hr) ?_)⟩
    rintro e a' w' ⟨ts', H', hK, hr'⟩
    cases e with
    | goto l =>
      simp only [scpK] at hK
      split at hK
      · rename_i rest hf
        refine ⟨rest, hf, wpIn_mono ((hV _ _ _ _ _ _ _ _ hK).out ro hro w0 O a' w' hr') ?_⟩
        rintro e a' w' ⟨ts', H', hK, hr'⟩
        cases e with
        | goto l => exact hK.elim
        | normal => exact ⟨ts', H', hK, hr'⟩
        | exit id => exact ⟨ts', H', hK, hr'⟩
        | ret => exact ⟨ts', H', hK, hr'⟩
        | panic c => exact ⟨ts', H', hK, hr'⟩
        | outgrown => exact ⟨ts', H', hK, hr'⟩
      · exact hK.elim
    | normal => exact ⟨ts', H', hK, hr'⟩
    | exit id => exact ⟨ts', H', hK, hr'⟩
    | ret => exact ⟨ts', H', hK, hr'⟩
    | panic c => exact ⟨ts', H', hK, hr'⟩
    | outgrown => exact ⟨ts', H', hK, hr'⟩
  | refuse y => intro ts H K h; exact h
end
theorem vcL_ok {C : Ctx} (hC : C.good) : ∀ d, VOk C (vcL C d) := by
  intro d
  induction d with
  | zero =>
    intro n base rd lv c ts H K h
    have h : vcB C (fun _ _ _ _ _ _ => False) (fun _ _ _ _ _ _ _ _ => False) (fun _ _ _ _ _ _ _ => False) n base rd lv c ts H K := h
    exact vcB_ok hC (fun _ _ _ _ _ _ h => h.elim) (fun _ _ _ _ _ _ _ _ h => h.elim) (fun _ _ _ _ _ _ _ h => h.elim) c ts H K h
  | succ d ih =>
    intro n base rd lv c ts H K h
    have h : vcB C (calX C (vcL C d)) (vcL C d) (rngX C (vcL C d) n base rd) n base rd lv c ts H K := h
    exact vcB_ok hC (calX_ok ih rd) ih (fun _ _ _ _ _ _ _ h => rng_ok ih h) c ts H K h

/-! ### loops -/
section
variable {C : Ctx} {n : Nat} {rd : Bool}
def isGone : Blk → Bool
  | .gone => true
  | _ => false
def fDS (cs : List Nat) : Sl → List Nat → (Sl → Prop) → Prop
  | [], _, K => K []
  | (i, t) :: r, seen, K => match memN cs i || memN seen i with
    | true => fDS cs r seen K
    | false => fDS cs r (i :: seen) fun ts => K ((i, t) :: ts)
def fDK (ck : List Nat) : Hp → List Nat → (Hp → Prop) → Prop
  | [], _, K => K []
  | (k, b) :: r, seen, K => match memN ck k || memN seen k || isGone b with
    | true => fDK ck r (k :: seen) K
    | false => fDK ck r (k :: seen) fun H => K ((k, b) :: H)
theorem fDS_ok {cs : List Nat} : ∀ {ts : Sl} {seen : List Nat} {K : Sl → Prop}, fDS cs ts seen K → ∃ tsB, K tsB := by
  intro ts
  induction ts with
  | nil => intro seen K h; exact ⟨_, h⟩
  | cons p ts ih =>
    obtain ⟨i, t⟩ := p
    intro seen K h
    simp only [fDS] at h
    split at h
    · exact ih h
    · obtain ⟨x, hx⟩ := ih h; exact ⟨_, hx⟩
theorem fDK_ok {ck : List Nat} : ∀ {H : Hp} {seen : List Nat} {K : Hp → Prop}, fDK ck H seen K → ∃ HB, K HB := by
  intro H
  induction H with
  | nil => intro seen K h; exact ⟨_, h⟩
  | cons p H ih =>
    obtain ⟨i, t⟩ := p
    intro seen K h
    simp only [fDK] at h
    split at h
    · exact ih h
    · obtain ⟨x, hx⟩ := ih h; exact ⟨_, hx⟩
def zipS : List Nat → List T → Sl → Sl
  | i :: r, t :: l, B => (i, t) :: zipS r l B
  | _, _, B => B
def zipK : List Nat → List Blk → Hp → Hp
  | i :: r, t :: l, B => (i, t) :: zipK r l B
  | _, _, B => B
def fstS : Sl → List Nat
  | [] => []
  | (i, _) :: r => i :: fstS r
def idK : Hp → List (Nat × Nat)
  | [] => []
  | (k, _) :: r => (k, k) :: idK r
/-- A state may be told as one of a loop's head. rn: blocks that have come under other names. -/
def Fits (ts' : Sl) (H' : Hp) (cs ck : List Nat) (tsB : Sl) (HB : Hp) (vs : List T) (bs : List Blk) (rn : List (Nat × Nat)) : Prop :=
  (Plan.mk (cs ++ fstS tsB) (rn ++ idK HB) []).fine = true ∧ (Plan.mk (cs ++ fstS tsB) (rn ++ idK HB) []).ts H' ts' = zipS cs vs tsB ∧ (Plan.mk (cs ++ fstS tsB) (rn ++ idK HB) []).H H' = zipK ck bs HB
def LoopG (C : Ctx) (d n base : Nat) (rd : Bool) (lv : List Nat) (body : Code) (K : Exit → Sl → Hp → Prop) {α : Type} (cs ck : List Nat) (rn0 : List (Nat × Nat)) (vals : α → List T) (blks : α → List Blk) (inv : α → Prop) (μ : α → Nat) (ts : Sl) (H : Hp) (tsB : Sl) (HB : Hp) : Prop :=
  (∃ x, Fits ts H cs ck tsB HB (vals x) (blks x) rn0 ∧ inv x) ∧
  ∀ x, inv x → vcL C d n base rd lv body (zipS cs (vals x) tsB) (zipK ck (blks x) HB) (seqK (fun ts' H' => ∃ y rn, Fits ts' H' cs ck tsB HB (vals y) (blks y) rn ∧ inv y ∧ μ y < μ x) K)
/-- A loop, told of by what it turns: slots cs, blocks ck (rn0: the names that these have ahead of it); all else stays as it is. -/
theorem TW.loopD (hC : C.good) (d : Nat) {base : Nat} {lv : List Nat} {body : Code} {ts : Sl} {H : Hp} {K : Exit → Sl → Hp → Prop} {α : Type} (cs ck : List Nat) (rn0 : List (Nat × Nat)) (vals : α → List T) (blks : α → List Blk) (inv : α → Prop) (μ : α → Nat)
    (h : fDS cs ts [] fun tsB => fDK (ck ++ rn0.map (·.1)) H [] fun HB => LoopG C d n base rd lv body K cs ck rn0 vals blks inv μ ts H tsB HB) : TW C n rd (.loop body) ts H K := by
  obtain ⟨tsB, h⟩ := fDS_ok h
  obtain ⟨HB, ⟨x0, ⟨f1, f2, f3⟩, i0⟩, hr⟩ := fDK_ok h
  refine TW.loop hC.glq (fun x => (zipS cs (vals x) tsB, zipK ck (blks x) HB)) inv μ ⟨x0, ⟨_, f1, f2, f3⟩, i0⟩ (fun x hx => (vcL_ok hC d _ _ _ _ _ _ _ _ (hr x hx)).mono (fun e ts' H' hK => ?_))
  cases e with
  | normal => obtain ⟨y, rn, ⟨g1, g2, g3⟩, iy, hlt⟩ := hK; exact ⟨y, ⟨_, g1, g2, g3⟩, iy, hlt⟩
  | exit id => exact hK
  | goto l => exact hK
  | ret => exact hK
  | panic c => exact hK
  | outgrown => exact hK
end
end Go.Proofs.YtnplgklnkcjmnaaGreatDoor.Am
namespace Go.Proofs.YtnplgklnkcjmnaaGreatDoor.Am
set_option linter.unusedVariables false
set_option linter.unusedSimpArgs false
open Go.RowKit

/-- nil as a slice of the machine's own, that has nothing. -/
theorem Rl.nilOwn {C : Ctx} {n : Nat} {w0 : World} {O : Env} {ts : Sl} {H : Hp} {a : Act} {w : World} (h : Rl C n w0 O ts H a w) {i key sz : Nat} {B : Blk} (hi : tget ts i = .v (.slice none 0 0)) (hk : H.get key = none)
    (hB : B = .cs [] ∨ ∃ k ks, B = .fl (k :: ks) []) (hz : 0 < sz) : Rl C n w0 O ((i, .ow key sz 0) :: ts) ((key, B) :: H) a w := by
  obtain ⟨m, g1, g2, g3, g4, g5⟩ := h
  have hg : Hp.get ((key, B) :: H) = upd H.get [(key, B)] := get_append [(key, B)] H
  have hbv : BV O w (Im (mk1 m key none) (upd H.get [(key, B)])) (mk1 m key none) (lens (upd H.get [(key, B)])) B none := by
    rcases hB with rfl | ⟨k, ks, rfl⟩
    · exact rfl
    · exact ⟨by simp, rfl⟩
  have hlen : B.len? = some 0 := by rcases hB with rfl | ⟨k, ks, rfl⟩ <;> rfl
  have hN := g1.newB (k := key) (n := none) (b := B) (Below.refl _ w) hk (fun q hq => by cases hq) hbv
  have G := Goes.new g1 (k := key) (n := none) (b := B) (Below.refl _ w) hk (fun q hq => by cases hq)
  have hlk : lens (upd H.get [(key, B)]) key = some (some 0) := by rw [lens_upd, if_pos rfl, hlen]
  refine ⟨mk1 m key none, by rw [hg]; exact hN, fun j => ?_, by rw [hg]; exact g3.goes G, ⟨g4.1.goes G.odd, g4.2⟩, g5⟩
  rw [hg]
  simp only [tget]
  split
  · rename_i e
    have := Nat.eq_of_beq_eq_true e
    subst this
    have hv := g2 i
    rw [hi] at hv
    obtain ⟨hv, -⟩ := hv.v_inv
    rw [hv]
    exact .ow (.os0 hlk (by omega) hz) (.inr (by rw [hlk]; simp))
  · exact (g2 j).goes G
theorem TW.nilOwn {C : Ctx} {n : Nat} {rd : Bool} {c : Code} {ts : Sl} {H : Hp} {K : Exit → Sl → Hp → Prop} (i key sz : Nat) (B : Blk) (hi : tget ts i = .v (.slice none 0 0)) (hk : H.get key = none)
    (hB : B = .cs [] ∨ ∃ k ks, B = .fl (k :: ks) []) (hz : 0 < sz) (h : TW C n rd c ((i, .ow key sz 0) :: ts) ((key, B) :: H) K) : TW C n rd c ts H K :=
  ⟨fun ro hro w0 O a w hr => h.out ro hro w0 O a w (hr.nilOwn hi hk hB hz)⟩

/-! ### pure functions -/
def mapO (f : T → Option T) : List T → Option (List T)
  | [] => some []
  | t :: r => match f t with
    | none => none
    | some u => match mapO f r with
      | some us => some (u :: us)
      | none => none
/-- A value that leads to no block of the machine's own: what it leads to is taken as it stands. imm: may it lead to what was there? -/
def inT (imm : Bool) (g : Mem) : Nat → T → Option T
  | d, t => match t with
    | .v x => some (.v x)
    | .fl ks n xs => match imm with
      | true => some (.fl ks n xs)
      | false => match n, xs with
        | 0, [] => some (.fl ks 0 [])
        | _, _ => none
    | .fp ks xs b st i e => match imm with
      | true => some (.fp ks xs b st i e)
      | false => none
    | .ow k sz n => match g k with
      | some (.fl ks xs) => match Nat.beq ks.length sz with
        | true => some (.fl ks n xs)
        | false => none
      | some (.cs cs) => match d with
        | 0 => none
        | d + 1 => match mapO (inT imm g d) cs with
          | some us => some (.sl n sz us)
          | none => none
      | _ => none
    | .os k sz off n => match g k with
      | some (.fl ks xs) => match Nat.beq ks.length sz with
        | true => some (.fl ks n ((xs.drop (mulN off sz)).take (mulN n sz)))
        | false => none
      | _ => none
    | .agg cs => match d with
      | 0 => none
      | d + 1 => match mapO (inT imm g d) cs with
        | some us => some (.agg us)
        | none => none
    | .tup cs => match d with
      | 0 => none
      | d + 1 => match mapO (inT imm g d) cs with
        | some us => some (.tup us)
        | none => none
    | .op k b st i e => match g k with
      | some (.fl ks xs) => some (.fp ks xs b st i e)
      | some (.cs cs) => match d with
        | 0 => none
        | d + 1 => match mapO (inT imm g d) cs with
          | some us => some (.sp us (b + i * st))
          | none => none
      | _ => none
    | .fn f a c => match d with
      | 0 => none
      | d + 1 => match mapO (inT imm g d) a, mapO (inT imm g d) c with
        | some a, some c => some (.fn f a c)
        | _, _ => none
    | .ifc t x => match d with
      | 0 => none
      | d + 1 => match inT imm g d x with
        | some x => some (.ifc t x)
        | none => none
    | .sp cs i => match imm, d with
      | true, d + 1 => match mapO (inT imm g d) cs with
        | some us => some (.sp us i)
        | none => none
      | _, _ => none
    | .sl n sz cs => match imm, d with
      | true, d + 1 => match mapO (inT imm g d) cs with
        | some us => some (.sl n sz us)
        | none => none
      | _, _ => none
    | _ => none

theorem mapO_ok {w w' : World} {I I' m m' L L'} {f : T → Option T} (hf : ∀ t u v, f t = some u → TV w I m L t v → TV w' I' m' L' u v) : ∀ {cs us : List T} {vs : List Value}, mapO f cs = some us → TVs w I m L cs vs → TVs w' I' m' L' us vs := by
  intro cs
  induction cs with
  | nil => intro us vs h hv; cases h; cases hv; exact .nil
  | cons c cs ih =>
    intro us vs h hv
    cases hv with
    | cons hc hr =>
      simp only [mapO] at h
      split at h
      · cases h
      · rename_i u e1
        split at h
        · rename_i us e2; cases h; exact .cons (hf _ _ _ e1 hc) (ih e2 hr)
        · cases h

def noM : Nat → Option Nat := fun _ => none
def noL : Nat → Option (Option Nat) := fun _ => none
theorem inT_ok {w0 w : World} {O : Env} {m : Nat → Option Nat} {g : Mem} (h : HR w0 w O m g) {imm : Bool} {J : Nat → Prop} (hi : imm = true → ∀ b, Im m g b → J b) (ho : ∀ b, Own m (lens g) b → J b) :
    ∀ (d : Nat) (t u : T) (v : Value), inT imm g d t = some u → TV w (Im m g) m (lens g) t v → TV w J noM noL u v := by
  have fl0 : ∀ {ks : List IntKind} {xs : List Int} {n : Nat} {a : Option Addr} {cap : Nat}, n = 0 → xs.length = 0 → TV w J noM noL (.fl ks n xs) (.slice a n cap) := by
    intro ks xs n a cap h0 h1
    subst h0
    have : xs = [] := List.eq_nil_of_length_eq_zero h1
    subst this; exact .fl0
  have core : ∀ (d : Nat), (∀ d', d = d' + 1 → ∀ (t u : T) (v : Value), inT imm g d' t = some u → TV w (Im m g) m (lens g) t v → TV w J noM noL u v) →
      ∀ (t u : T) (v : Value), inT imm g d t = some u → TV w (Im m g) m (lens g) t v → TV w J noM noL u v := by
    intro d ih t u v hu hv
    unfold inT at hu
    split at hu
    · cases hu; obtain ⟨rfl, hp⟩ := hv.v_inv; exact .v hp
    · split at hu
      · cases hu
        rcases hv.fl_inv with ⟨rfl, rfl, a, cap, rfl⟩ | ⟨b, off, cap, rfl, hI, hb, hk, hn, hc, hp, hf⟩
        · exact .fl0
        · exact .fl (hi rfl _ hI) hb hk hn hc hp hf
      · split at hu
        · cases hu
          rcases hv.fl_inv with ⟨_, _, a, cap, rfl⟩ | ⟨b, off, cap, _, _, _, _, _, _, hp, _⟩
          · exact .fl0
          · omega
        · cases hu
    · split at hu
      · cases hu
        obtain ⟨b, off, rfl, hI, hb, hk, he, hf⟩ := hv.fp_inv
        exact .fp (hi rfl _ hI) hb hk he hf
      · cases hu
    · -- ow
      rename_i k sz n
      split at hu
      · rename_i ks xs e
        split at hu
        · rename_i hk
          have hk := Nat.eq_of_beq_eq_true hk
          cases hu
          have hL := lens_of e
          cases hv with
          | ow hos hl =>
            have hlen : n * sz = xs.length := by
              rcases hl with hl | hl <;> rw [hL] at hl
              · cases hl
              · injection hl with hl; injection hl with hl; exact hl.symm
            obtain ⟨hz, hle, h3⟩ := hos.os_inv hL
            rcases h3 with ⟨h0, a, rfl⟩ | ⟨cap, b, hm, rfl, hc, hr⟩
            · have : xs.length = 0 := by rw [← hlen, h0, Nat.zero_mul]
              have := fl0 (ks := ks) (a := a) (cap := 0) h0 this
              rwa [h0] at this ⊢
            · by_cases h0 : n = 0
              · exact fl0 h0 (by rw [← hlen, h0, Nat.zero_mul])
              · have hbv := h.blk k _ e
                rw [hm] at hbv
                rw [Nat.zero_mul]
                exact .fl (ho _ ⟨k, _, hL, hm⟩) hbv.2.1.lt hbv.1 (by rw [← hlen, hk]) hc (by omega) hbv.2.2.2
        · cases hu
      · rename_i cs e
        split at hu
        · cases hu
        · rename_i d'
          split at hu
          · rename_i us hus
            cases hu
            have hL := lens_of e
            have hll : ∀ {cs us : List T}, mapO (inT imm g d') cs = some us → us.length = cs.length := by
              intro cs
              induction cs with
              | nil => intro us h; cases h; rfl
              | cons c cs ih2 =>
                intro us h
                simp only [mapO] at h
                split at h
                · cases h
                · split at h
                  · rename_i us' e2; cases h; simp [ih2 e2]
                  · cases h
            cases hv with
            | ow hos hl =>
              have hlen : n * sz = cs.length := by
                rcases hl with hl | hl <;> rw [hL] at hl
                · cases hl
                · injection hl with hl; injection hl with hl; exact hl.symm
              obtain ⟨hz, hle, h3⟩ := hos.os_inv hL
              have sl0 : ∀ {a : Option Addr} {cap : Nat}, n = 0 → TV w J noM noL (.sl n sz us) (.slice a n cap) := by
                intro a cap h0
                have h1 : us.length = 0 := by rw [hll hus, ← hlen, h0, Nat.zero_mul]
                subst h0
                have : us = [] := List.eq_nil_of_length_eq_zero h1
                subst this; exact .sl0
              rcases h3 with ⟨h0, a, rfl⟩ | ⟨cap, b, hm, rfl, hc, hr⟩
              · have := sl0 (a := a) (cap := 0) h0
                rwa [h0] at this ⊢
              · by_cases h0 : n = 0
                · exact sl0 h0
                · have hbv := h.blk k _ e
                  rw [hm] at hbv
                  obtain ⟨vs, v1, v2, v3, v4⟩ := hbv
                  rw [Nat.zero_mul]
                  exact .sl (ho _ ⟨k, _, hL, hm⟩) v2.lt (by rw [hll hus, hlen]) hc (by omega) (mapO_ok (fun t u v => ih d' rfl t u v) hus v1) v4
          · cases hu
      · cases hu
    · -- os
      rename_i k sz off n
      split at hu
      · rename_i ks xs e
        split at hu
        · rename_i hk
          have hk := Nat.eq_of_beq_eq_true hk
          cases hu
          have hL := lens_of e
          obtain ⟨hz, hle, h3⟩ := hv.os_inv hL
          rw [Nat.add_mul] at hle
          simp only [mulN_eq]
          rcases h3 with ⟨h0, a, rfl⟩ | ⟨cap, b, hm, rfl, hc, hr⟩
          · have := fl0 (ks := ks) (xs := List.take (n * sz) (List.drop (off * sz) xs)) (a := a) (cap := 0) h0 (by simp [h0])
            rwa [h0] at this ⊢
          · by_cases h0 : n = 0
            · exact fl0 h0 (by simp [h0])
            · have hbv := h.blk k _ e
              rw [hm] at hbv
              refine .fl (ho _ ⟨k, _, hL, hm⟩) hbv.2.1.lt hbv.1 (by simp [hk]; omega) hc (by omega) (fun i x hx => ?_)
              have hlt : i < n * sz := by have := (List.getElem?_eq_some_iff.1 hx).1; simp at this; omega
              rw [List.getElem?_take_of_lt hlt, List.getElem?_drop] at hx
              have := hbv.2.2.2 _ _ hx
              rw [Nat.zero_add] at this
              rw [this, kc_mod (by rw [← hk]; exact Nat.mul_mod_left _ _)]
        · cases hu
      · cases hu
    · split at hu
      · cases hu
      · rename_i d'
        split at hu
        · rename_i us hus; cases hu; obtain ⟨vs, rfl, hvs⟩ := hv.agg_inv; exact .agg (mapO_ok (fun t u v => ih d' rfl t u v) hus hvs)
        · cases hu
    · split at hu
      · cases hu
      · rename_i d'
        split at hu
        · rename_i us hus; cases hu; obtain ⟨vs, rfl, hvs⟩ := hv.tup_inv; exact .tup (mapO_ok (fun t u v => ih d' rfl t u v) hus hvs)
        · cases hu
    · -- op
      rename_i k b st i e
      split at hu
      · rename_i ks xs eg
        cases hu
        have hL := lens_of eg
        obtain ⟨hle, bb, hm, rfl⟩ := hv.op_inv hL
        have hbv := h.blk k _ eg
        rw [hm] at hbv
        have := TV.fp (w := w) (I := J) (m := noM) (L := noL) (off := 0) (ho _ ⟨k, _, hL, hm⟩) hbv.2.1.lt hbv.1 hle hbv.2.2.2
        rwa [Nat.zero_add] at this
      · rename_i cs eg
        split at hu
        · cases hu
        · rename_i d'
          split at hu
          · rename_i us hus
            cases hu
            have hL := lens_of eg
            obtain ⟨hle, bb, hm, rfl⟩ := hv.op_inv hL
            have hbv := h.blk k _ eg
            rw [hm] at hbv
            obtain ⟨vs, v1, v2, v3, v4⟩ := hbv
            have := TV.sp (w := w) (I := J) (m := noM) (L := noL) (i := b + i * st) (off := 0) (ho _ ⟨k, _, hL, hm⟩) v2.lt (mapO_ok (fun t u v => ih d' rfl t u v) hus v1) v4
            rwa [Nat.zero_add] at this
          · cases hu
      · cases hu
    · split at hu
      · cases hu
      · rename_i d'
        split at hu
        · rename_i e1 e2
          cases hu
          cases hv with
          | fn ha hc => exact .fn (mapO_ok (fun t u v => ih d' rfl t u v) e1 ha) (mapO_ok (fun t u v => ih d' rfl t u v) e2 hc)
        · cases hu
    · split at hu
      · cases hu
      · rename_i d'
        split at hu
        · rename_i e1
          cases hu
          cases hv with
          | ifc hx => exact .ifc (ih d' rfl _ _ _ e1 hx)
        · cases hu
    · split at hu
      · rename_i d'
        split at hu
        · rename_i us hus
          cases hu
          obtain ⟨b, off, vs, rfl, hI, hb, hvs, hf⟩ := hv.sp_inv
          exact .sp (hi rfl _ hI) hb (mapO_ok (fun t u v => ih d' rfl t u v) hus hvs) hf
        · cases hu
      · cases hu
    · split at hu
      · rename_i d'
        split at hu
        · rename_i us hus
          cases hu
          rcases hv.sl_inv with ⟨rfl, rfl, a, cap, rfl⟩ | ⟨b, off, cap, vs, rfl, hI, hb, hn, hc, hp, hvs, hf⟩
          · cases hus; exact .sl0
          · have hm := mapO_ok (fun t u v => ih d' rfl t u v) hus hvs
            exact .sl (hi rfl _ hI) hb (by rw [hm.length, ← hvs.length, hn]) hc hp hm hf
        · cases hu
      · cases hu
    · cases hu
  intro d
  induction d with
  | zero => exact core 0 (fun d' h => by omega)
  | succ d ih => exact core (d + 1) (fun d' h => by have : d = d' := by omega
                                                    subst this; exact ih)
theorem inTs_ok {w0 w : World} {O : Env} {m : Nat → Option Nat} {g : Mem} (h : HR w0 w O m g) {d : Nat} {ts us : List T} {vs : List Value} (hu : mapO (inT true g d) ts = some us) (hv : TVs w (Im m g) m (lens g) ts vs) :
    TVs w (fun _ => True) noM noL us vs :=
  mapO_ok (fun t u v hh hv => inT_ok h (J := fun _ => True) (fun _ _ _ => trivial) (fun _ _ => trivial) d t u v hh hv) hu hv

/-- The program's variables, ahead of all calls. -/
def GlP (gl : Nat → T) (w : World) : Prop := ∀ g, TV w (fun _ => True) noM noL (gl g) (.pointer (some ⟨g, 0, none⟩))
theorem Goes.pure {w w' : World} (h : Below w.heap.size w w') {I : Nat → Prop} : Goes w w' I I noM noM noL noL :=
  ⟨⟨fun _ _ hI => hI, h.size, fun b o hb _ => h.cell (p := ⟨b, o, none⟩) hb, fun k s hs => (by cases hs), fun b n hr => (SameB.of_block (h.block _ hr.lt)).room _ hr⟩, fun b o ho _ => (h.block b (Array.getElem?_eq_some_iff.1 ho).1).trans ho⟩

mutual
def noImm : T → Bool
  | .v _ => true
  | .os _ _ _ _ => true
  | .ow _ _ _ => true
  | .op _ _ _ _ _ => true
  | .agg cs => noImms cs
  | .tup cs => noImms cs
  | .ifc _ x => noImm x
  | .fn _ a c => noImms a && noImms c
  | _ => false
def noImms : List T → Bool
  | [] => true
  | t :: r => noImm t && noImms r
end
def noImmB : Hp → Bool
  | [] => true
  | (_, .fl _ _) :: r => noImmB r
  | (_, .cs cs) :: r => noImms cs && noImmB r
  | _ => false
theorem noImm_ok {w : World} {I I' : Nat → Prop} {m : Nat → Option Nat} {L : Nat → Option (Option Nat)} {t : T} {v : Value} (hv : TV w I m L t v) : noImm t = true → TV w I' m L t v := by
  refine TV.rec (motive_1 := fun t v _ => noImm t = true → TV w I' m L t v) (motive_2 := fun ts vs _ => noImms ts = true → TVs w I' m L ts vs) ?_ ?_ ?_ ?_ ?_ ?_ ?_ ?_ ?_ ?_ ?_ ?_ ?_ ?_ ?_ ?_ ?_ ?_ ?_ ?_ ?_ ?_ hv
  · intro x h _; exact .v h
  · intro ks a cap h; cases h
  · intro ks n xs b off cap _ _ _ _ _ _ _ h; cases h
  · intro ks xs b0 st i e b off _ _ _ _ _ h; cases h
  · intro sz a cap h; cases h
  · intro n sz cs vs b off cap _ _ _ _ _ _ _ _ h; cases h
  · intro cs i vs b off _ _ _ _ _ h; cases h
  · intro k sz off n n' cap a h _; exact .osx h
  · intro k sz off l a h hl hz _; exact .os0 h hl hz
  · intro k sz off n l cap b h hm hl hc hz hr _; exact .os h hm hl hc hz hr
  · intro k sz n x h hl ih _; exact .ow (ih rfl) hl
  · intro k b st i e a h _; exact .opx h
  · intro k b st i e l bb h hm hl _; exact .op h hm hl
  · intro k a h _; exact .mpx h
  · intro k b h hm _; exact .mp h hm
  · intro cs vs h ih hh; exact .agg (ih hh)
  · intro cs vs h ih hh; exact .tup (ih hh)
  · intro t x y h ih hh; exact .ifc (ih hh)
  · intro f a c as cs ha hc iha ihc hh
    rw [noImm, Bool.and_eq_true] at hh
    exact .fn (iha hh.1) (ihc hh.2)
  · intro x h; cases h
  · intro _; exact .nil
  · intro t v ts vs h r ih1 ih2 hh
    rw [noImms, Bool.and_eq_true] at hh
    exact .cons (ih1 hh.1) (ih2 hh.2)
theorem noImms_ok {w : World} {I I' : Nat → Prop} {m : Nat → Option Nat} {L : Nat → Option (Option Nat)} {ts : List T} {vs : List Value} (hv : TVs w I m L ts vs) (h : noImms ts = true) : TVs w I' m L ts vs := by
  induction ts generalizing vs with
  | nil => cases hv; exact .nil
  | cons t ts ih =>
    rw [noImms, Bool.and_eq_true] at h
    cases hv with | cons a b => exact .cons (noImm_ok a h.1) (ih b h.2)
theorem lens_nil : lens (Hp.get []) = noL := by funext k; rfl
/-- No frame waits; no old block may be turned. -/
def Env.start (w : World) : Env := ⟨fun _ => False, fun _ => ⟨#[], []⟩, w.heap.size, w.heap.size, fun _ d _ hd => by cases hd⟩
theorem HR.nil (w : World) : HR w w (Env.start w) noM (Hp.get []) :=
  ⟨Fr.refl _ _, ⟨Nat.le_refl _, Nat.le_refl _, Nat.le_refl _⟩, fun k b h => (by cases h), fun k k' l l' n h => by (rw [lens_nil] at h; cases h), fun k l n h => by (rw [lens_nil] at h; cases h)⟩
theorem Im.nil (b : Nat) : Im noM (Hp.get []) b := by rintro ⟨k, l, h, _⟩; rw [lens_nil] at h; cases h
/-- A function that makes t of args, with blocks bs of its own, and leaves what was there as it was. -/
def Pure (P : Program) (gl : Nat → T) (f : FuncId) (args : List T) (t : T) (bs : Hp := []) : Prop :=
  ∀ w vs, GlP gl w → TVs w (fun _ => True) noM noL args vs → Calls P f vs.toArray w fun e w' => ∃ v m, e = .returned v ∧ HR w w' (Env.start w) m (Hp.get bs) ∧ TV w' (Im m (Hp.get bs)) m (lens (Hp.get bs)) t v

/-! ### what a walk is to end with -/
/-- nil, where a slice of the function's own is looked for. -/
def nrm1 (bs : Hp) (x : Value) (t : T) (H : Hp) (K : T → Hp → Prop) : Prop := match x with
  | .slice none 0 0 => match t with
    | .ow i sz _ => match isNew H.get (900000 + i) && Nat.blt 0 sz with
      | true => match bs.get i with
        | some (.fl (k :: ks) _) => K (.ow (900000 + i) sz 0) ((900000 + i, .fl (k :: ks) []) :: H)
        | some (.cs _) => K (.ow (900000 + i) sz 0) ((900000 + i, .cs []) :: H)
        | _ => K (.v (.slice none 0 0)) H
      | false => K (.v (.slice none 0 0)) H
    | _ => K (.v (.slice none 0 0)) H
  | x => K (.v x) H
def nrmL (f : T → T → Hp → (T → Hp → Prop) → Prop) : List T → List T → Hp → (List T → Hp → Prop) → Prop
  | u :: us, t :: ts, H, K => f u t H fun u H => nrmL f us ts H fun us H => K (u :: us) H
  | us, _, H, K => K us H
def nrm (bs : Hp) : Nat → T → T → Hp → (T → Hp → Prop) → Prop
  | 0, u, _, H, K => K u H
  | d + 1, u, t, H, K => match u with
    | .v x => nrm1 bs x t H K
    | .tup us => match t with
      | .tup ts => nrmL (nrm bs d) us ts H fun us H => K (.tup us) H
      | _ => K (.tup us) H
    | .agg us => match t with
      | .agg ts => nrmL (nrm bs d) us ts H fun us H => K (.agg us) H
      | _ => K (.agg us) H
    | u => K u H
def dedup : List Nat → List Nat → List Nat
  | [], acc => acc
  | k :: r, acc => match memN acc k with
    | true => dedup r acc
    | false => dedup r (acc ++ [k])
def keysB (H : Hp) : List Nat → List Nat
  | [] => []
  | k :: r => match H.get k with
    | some (.cs cs) => keysTs cs ++ keysB H r
    | _ => keysB H r
def reach (H : Hp) (u : T) : List Nat :=
  let l := dedup (keysT u) []
  let l := dedup (keysB H l) l
  let l := dedup (keysB H l) l
  dedup (keysB H l) l
def numb : List Nat → Nat → List (Nat × Nat)
  | [], _ => []
  | k :: r, i => (k, i) :: numb r (i + 1)
mutual
/-- Two tellings of a value are one. -/
def eqD : T → T → Prop
  | .tup a, t => match t with
    | .tup b => eqDs a b
    | t => T.tup a = t
  | .agg a, t => match t with
    | .agg b => eqDs a b
    | t => T.agg a = t
  | .ow k sz n, t => match t with
    | .ow k' sz' n' => match Nat.beq k k' && Nat.beq sz sz' with
      | true => n = n'
      | false => False
    | t => T.ow k sz n = t
  | u, t => u = t
def eqDs : List T → List T → Prop
  | [], [] => True
  | a :: r, b :: s => eqD a b ∧ eqDs r s
  | _, _ => False
end
def eqH : Hp → Hp → Prop
  | [], [] => True
  | (k, b) :: r, (k', b') :: r' => match Nat.beq k k' with
    | true => (match b with
      | .fl ks xs => match b' with
        | .fl ks' xs' => ks = ks' ∧ xs = xs'
        | b' => Blk.fl ks xs = b'
      | .cs cs => match b' with
        | .cs cs' => eqDs cs cs'
        | b' => Blk.cs cs = b'
      | b => b = b') ∧ eqH r r'
    | false => False
  | _, _ => False
mutual
theorem eqD_eq : ∀ (u t : T), eqD u t → u = t
  | .tup a, t, h => by
    simp only [eqD] at h
    split at h
    · rw [eqDs_eq _ _ h]
    · exact h
  | .agg a, t, h => by
    simp only [eqD] at h
    split at h
    · rw [eqDs_eq _ _ h]
    · exact h
  | .ow k sz n, t, h => by
    simp only [eqD] at h
    split at h
    · split at h
      · rename_i e
        rw [Bool.and_eq_true] at e
        rw [Nat.eq_of_beq_eq_true e.1, Nat.eq_of_beq_eq_true e.2, h]
      · exact h.elim
    · exact h
  | .v x, t, h => by simpa only [eqD] using h
  | .fl _ _ _, t, h => by simpa only [eqD] using h
  | .fp _ _ _ _ _ _, t, h => by simpa only [eqD] using h
  | .sl _ _ _, t, h => by simpa only [eqD] using h
  | .sp _ _, t, h => by simpa only [eqD] using h
  | .os _ _ _ _, t, h => by simpa only [eqD] using h
  | .op _ _ _ _ _, t, h => by simpa only [eqD] using h
  | .mp _, t, h => by simpa only [eqD] using h
  | .ifc _ _, t, h => by simpa only [eqD] using h
  | .fn _ _ _, t, h => by simpa only [eqD] using h
  | .dead, t, h => by simpa only [eqD] using h
theorem eqDs_eq : ∀ (a b : List T), eqDs a b → a = b
  | [], [], _ => rfl
  | [], _ :: _, h => by simp only [eqDs] at h
  | _ :: _, [], h => by simp only [eqDs] at h
  | a :: r, b :: s, h => by simp only [eqDs] at h; rw [eqD_eq a b h.1, eqDs_eq r s h.2]
end
theorem eqH_eq : ∀ {a b : Hp}, eqH a b → a = b := by
  intro a
  induction a with
  | nil => intro b h; cases b with
    | nil => rfl
    | cons p b => exact h.elim
  | cons p a ih =>
    obtain ⟨k, x⟩ := p
    intro b h
    cases b with
    | nil => exact h.elim
    | cons q b =>
      obtain ⟨k', y⟩ := q
      simp only [eqH] at h
      split at h
      · rename_i e
        rw [Nat.eq_of_beq_eq_true e, ih h.2]
        have h1 := h.1
        split at h1
        · split at h1
          · rw [h1.1, h1.2]
          · rw [h1]
        · split at h1
          · rw [eqDs_eq _ _ h1]
          · rw [h1]
        · rw [h1]
      · exact h.elim
def endE (u t : T) (H bs : Hp) : Prop := match bs with
  | [] => match H with
    | [] => eqD u t
    | _ :: _ => False
  | b :: bs => eqD u t ∧ eqH H (b :: bs)
theorem endE_eq {u t : T} {H bs : Hp} (h : endE u t H bs) : u = t ∧ H = bs := by
  unfold endE at h
  split at h
  · split at h
    · exact ⟨eqD_eq _ _ h, rfl⟩
    · exact h.elim
  · exact ⟨eqD_eq _ _ h.1, eqH_eq h.2⟩
/-- A numbering, laid out. -/
def fR : List Nat → Nat → (List (Nat × Nat) → Prop) → Prop
  | [], _, K => K []
  | k :: r, i, K => fN k fun k => fN i fun i => fR r (i + 1) fun l => K ((k, i) :: l)
theorem fR_eq (l : List Nat) (i : Nat) (K : List (Nat × Nat) → Prop) : fR l i K = K (numb l i) := by
  induction l generalizing i K with
  | nil => rfl
  | cons k r ih => rw [fR, fN_eq, fN_eq, ih]; rfl
def endO (d : Nat) (t : T) (bs : Hp) (u : T) (H : Hp) : Prop := nrm bs d u t H fun u H => fT u fun u => fU H [] fun H => fR (reach H u) 0 fun ren => match (Plan.mk [] ren []).fine with
  | true => fT (u.sub ((Plan.mk [] ren []).f H)) fun u' => fU ((Plan.mk [] ren []).H H) [] fun H' => endE u' t H' bs
  | false => False

section
variable {w0 : World} {O : Env}
theorem nrm1_ok {bs : Hp} {x : Value} {t : T} {H : Hp} {K : T → Hp → Prop} (h : nrm1 bs x t H K) {w : World} {m : Nat → Option Nat} {v : Value} {rest : List T} {vr : List Value} (hr : HR w0 w O m H.get) (hv : TV w (Im m H.get) m (lens H.get) (.v x) v) (hrest : TVs w (Im m H.get) m (lens H.get) rest vr) :
    ∃ u H' m', K u H' ∧ HR w0 w O m' H'.get ∧ TV w (Im m' H'.get) m' (lens H'.get) u v ∧ TVs w (Im m' H'.get) m' (lens H'.get) rest vr := by
  have same : ∀ {u : T}, K u H → TV w (Im m H.get) m (lens H.get) u v → ∃ u H' m', K u H' ∧ HR w0 w O m' H'.get ∧ TV w (Im m' H'.get) m' (lens H'.get) u v ∧ TVs w (Im m' H'.get) m' (lens H'.get) rest vr := fun hk hv => ⟨_, H, m, hk, hr, hv, hrest⟩
  have new : ∀ {q sz : Nat} {B : Blk}, H.get q = none → (B = .cs [] ∨ ∃ k ks, B = .fl (k :: ks) []) → 0 < sz → x = .slice none 0 0 → K (.ow q sz 0) ((q, B) :: H) → ∃ u H' m', K u H' ∧ HR w0 w O m' H'.get ∧ TV w (Im m' H'.get) m' (lens H'.get) u v ∧ TVs w (Im m' H'.get) m' (lens H'.get) rest vr := by
    intro q sz B hk hB hz hx hK
    have hbv : BV O w (Im (mk1 m q none) (upd H.get [(q, B)])) (mk1 m q none) (lens (upd H.get [(q, B)])) B none := by
      rcases hB with rfl | ⟨k, ks, rfl⟩
      · exact rfl
      · exact ⟨by simp, rfl⟩
    have hlen : B.len? = some 0 := by rcases hB with rfl | ⟨k, ks, rfl⟩ <;> rfl
    have hN := hr.newB (k := q) (n := none) (b := B) (Below.refl _ w) hk (fun q hq => by cases hq) hbv
    have G := Goes.new hr (k := q) (n := none) (b := B) (Below.refl _ w) hk (fun q hq => by cases hq)
    have hlk : lens (upd H.get [(q, B)]) q = some (some 0) := by rw [lens_upd, if_pos rfl, hlen]
    rw [← get_cons] at hN G hlk
    refine ⟨_, _, _, hK, hN, ?_, hrest.goes G⟩
    obtain ⟨rfl, -⟩ := hv.v_inv
    rw [hx]
    exact .ow (.os0 hlk (by omega) hz) (.inr (by rw [hlk]; simp))
  unfold nrm1 at h
  split at h
  · split at h
    · split at h
      · rename_i hc
        rw [Bool.and_eq_true, Nat.blt_eq] at hc
        split at h
        · exact new (isNew_none hc.1) (.inr ⟨_, _, rfl⟩) hc.2 rfl h
        · exact new (isNew_none hc.1) (.inl rfl) hc.2 rfl h
        · exact same h hv
      · exact same h hv
    · exact same h hv
  · exact same h hv
theorem nrm_ok {bs : Hp} {w : World} : ∀ (d : Nat) {u t : T} {H : Hp} {K : T → Hp → Prop}, nrm bs d u t H K → ∀ {m : Nat → Option Nat} {v : Value} {rest : List T} {vr : List Value}, HR w0 w O m H.get → TV w (Im m H.get) m (lens H.get) u v → TVs w (Im m H.get) m (lens H.get) rest vr →
    ∃ u H' m', K u H' ∧ HR w0 w O m' H'.get ∧ TV w (Im m' H'.get) m' (lens H'.get) u v ∧ TVs w (Im m' H'.get) m' (lens H'.get) rest vr := by
  intro d
  induction d with
  | zero => intro u t H K h m v rest vr hr hv hrest; exact ⟨_, _, _, h, hr, hv, hrest⟩
  | succ d ih =>
    have list : ∀ {us ts : List T} {H : Hp} {K : List T → Hp → Prop}, nrmL (nrm bs d) us ts H K → ∀ {m : Nat → Option Nat} {vs : List Value} {rest : List T} {vr : List Value}, HR w0 w O m H.get → TVs w (Im m H.get) m (lens H.get) us vs → TVs w (Im m H.get) m (lens H.get) rest vr →
        ∃ us H' m', K us H' ∧ HR w0 w O m' H'.get ∧ TVs w (Im m' H'.get) m' (lens H'.get) us vs ∧ TVs w (Im m' H'.get) m' (lens H'.get) rest vr := by
      intro us
      induction us with
      | nil => intro ts H K h m vs rest vr hr hv hrest; exact ⟨_, _, _, (by cases ts <;> exact h), hr, hv, hrest⟩
      | cons u us ihl =>
        intro ts H K h m vs rest vr hr hv hrest
        cases ts with
        | nil => exact ⟨_, _, _, h, hr, hv, hrest⟩
        | cons t ts =>
          cases hv with
          | cons a b =>
            rename_i v vs
            obtain ⟨u', H', m', h', hr', hv', hrest'⟩ := ih h hr a (b.append hrest)
            have hl : us.length = vs.length := b.length
            have b' : TVs w (Im m' H'.get) m' (lens H'.get) us vs := by
              have := hrest'.take us.length
              rw [List.take_left, hl, List.take_left] at this
              exact this
            have r' : TVs w (Im m' H'.get) m' (lens H'.get) rest vr := by
              have := hrest'.drop us.length
              rw [List.drop_left, hl, List.drop_left] at this
              exact this
            obtain ⟨us'', H'', m'', h'', hr'', hv'', hrest''⟩ := ihl h' hr' b' (.cons hv' r')
            cases hrest'' with
            | cons p q => exact ⟨_, _, _, h'', hr'', .cons p hv'', q⟩
    intro u t H K h m v rest vr hr hv hrest
    cases u
    case v x => exact nrm1_ok h hr hv hrest
    case tup us =>
      simp only [nrm] at h
      obtain ⟨vs, rfl, hvs⟩ := hv.tup_inv
      split at h
      · obtain ⟨us', H', m', h', hr', hv', hrest'⟩ := list h hr hvs hrest
        exact ⟨_, _, _, h', hr', .tup hv', hrest'⟩
      · exact ⟨_, _, _, h, hr, .tup hvs, hrest⟩
    case agg us =>
      simp only [nrm] at h
      obtain ⟨vs, rfl, hvs⟩ := hv.agg_inv
      split at h
      · obtain ⟨us', H', m', h', hr', hv', hrest'⟩ := list h hr hvs hrest
        exact ⟨_, _, _, h', hr', .agg hv', hrest'⟩
      · exact ⟨_, _, _, h, hr, .agg hvs, hrest⟩
    all_goals exact ⟨_, _, _, h, hr, hv, hrest⟩
end
/-- A pure function, by the walk of its code. d: how deep what it hands back may be; q: how deep functions are walked where they are called; lv: slots that are looked at in more than one region (none: all). -/
theorem pure_of {C : Ctx} (hC : C.good) {f : FuncId} {fn : Func} {c : Code} (hf : C.P.funcs[f]? = some fn) (hb : fn.body = some c) {args : List T} {t : T} {bs : Hp} (hn : args.length ≤ fn.ntmps) (d q : Nat) (lv : List Nat)
    (h : vcL C q fn.ntmps 0 false lv c (slots 0 args) [] (retK C fn (endO d t bs))) : Pure C.P C.gl f args t bs := by
  intro w vs hg ha
  have G : Goes w w (fun _ => True) (Im noM (Hp.get [])) noM noM noL (lens (Hp.get [])) := by
    rw [lens_nil]; exact ⟨⟨fun b _ _ => Im.nil b, Nat.le_refl _, fun _ _ _ _ => rfl, fun k s hs => (by cases hs), fun _ _ hr => hr⟩, fun _ _ ho _ => ho⟩
  refine (calls_ok (vs := vs.toArray) hf hb (HR.nil w) (by simpa using ha.goes G) (fun g => (hg g).goes G) hn (vcL_ok hC q _ _ _ _ _ _ _ _ h)).mono ?_
  rintro e w' ⟨v, u, H, m, rfl, hu, hr, hgl, hv⟩
  obtain ⟨u1, H1, m1, hK, r1, v1, -⟩ := nrm_ok d hu hr hv .nil
  rw [fT_eq, fU_eq, List.append_nil, fR_eq] at hK
  split at hK
  · rename_i hfine
    rw [fT_eq, fU_eq, List.append_nil] at hK
    have hgl1 : GlOk C w' (Im m1 H1.get) m1 (lens H1.get) := by
      intro g
      rcases hC.glq g with e | ⟨ks, xs, b, st, i, e', e⟩
      · rw [e]; exact .dead
      · have := hg g
        rw [e] at this ⊢
        obtain ⟨b', off, hv, hI, hb, hk, he, hf⟩ := this.fp_inv
        have hbel := r1.fr.below (fun _ h => h)
        rw [hv]
        refine .fp (fun ho => ?_) (Nat.lt_of_lt_of_le hb hbel.size) hk he (fun i x hx => (hbel.cell (p := ⟨b', _, none⟩) hb).trans (hf i x hx))
        obtain ⟨k, l, h1, h2⟩ := ho
        rcases r1.new k l b' h1 h2 with h3 | h3
        · omega
        · exact h3
    have hrl : Rl C 1 w (Env.start w) [(0, u1)] H1 ⟨#[v], []⟩ w' := by
      refine ⟨m1, r1, fun i => ?_, hgl1, ⟨trivial, fun d hd => by cases hd⟩, rfl⟩
      cases i with
      | zero => exact v1
      | succ i => exact .dead
    obtain ⟨m2, p1, p2, -, -, -⟩ := plan_ok (Plan.mk [0] (numb (reach H1 u1) 0) []) hfine hrl hC.glq
    have p3 := p2 0
    obtain ⟨e1, e2⟩ := endE_eq hK
    refine ⟨v, m2, rfl, ?_, ?_⟩
    · rw [← e2]; exact p1
    · rw [← e2, ← e1]; exact p3
  · exact hK.elim

mutual
/-- What is known of a value's lengths. -/
def WfT : T → Prop
  | .fl ks n xs => xs.length = n * ks.length ∧ n ≤ 9223372036854775807
  | .sl n sz cs => cs.length = n * sz ∧ n ≤ 9223372036854775807 ∧ WfTs cs
  | .agg cs => WfTs cs
  | .tup cs => WfTs cs
  | .sp cs _ => WfTs cs
  | _ => True
def WfTs : List T → Prop
  | [] => True
  | t :: r => WfT t ∧ WfTs r
end
theorem wf_TVs {w : World} {I : Nat → Prop} {m : Nat → Option Nat} {L : Nat → Option (Option Nat)} {ts : List T} {vs : List Value} (h : TVs w I m L ts vs) : WfTs ts := by
  refine TVs.rec (motive_1 := fun t v _ => WfT t) (motive_2 := fun ts vs _ => WfTs ts) ?_ ?_ ?_ ?_ ?_ ?_ ?_ ?_ ?_ ?_ ?_ ?_ ?_ ?_ ?_ ?_ ?_ ?_ ?_ ?_ ?_ ?_ h
  all_goals first
    | (intros; trivial)
    | (intros; simp only [WfT, WfTs]; first | assumption | exact ⟨by simp, by omega⟩ | (refine ⟨by assumption, ?_⟩; omega) | (refine ⟨by simp, by omega, trivial⟩) | (refine ⟨by assumption, ?_, by assumption⟩; omega) | exact ⟨by assumption, by assumption⟩)
/-- The lengths of what came in are known. -/
theorem pure_wf {P : Program} {gl : Nat → T} {f : FuncId} {args : List T} {t : T} {bs : Hp} (h : WfTs args → Pure P gl f args t bs) : Pure P gl f args t bs := fun w vs hg ha => h (wf_TVs ha) w vs hg ha

mutual
/-- The value itself, where all of it is known. -/
def valT : T → Option Value
  | .v x => some x
  | .agg cs => match valTs cs with
    | some l => some (.agg l.toArray)
    | none => none
  | .tup cs => match valTs cs with
    | some l => some (.tuple l.toArray)
    | none => none
  | _ => none
def valTs : List T → Option (List Value)
  | [] => some []
  | t :: r => match valT t, valTs r with
    | some v, some l => some (v :: l)
    | _, _ => none
end
theorem TV.val {w : World} {I : Nat → Prop} {m : Nat → Option Nat} {L : Nat → Option (Option Nat)} {t : T} {v : Value} (h : TV w I m L t v) : ∀ {u : Value}, valT t = some u → v = u := by
  refine TV.rec (motive_1 := fun t v _ => ∀ {u : Value}, valT t = some u → v = u) (motive_2 := fun ts vs _ => ∀ {l : List Value}, valTs ts = some l → vs = l) ?_ ?_ ?_ ?_ ?_ ?_ ?_ ?_ ?_ ?_ ?_ ?_ ?_ ?_ ?_ ?_ ?_ ?_ ?_ ?_ ?_ ?_ h
  all_goals first
    | (intro x h u e; simp only [valT, Option.some.injEq] at e; exact e)
    | (intros; rename_i e; simp only [valT] at e; cases e; done)
    | (intro cs vs h ih u e
       simp only [valT] at e
       split at e
       · rename_i l hl; cases e; have := ih hl; simp [← this]
       · cases e)
    | (intro l e; simp only [valTs] at e; cases e; rfl)
    | (intro t v ts vs h r ih1 ih2 l e
       simp only [valTs] at e
       split at e
       · rename_i e1 e2; cases e; rw [ih1 e1, ih2 e2]
       · cases e)
/-! ### a table of functions -/
structure Entry where
  f : FuncId
  d : Nat
  sp : List T → Option (Option Prop × T × Hp)
def look : List Entry → FuncId → Option Entry
  | [], _ => none
  | e :: r, f => match Nat.beq e.f f with
    | true => some e
    | false => look r f
def shK (key : Nat) : Nat → Sub := fun k => .to (key + k)
def shB (key : Nat) : Hp → List (Nat × Blk)
  | [] => []
  | (k, b) :: r => (key + k, b.sub (shK key)) :: shB key r
def keys4 : Hp → Bool
  | [] => true
  | (k, _) :: r => Nat.blt k 4 && keys4 r
def specOf (l : List Entry) (key : Nat) (f : FuncId) (args : List T) (g : Mem) : Option Out := match look l f with
  | some e => match mapO (inT true g e.d) args with
    | some us => match e.sp us with
      | some (c, t, bs) => match noImm t && noImmB bs && keys4 bs with
        | true => some ⟨c, t.sub (shK key), shB key bs⟩
        | false => none
      | none => none
    | none => none
  | none => none
/-- What an entry tells is so. -/
structure Entry.ok (P : Program) (gl : Nat → T) (e : Entry) : Prop where
  enters : ∀ vs w, (callFunc e.f vs).run P w = .ok (.enter e.f vs) w
  calls : ∀ args c t bs, e.sp args = some (c, t, bs) → (∀ p, c = some p → p) → Pure P gl e.f args t bs

theorem enters_of {P : Program} {f : FuncId} {fn : Func} (hf : P.funcs[f]? = some fn) (h1 : (fn.name == "runtime.NumGoroutine") = false) (h2 : fn.body.isNone = false) : ∀ vs w, (callFunc f vs).run P w = .ok (.enter f vs) w := by
  intro vs w
  simp only [callFunc, Sem.run_bind, run_program, Result.andThen_ok, hf, h1, h2, Bool.false_eq_true, if_false]
  rfl
theorem look_mem {l : List Entry} {f : FuncId} {e : Entry} (h : look l f = some e) : e ∈ l ∧ e.f = f := by
  induction l with
  | nil => cases h
  | cons a l ih =>
    simp only [look] at h
    split at h
    · rename_i hb; cases h; exact ⟨List.mem_cons_self .., Nat.eq_of_beq_eq_true hb⟩
    · obtain ⟨h1, h2⟩ := ih h; exact ⟨List.mem_cons_of_mem _ h1, h2⟩

/-- The setting of a walk: a program, its variables, a table; functions that are walked where they are called. -/
def ctx (P : Program) (gl : Nat → T) (l : List Entry) (eqs : List Nat) (heq : ∀ t, hasN eqs t = true → P.stoodInHeld t = false) (inl : List Inl) (hinl : ∀ i ∈ inl, i.ok P) : Ctx := ⟨P, gl, specOf l, eqs, heq, inl, hinl⟩
theorem inT_closed {imm : Bool} {g g' : Mem} : ∀ (d : Nat) (t : T) (D : Nat), (∀ q ∈ keysT t, Agree g g' D q) → inT imm g d t = inT imm g' d t := by
  have ml : ∀ {f f' : T → Option T} {l : List T}, (∀ t ∈ l, f t = f' t) → mapO f l = mapO f' l := by
    intro f f' l h
    induction l with
    | nil => rfl
    | cons t l ih => simp only [mapO]; rw [h t (List.mem_cons_self ..), ih (fun u hu => h u (List.mem_cons_of_mem _ hu))]
  have kl : ∀ {l : List T} {q : Nat}, ∀ t ∈ l, q ∈ keysT t → q ∈ keysTs l := by
    intro l q
    induction l with
    | nil => intro t ht; simp at ht
    | cons a l ih =>
      intro t ht hq
      simp only [keysTs]
      rcases List.mem_cons.1 ht with rfl | ht
      · exact List.mem_append.2 (.inl hq)
      · exact List.mem_append.2 (.inr (ih t ht hq))
  intro d
  induction d with
  | zero =>
    intro t D h
    cases t <;> first | rfl | (unfold inT; cases imm <;> rfl) | (have h1 := (h _ (List.mem_singleton.2 rfl)).eq; unfold inT; simp only [h1])
  | succ d ih =>
    have cells : ∀ {k D : Nat} {cs : List T}, Agree g g' D k → g' k = some (.cs cs) → mapO (inT imm g d) cs = mapO (inT imm g' d) cs := by
      intro k D cs hA hc
      obtain ⟨D', h'⟩ := hA.cs hc
      exact ml (fun t ht => ih t D' (fun q hq => h' q (kl t ht hq)))
    intro t D h
    cases t <;> first | rfl | skip
    case os k sz off n => have h1 := (h _ (List.mem_singleton.2 rfl)).eq; unfold inT; simp only [h1]
    case ow k sz n =>
      have hA := h k (List.mem_singleton.2 rfl)
      unfold inT
      simp only [hA.eq]
      cases e : g' k with
      | none => rfl
      | some B =>
        cases B with
        | cs cs => simp only [cells hA e]
        | fl ks xs => rfl
        | mp kk vk es => rfl
        | gone => rfl
        | gh id ts => rfl
        | lp id l st pe n ts ps asg body => rfl
    case op k b st i e0 =>
      have hA := h k (List.mem_singleton.2 rfl)
      unfold inT
      simp only [hA.eq]
      cases e : g' k with
      | none => rfl
      | some B =>
        cases B with
        | cs cs => simp only [cells hA e]
        | fl ks xs => rfl
        | mp kk vk es => rfl
        | gone => rfl
        | gh id ts => rfl
        | lp id l st pe n ts ps asg body => rfl
    case sl n sz cs => unfold inT; cases imm <;> simp only [ml (fun t ht => ih t D (fun q hq => h q (by simpa only [keysT] using kl t ht hq)))]
    case agg cs => unfold inT; simp only [ml (fun t ht => ih t D (fun q hq => h q (by simpa only [keysT] using kl t ht hq)))]
    case tup cs => unfold inT; simp only [ml (fun t ht => ih t D (fun q hq => h q (by simpa only [keysT] using kl t ht hq)))]
    case sp cs i => unfold inT; cases imm <;> simp only [ml (fun t ht => ih t D (fun q hq => h q (by simpa only [keysT] using kl t ht hq)))]
    case ifc ty x => unfold inT; simp only [ih x D (fun q hq => h q (by simpa only [keysT] using hq))]
    case fn f a c =>
      unfold inT; simp only [ml (fun t ht => ih t D (fun q hq => h q (by simp only [keysT]; exact List.mem_append.2 (.inl (kl t ht hq))))), ml (fun t ht => ih t D (fun q hq => h q (by simp only [keysT]; exact List.mem_append.2 (.inr (kl t ht hq)))))]
theorem mapO_closed {imm : Bool} {g g' : Mem} {d D : Nat} {l : List T} (h : ∀ q ∈ keysTs l, Agree g g' D q) : mapO (inT imm g d) l = mapO (inT imm g' d) l := by
  induction l with
  | nil => rfl
  | cons t l ih =>
    simp only [keysTs] at h
    simp only [mapO]; rw [inT_closed (g' := g') d t D (fun q hq => h q (List.mem_append.2 (.inl hq))), ih (fun q hq => h q (List.mem_append.2 (.inr hq)))]

/-- A table whose entries are so makes a good setting. -/
theorem shB_get {key : Nat} {bs : Hp} {g : Mem} : ∀ q, upd g (shB key bs) q = match (if key ≤ q then bs.get (q - key) else none) with
    | some b => some (b.sub (shK key))
    | none => g q := by
  intro q
  induction bs with
  | nil => by_cases h : key ≤ q <;> simp [shB, upd, Hp.get, h]
  | cons p bs ih =>
    obtain ⟨k, b⟩ := p
    simp only [shB, upd, Hp.get]
    by_cases h : key ≤ q
    · rw [if_pos h] at ih ⊢
      cases e : Nat.beq (key + k) q
      · have : Nat.beq k (q - key) = false := by
          cases e2 : Nat.beq k (q - key)
          · rfl
          · have := Nat.eq_of_beq_eq_true e2; subst this
            rw [show key + (q - key) = q by omega, Nat.beq_refl] at e; cases e
        rw [this]; exact ih
      · have := Nat.eq_of_beq_eq_true e; subst this
        rw [show key + k - key = k by omega, Nat.beq_refl]; rfl
    · rw [if_neg h] at ih ⊢
      have : Nat.beq (key + k) q = false := by
        cases e2 : Nat.beq (key + k) q
        · rfl
        · have := Nat.eq_of_beq_eq_true e2; omega
      rw [this]; exact ih
theorem keys4_get {bs : Hp} (h : keys4 bs = true) {k : Nat} {b : Blk} (hk : bs.get k = some b) : k < 4 := by
  induction bs with
  | nil => cases hk
  | cons p bs ih =>
    obtain ⟨j, c⟩ := p
    rw [keys4, Bool.and_eq_true, Nat.blt_eq] at h
    simp only [Hp.get] at hk
    cases e : Nat.beq j k
    · rw [e] at hk; exact ih h.2 hk
    · have := Nat.eq_of_beq_eq_true e; subst this; exact h.1
theorem noImmB_get {bs : Hp} (h : noImmB bs = true) {k : Nat} {b : Blk} (hk : bs.get k = some b) : (∃ ks xs, b = .fl ks xs) ∨ ∃ cs, b = .cs cs ∧ noImms cs = true := by
  induction bs with
  | nil => cases hk
  | cons p bs ih =>
    obtain ⟨j, c⟩ := p
    have hr : noImmB bs = true ∧ ((∃ ks xs, c = .fl ks xs) ∨ ∃ cs, c = .cs cs ∧ noImms cs = true) := by
      cases c with
      | fl ks xs => exact ⟨h, .inl ⟨_, _, rfl⟩⟩
      | cs cs => rw [noImmB, Bool.and_eq_true] at h; exact ⟨h.2, .inr ⟨_, rfl, h.1⟩⟩
      | mp kk vk es => cases h
      | gone => cases h
      | gh id ts => cases h
      | lp id l st pe n ts ps asg body => cases h
    simp only [Hp.get] at hk
    cases e : Nat.beq j k
    · rw [e] at hk; exact ih hr.1 hk
    · rw [e] at hk; cases hk; exact hr.2
theorem lens_none {g : Mem} {k : Nat} (h : g k = none) : lens g k = none := by unfold lens; rw [h]
/-- What a function has made of its own becomes the caller's. -/
theorem HR.take {w0 w w' : World} {O : Env} {m m' : Nat → Option Nat} {g : Mem} {bs : Hp} {key : Nat} (h : HR w0 w O m g) (hb : HR w w' (Env.start w) m' bs.get) (hk : news g key = true) (h4 : keys4 bs = true) (hn : noImmB bs = true) {t : T} {v : Value} (ht : noImm t = true) (hv : TV w' (Im m' bs.get) m' (lens bs.get) t v) :
    ∃ m'', HR w0 w' O m'' (upd g (shB key bs)) ∧ Goes w w' (Im m g) (Im m'' (upd g (shB key bs))) m m'' (lens g) (lens (upd g (shB key bs))) ∧ TV w' (Im m'' (upd g (shB key bs))) m'' (lens (upd g (shB key bs))) (t.sub (shK key)) v := by
  have bel := hb.fr.below (fun _ h => h)
  have G0 := Goes.of_below bel h
  let m'' : Nat → Option Nat := fun q => match (if key ≤ q then bs.get (q - key) else none) with
    | some _ => m' (q - key)
    | none => m q
  have gN : ∀ q, (if key ≤ q then bs.get (q - key) else none) = none → upd g (shB key bs) q = g q ∧ m'' q = m q := fun q e => ⟨by rw [shB_get, e], by simp only [m'', e]⟩
  have gS : ∀ k b, bs.get k = some b → upd g (shB key bs) (key + k) = some (b.sub (shK key)) ∧ m'' (key + k) = m' k := fun k b e => by
    have e1 : (if key ≤ key + k then bs.get (key + k - key) else none) = some b := by rw [if_pos (by omega), show key + k - key = k by omega]; exact e
    exact ⟨by rw [shB_get, e1], by simp only [m'', e1]; rw [show key + k - key = k by omega]⟩
  have old : ∀ q b, (if key ≤ q then bs.get (q - key) else none) = some b → g q = none := fun q b e => by
    split at e
    · have := keys4_get h4 e
      unfold news at hk
      simp only [Bool.and_eq_true] at hk
      have : q = key ∨ q = key + 1 ∨ q = key + 2 ∨ q = key + 3 := by omega
      rcases this with rfl | rfl | rfl | rfl
      · exact isNew_none hk.1.1.1
      · exact isNew_none hk.1.1.2
      · exact isNew_none hk.1.2
      · exact isNew_none hk.2
    · cases e
  have cs : ∀ q, (if key ≤ q then bs.get (q - key) else none) = none ∨ ∃ b, (if key ≤ q then bs.get (q - key) else none) = some b ∧ key ≤ q ∧ bs.get (q - key) = some b := fun q => by
    cases e : (if key ≤ q then bs.get (q - key) else none) with
    | none => exact .inl rfl
    | some b =>
      right
      refine ⟨b, rfl, ?_⟩
      split at e
      · exact ⟨by assumption, e⟩
      · cases e
  have lN : ∀ q, (if key ≤ q then bs.get (q - key) else none) = none → lens (upd g (shB key bs)) q = lens g q := fun q e => by unfold lens; rw [(gN q e).1]
  have lS : ∀ k b, bs.get k = some b → lens (upd g (shB key bs)) (key + k) = lens bs.get k := fun k b e => by rw [lens_of (gS k b e).1, sub_len, lens_of e]
  have own : ∀ q l x, lens (upd g (shB key bs)) q = some (some l) → m'' q = some x → (lens g q = some (some l) ∧ m q = some x) ∨ ∃ k b, q = key + k ∧ bs.get k = some b ∧ lens bs.get k = some (some l) ∧ m' k = some x := fun q l x h1 h2 => by
    rcases cs q with e | ⟨b, e, hq, e2⟩
    · left; rw [lN q e] at h1; rw [(gN q e).2] at h2; exact ⟨h1, h2⟩
    · right
      obtain ⟨k, rfl⟩ : ∃ k, q = key + k := ⟨q - key, by omega⟩
      rw [show key + k - key = k by omega] at e2
      rw [lS k b e2] at h1; rw [(gS k b e2).2] at h2
      exact ⟨k, b, rfl, e2, h1, h2⟩
  have newB : ∀ k l x, lens bs.get k = some (some l) → m' k = some x → w.heap.size ≤ x := fun k l x h1 h2 => by
    rcases hb.new k l x h1 h2 with h3 | h3
    · exact h3
    · exact h3.elim
  have G : Goes w w' (Im m g) (Im m'' (upd g (shB key bs))) m m'' (lens g) (lens (upd g (shB key bs))) := by
    refine ⟨⟨fun b hb' hI ho => ?_, bel.size, G0.cell, fun k s hs => ?_, G0.room⟩, G0.odd⟩
    · obtain ⟨q, l, h1, h2⟩ := ho
      rcases own q l b h1 h2 with ⟨a1, a2⟩ | ⟨k, B, _, _, a3, a4⟩
      · exact hI ⟨q, l, a1, a2⟩
      · have := newB k l b a3 a4; omega
    · rcases cs k with e | ⟨b, e, hq, e2⟩
      · rw [lN k e]
        cases s with
        | none => exact .inl hs
        | some l => exact .inr ⟨l, rfl, hs, (gN k e).2⟩
      · rw [lens_none (old k b e)] at hs; cases hs
  have S : SubOk w' (fun _ => False) (Im m'' (upd g (shB key bs))) m' m'' (lens bs.get) (lens (upd g (shB key bs))) (shK key) := by
    refine ⟨fun b hb => hb.elim, fun k k' s hk' hs => ?_, fun k ks xs l hk' => by cases hk'⟩
    cases hk'
    have : ∃ b, bs.get k = some b := by
      unfold lens at hs
      cases e : bs.get k with
      | none => rw [e] at hs; cases hs
      | some b => exact ⟨b, rfl⟩
    obtain ⟨b, e⟩ := this
    exact ⟨by rw [lS k b e]; exact hs, (gS k b e).2⟩
  refine ⟨m'', ⟨h.fr.trans (Fr.of_below bel), ⟨h.lo.1, h.lo.2.1, Nat.le_trans h.lo.2.2 bel.size⟩, fun q B hq => ?_, fun k k' l l' n h1 h2 h3 h4 => ?_, fun k l n h1 h2 => ?_⟩, G, (noImm_ok hv ht).sub S⟩
  · rcases cs q with e | ⟨b, e, hq', e2⟩
    · rw [(gN q e).1] at hq
      rw [(gN q e).2]
      have hbv := h.blk q B hq
      cases hl : B.len? with
      | some l => exact BV.goes G (fun x hx => SameB.of_block (bel.block _ (h.lt (by rw [lens_of hq, hl]) hx))) hbv
      | none =>
        have hgv : isG B = true := by cases B <;> first | rfl | cases hl
        exact BV_of_GV hgv (GV.goes G (GV_of_BV hgv hbv)) _
    · obtain ⟨k, rfl⟩ : ∃ k, q = key + k := ⟨q - key, by omega⟩
      rw [show key + k - key = k by omega] at e2
      rw [(gS k b e2).1] at hq
      cases hq
      rw [(gS k b e2).2]
      have hbv := hb.blk k b e2
      rcases noImmB_get hn e2 with ⟨ks, xs, rfl⟩ | ⟨cs', rfl, hc⟩
      · cases e3 : m' k with
        | none => rw [e3] at hbv; exact hbv
        | some x => rw [e3] at hbv; exact hbv
      · cases e3 : m' k with
        | none => rw [e3] at hbv; have hbv : cs' = [] := hbv; subst hbv; rfl
        | some x => rw [e3] at hbv; obtain ⟨vs, a1, a2⟩ := hbv; exact ⟨vs, (noImms_ok a1 hc).sub S, a2⟩
  · rcases own k l n h1 h3 with ⟨a1, a2⟩ | ⟨i, b, rfl, e, a1, a2⟩ <;> rcases own k' l' n h2 h4 with ⟨b1, b2⟩ | ⟨i', b', rfl, e', b1, b2⟩
    · exact h.inj _ _ _ _ _ a1 b1 a2 b2
    · have := newB _ _ _ b1 b2; have := h.lt a1 a2; omega
    · have := newB _ _ _ a1 a2; have := h.lt b1 b2; omega
    · rw [hb.inj _ _ _ _ _ a1 b1 a2 b2]
  · rcases own k l n h1 h2 with ⟨a1, a2⟩ | ⟨i, b, rfl, e, a1, a2⟩
    · exact h.new _ _ _ a1 a2
    · have := newB _ _ _ a1 a2; have := h.fr.size; left; omega
/-- A table whose entries are so makes a good setting. -/
theorem ctx_good {P : Program} {gl : Nat → T} {l : List Entry} {eqs : List Nat} {heq : ∀ t, hasN eqs t = true → P.stoodInHeld t = false} {inl : List Inl} {hinl : ∀ i ∈ inl, i.ok P} (hm : P.follows .mixedOrders = true) (hl : ∀ e ∈ l, e.ok P gl) (hgl : ∀ g, gl g = .dead ∨ ∃ ks xs b st i e, gl g = .fp ks xs b st i e) : (ctx P gl l eqs heq inl hinl).good := by
  refine ⟨?_, ?_, hm, hgl⟩
  · intro key f args g o w0 w O m vs hs hok hnw h hg ha
    simp only [ctx, specOf] at hs
    split at hs
    · rename_i e he
      split at hs
      · rename_i us hus
        split at hs
        · rename_i c t bs hct
          split at hs
          · rename_i hchk
            simp only [Bool.and_eq_true] at hchk
            cases hs
            obtain ⟨hmem, rfl⟩ := look_mem he
            have E := hl e hmem
            have hvs := inTs_ok h hus ha
            have hp := E.calls us c t bs hct hok
            have hgp : GlP gl w := by
              intro q
              have := hg q
              change TV w _ m _ (gl q) _ at this
              rcases hgl q with e1 | ⟨ks, xs, b, st, i, e', e1⟩
              · rw [e1]; exact .dead
              · rw [e1] at this ⊢
                obtain ⟨b', off, hv, hI, hb, hk, he, hf⟩ := this.fp_inv
                rw [hv]; exact .fp trivial hb hk he hf
            refine .inl ⟨E.enters _ _, (hp w vs hgp hvs).mono ?_⟩
            rintro e' w' ⟨v, m', rfl, hb, hv⟩
            obtain ⟨m'', q1, q2, q3⟩ := h.take hb hnw hchk.2 hchk.1.2 hchk.1.1 hv
            exact ⟨v, rfl, m'', q1, q2, q3⟩
          · cases hs
        · cases hs
      · cases hs
    · cases hs
  · intro key f args g g' h
    simp only [ctx, specOf]
    split
    · rename_i e _; rw [mapO_closed (D := 2) h]
    · rfl

/-! ### functions that turn what they are given: told by hand -/
structure Raw where
  f : FuncId
  sp : Nat → List T → Mem → Option Out
structure Raw.ok (P : Program) (r : Raw) : Prop where
  enters : ∀ vs w, (callFunc r.f vs).run P w = .ok (.enter r.f vs) w
  loc : ∀ key args g g', (∀ q ∈ keysTs args, Agree g g' 2 q) → r.sp key args g = r.sp key args g'
  calls : ∀ key args g o w0 w O m vs, r.sp key args g = some o → o.ok → news g key = true → HR w0 w O m g → TVs w (Im m g) m (lens g) args vs →
    Calls P r.f vs.toArray w fun e w' => ∃ v, e = .returned v ∧ ∃ m', HR w0 w' O m' (upd g o.up) ∧ Goes w w' (Im m g) (Im m' (upd g o.up)) m m' (lens g) (lens (upd g o.up)) ∧ TV w' (Im m' (upd g o.up)) m' (lens (upd g o.up)) o.t v
def lookR' : List Raw → FuncId → Option Raw
  | [], _ => none
  | e :: r, f => match Nat.beq e.f f with
    | true => some e
    | false => lookR' r f
theorem lookR'_mem {l : List Raw} {f : FuncId} {e : Raw} (h : lookR' l f = some e) : e ∈ l ∧ e.f = f := by
  induction l with
  | nil => cases h
  | cons a l ih =>
    simp only [lookR'] at h
    split at h
    · rename_i hb; cases h; exact ⟨List.mem_cons_self .., Nat.eq_of_beq_eq_true hb⟩
    · obtain ⟨h1, h2⟩ := ih h; exact ⟨List.mem_cons_of_mem _ h1, h2⟩
def specR (l : List Entry) (rs : List Raw) (key : Nat) (f : FuncId) (args : List T) (g : Mem) : Option Out := match lookR' rs f with
  | some r => r.sp key args g
  | none => specOf l key f args g
def ctxR (P : Program) (gl : Nat → T) (l : List Entry) (rs : List Raw) (eqs : List Nat) (heq : ∀ t, hasN eqs t = true → P.stoodInHeld t = false) (inl : List Inl) (hinl : ∀ i ∈ inl, i.ok P) : Ctx := ⟨P, gl, specR l rs, eqs, heq, inl, hinl⟩
theorem ctxR_good {P : Program} {gl : Nat → T} {l : List Entry} {rs : List Raw} {eqs : List Nat} {heq : ∀ t, hasN eqs t = true → P.stoodInHeld t = false} {inl : List Inl} {hinl : ∀ i ∈ inl, i.ok P} (hm : P.follows .mixedOrders = true) (hl : ∀ e ∈ l, e.ok P gl) (hr : ∀ r ∈ rs, r.ok P) (hgl : ∀ g, gl g = .dead ∨ ∃ ks xs b st i e, gl g = .fp ks xs b st i e) : (ctxR P gl l rs eqs heq inl hinl).good := by
  have h0 := ctx_good (eqs := eqs) (heq := heq) (inl := inl) (hinl := hinl) hm hl hgl
  refine ⟨?_, ?_, hm, hgl⟩
  · intro key f args g o w0 w O m vs hs hok hnw h hg ha
    simp only [ctxR, specR] at hs
    split at hs
    · rename_i r he
      obtain ⟨hmem, rfl⟩ := lookR'_mem he
      have R := hr r hmem
      exact .inl ⟨R.enters _ _, R.calls _ _ _ _ _ _ _ _ _ hs hok hnw h ha⟩
    · exact h0.ok key f args g o w0 w O m vs hs hok hnw h hg ha
  · intro key f args g g' h
    simp only [ctxR, specR]
    split
    · rename_i r he
      obtain ⟨hmem, rfl⟩ := lookR'_mem he
      exact (hr r hmem).loc _ _ _ _ h
    · exact h0.loc key f args g g' h

/-- So many rounds of a loop, one by one. -/
noncomputable def Rnds (C : Ctx) (d n : Nat) (rd : Bool) (base : Nat) (lv : List Nat) (body : Code) (K : Exit → Sl → Hp → Prop) : Nat → Sl → Hp → Prop
  | 0, _, _ => False
  | q + 1, ts, H => vcL C d n base rd lv body ts H (seqK (fun ts' H' => ∃ p : Plan, p.fine = true ∧ Rnds C d n rd base lv body K q (p.ts H' ts') (p.H H')) K)
theorem TW.roundsV {C : Ctx} {n : Nat} {rd : Bool} (hC : C.good) (d : Nat) {base : Nat} {lv : List Nat} {body : Code} {ts : Sl} {H : Hp} {K : Exit → Sl → Hp → Prop} (q : Nat) (h : Rnds C d n rd base lv body K q ts H) : TW C n rd (.loop body) ts H K := by
  refine ⟨fun ro hro w0 O a w hr => ?_⟩
  have key : ∀ q ts H a w, Rnds C d n rd base lv body K q ts H → Rl C n w0 O ts H a w → Code.roundsIn (FR ro) 0 C.P body (fun e a' w' => ∃ ts' H', K e ts' H' ∧ Rl C n w0 O ts' H' a' w') q a w := by
    intro q
    induction q with
    | zero => intro ts H a w h; exact h.elim
    | succ q ih =>
      intro ts H a w h hr
      rw [roundsIn_succ]
      refine wpIn_mono ((vcL_ok hC d _ _ _ _ _ _ _ _ h).out ro hro w0 O a w hr) ?_
      rintro e a' w' ⟨ts', H', hK, hr'⟩
      cases e with
      | normal => obtain ⟨p, p1, h2⟩ := hK; exact ih _ _ _ _ h2 (plan_ok p p1 hr' hC.glq)
      | exit id => exact ⟨ts', H', hK, hr'⟩
      | goto l => exact ⟨ts', H', hK, hr'⟩
      | ret => exact ⟨ts', H', hK, hr'⟩
      | panic c => exact ⟨ts', H', hK, hr'⟩
      | outgrown => exact ⟨ts', H', hK, hr'⟩
  exact wpIn_loop_rounds q (key q ts H a w h hr)
end Go.Proofs.YtnplgklnkcjmnaaGreatDoor.Am
namespace Go.Proofs.YtnplgklnkcjmnaaGreatDoor.Am
set_option linter.unusedVariables false
open Go.RowKit
theorem ifB_dec {p : Prop} [Decidable p] {A B : Prop} (ha : p → A) (hb : ¬ p → B) : ifB (decide p) A B := by
  by_cases h : p
  · rw [decide_eq_true h]; exact ha h
  · rw [decide_eq_false h]; exact hb h
theorem ifB_eq {x y : Int} {A B : Prop} (ha : x = y → A) (hb : x ≠ y → B) : ifB (x == y) A B := by
  by_cases h : x = y
  · rw [beq_iff_eq.2 h]; exact ha h
  · rw [beq_eq_false_iff_ne.2 h]; exact hb h
theorem ifB_ne {x y : Int} {A B : Prop} (ha : x ≠ y → A) (hb : x = y → B) : ifB (x != y) A B := by
  by_cases h : x = y
  · rw [bne_eq_false_iff_eq.2 h]; exact hb h
  · rw [bne_iff_ne.2 h]; exact ha h
theorem ifB_t {x : Bool} {A B : Prop} (hx : x = true) (h : A) : ifB x A B := by subst hx; exact h
theorem ifB_f {x : Bool} {A B : Prop} (hx : x = false) (h : B) : ifB x A B := by subst hx; exact h
theorem ifB_not {x : Bool} {A B : Prop} (h : ifB x B A) : ifB (!x) A B := by cases x <;> exact h
theorem ifB_and {x y : Bool} {A B : Prop} (h : ifB x (ifB y A B) B) : ifB (x && y) A B := by cases x <;> exact h
theorem ifB_or {x y : Bool} {A B : Prop} (h : ifB x A (ifB y A B)) : ifB (x || y) A B := by cases x <;> exact h
/-! ### tables -/
def AllOk (P : Program) (gl : Nat → T) : List Entry → Prop
  | [] => True
  | e :: r => e.ok P gl ∧ AllOk P gl r
theorem AllOk.mem {P : Program} {gl : Nat → T} : ∀ {l : List Entry}, AllOk P gl l → ∀ e ∈ l, e.ok P gl := by
  intro l
  induction l with
  | nil => intro _ e he; cases he
  | cons a l ih =>
    intro h e he
    rcases List.mem_cons.1 he with rfl | he
    · exact h.1
    · exact ih h.2 e he
def InlOk (P : Program) : List Inl → Prop
  | [] => True
  | e :: r => e.ok P ∧ InlOk P r
theorem InlOk.mem {P : Program} : ∀ {l : List Inl}, InlOk P l → ∀ e ∈ l, e.ok P := by
  intro l
  induction l with
  | nil => intro _ e he; cases he
  | cons a l ih =>
    intro h e he
    rcases List.mem_cons.1 he with rfl | he
    · exact h.1
    · exact ih h.2 e he
def HeldOk (P : Program) : List Nat → Prop
  | [] => True
  | t :: r => P.stoodInHeld t = false ∧ HeldOk P r
theorem HeldOk.mem {P : Program} : ∀ {l : List Nat}, HeldOk P l → ∀ t, hasN l t = true → P.stoodInHeld t = false := by
  intro l
  induction l with
  | nil => intro _ t h; cases h
  | cons a l ih =>
    intro h t ht
    simp only [hasN] at ht
    split at ht
    · rename_i e; rw [← Nat.eq_of_beq_eq_true e]; exact h.1
    · exact ih h.2 t ht
/-- What is walked where it is called: by the program's own text. -/
theorem Inl.mk_ok {P : Program} {f : FuncId} {fn : Func} {c : Code} {lv : List Nat} (hf : P.funcs[f]? = some fn) (hb : fn.body = some c) (h1 : (fn.name == "runtime.NumGoroutine") = false) (h2 : fn.body.isNone = false) : Inl.ok P ⟨f, fn, c, lv⟩ :=
  ⟨hf, hb, enters_of hf h1 h2⟩
theorem HR.start_below {w w' : World} (h : Below w.heap.size w w') : HR w w' (Env.start w) noM (Hp.get []) :=
  ⟨Fr.of_below h, ⟨Nat.le_refl _, Nat.le_refl _, h.size⟩, fun k b h => (by cases h), fun k k' l l' n h => by (rw [lens_nil] at h; cases h), fun k l n h => by (rw [lens_nil] at h; cases h)⟩
/-- A function of values that are wholly known, by its contract. -/
theorem pure_v1 {P : Program} {gl : Nat → T} {f : FuncId} {ts : List T} {vs : List Value} {x : Value} (hv : valTs ts = some vs) (hx : plain x = true) (h : ∀ w, GlP gl w → Calls P f vs.toArray w fun e w' => e = .returned x ∧ Below w.heap.size w w') : Pure P gl f ts (.v x) := by
  intro w us hg ha
  have key : ∀ {ts : List T} {us vs : List Value}, TVs w (fun _ => True) noM noL ts us → valTs ts = some vs → us = vs := by
    intro ts
    induction ts with
    | nil => intro us vs h e; cases h; cases e; rfl
    | cons t ts ih =>
      intro us vs h e
      simp only [valTs] at e
      split at e
      · rename_i e1 e2; cases e; cases h with | cons a b => rw [a.val e1, ih b e2]
      · cases e
  have := key ha hv
  subst this
  refine (h w hg).mono ?_
  rintro e w' ⟨rfl, hb⟩
  exact ⟨_, _, rfl, HR.start_below hb, .v hx⟩
end Go.Proofs.YtnplgklnkcjmnaaGreatDoor.Am
namespace Go.Proofs.YtnplgklnkcjmnaaGreatDoor.Am
set_option linter.unusedVariables false
set_option linter.unusedSimpArgs false
open Go.RowKit

theorem TVs.setAt {w : World} {I : Nat → Prop} {m : Nat → Option Nat} {L : Nat → Option (Option Nat)} : ∀ {cs : List T} {vs : List Value} {i : Nat} {t u : T}, TVs w I m L cs vs → cs[i]? = some t → (∀ v, TV w I m L t v → TV w I m L u v) → TVs w I m L (cs.set i u) vs
  | _ :: _, _, 0, t, u, .cons h r, hi, hu => by cases hi; exact .cons (hu _ h) r
  | _ :: cs, _ :: vs, i + 1, t, u, .cons h r, hi, hu => .cons h (TVs.setAt (i := i) r hi hu)
  | [], _, i, t, u, h, hi, hu => by cases hi
theorem Rl.nilOwnB {C : Ctx} {n : Nat} {w0 : World} {O : Env} {ts : Sl} {H : Hp} {a : Act} {w : World} (h : Rl C n w0 O ts H a w) {kb i key sz : Nat} {cs : List T} {B : Blk} (hb : H.get kb = some (.cs cs)) (hi : cs[i]? = some (.v (.slice none 0 0))) (hk : H.get key = none)
    (hB : B = .cs [] ∨ ∃ k ks, B = .fl (k :: ks) []) (hz : 0 < sz) : Rl C n w0 O ts ((kb, .cs (cs.set i (.ow key sz 0))) :: (key, B) :: H) a w := by
  obtain ⟨m, g1, g2, g3, g4, g5⟩ := h
  have hg : Hp.get ((key, B) :: H) = upd H.get [(key, B)] := get_append [(key, B)] H
  have hg2 : Hp.get ((kb, .cs (cs.set i (.ow key sz 0))) :: (key, B) :: H) = upd (upd H.get [(key, B)]) [(kb, .cs (cs.set i (.ow key sz 0)))] := by
    rw [← hg]; exact get_append [(kb, _)] ((key, B) :: H)
  have hbv : BV O w (Im (mk1 m key none) (upd H.get [(key, B)])) (mk1 m key none) (lens (upd H.get [(key, B)])) B none := by
    rcases hB with rfl | ⟨k, ks, rfl⟩
    · exact rfl
    · exact ⟨by simp, rfl⟩
  have hlen : B.len? = some 0 := by rcases hB with rfl | ⟨k, ks, rfl⟩ <;> rfl
  have hN := g1.newB (k := key) (n := none) (b := B) (Below.refl _ w) hk (fun q hq => by cases hq) hbv
  have G := Goes.new g1 (k := key) (n := none) (b := B) (Below.refl _ w) hk (fun q hq => by cases hq)
  have hlk : lens (upd H.get [(key, B)]) key = some (some 0) := by rw [lens_upd, if_pos rfl, hlen]
  have hne : kb ≠ key := by rintro rfl; rw [hk] at hb; cases hb
  have hb2 : upd H.get [(key, B)] kb = some (.cs cs) := by rw [upd_one, if_neg (Ne.symm hne)]; exact hb
  have hl2 : lens (upd H.get [(key, B)]) kb = some (some cs.length) := by rw [lens_of hb2]; rfl
  have hv := hN.blk kb _ hb2
  cases hm : mk1 m key none kb with
  | none => rw [hm] at hv; have hv : cs = [] := hv; rw [hv] at hi; cases hi
  | some b =>
    rw [hm] at hv
    obtain ⟨vs, a1, a2, a3, a4⟩ := hv
    have hll : (Blk.cs (cs.set i (.ow key sz 0))).len? = some cs.length := by simp [Blk.len?]
    have G2 := Goes.setB hN hl2 hm (OnlyB.refl w b) hll
    have hlk2 : lens (upd (upd H.get [(key, B)]) [(kb, .cs (cs.set i (.ow key sz 0)))]) key = some (some 0) := by rw [lens_upd, if_neg hne]; exact hlk
    have h2 := hN.setB hl2 hm (OnlyB.refl w b) hll ⟨vs, TVs.setAt (a1.goes G2) hi (fun v hv => by
      obtain ⟨rfl, -⟩ := hv.v_inv
      exact .ow (.os0 hlk2 (by omega) hz) (.inr (by rw [hlk2]; simp))), a2, a3, a4⟩
    refine ⟨mk1 m key none, by rw [hg2]; exact h2, fun j => ?_, by rw [hg2]; exact (g3.goes G).goes G2, ⟨(g4.1.goes G.odd).goes G2.odd, g4.2⟩, g5⟩
    rw [hg2]
    exact ((g2 j).goes G).goes G2
/-- nil in a cell of a block, as a slice of the machine's own that has nothing. -/
theorem TW.nilOwnB {C : Ctx} {n : Nat} {rd : Bool} {c : Code} {ts : Sl} {H : Hp} {K : Exit → Sl → Hp → Prop} (kb i key sz : Nat) (cs : List T) (B : Blk) (hb : H.get kb = some (.cs cs)) (hi : cs[i]? = some (.v (.slice none 0 0))) (hk : H.get key = none)
    (hB : B = .cs [] ∨ ∃ k ks, B = .fl (k :: ks) []) (hz : 0 < sz) (h : TW C n rd c ts ((kb, .cs (cs.set i (.ow key sz 0))) :: (key, B) :: H) K) : TW C n rd c ts H K :=
  ⟨fun ro hro w0 O a w hr => h.out ro hro w0 O a w (hr.nilOwnB hb hi hk hB hz)⟩
end Go.Proofs.YtnplgklnkcjmnaaGreatDoor.Am
namespace Go.Proofs.YtnplgklnkcjmnaaGreatDoor.Am
set_option linter.unusedVariables false
set_option linter.unusedSimpArgs false
open Go.RowKit

/-- The same as Fits; blocks of fz stay as they are from here on. -/
def FitsF (ts' : Sl) (H' : Hp) (cs ck : List Nat) (tsB : Sl) (HB : Hp) (vs : List T) (bs : List Blk) (rn : List (Nat × Nat)) (fz : List Nat) : Prop :=
  (Plan.mk (cs ++ fstS tsB) (rn ++ idK HB) fz).fine = true ∧ (Plan.mk (cs ++ fstS tsB) (rn ++ idK HB) fz).ts H' ts' = zipS cs vs tsB ∧ (Plan.mk (cs ++ fstS tsB) (rn ++ idK HB) fz).H H' = zipK ck bs HB
def LoopGF (C : Ctx) (d n base : Nat) (rd : Bool) (lv : List Nat) (body : Code) (K : Exit → Sl → Hp → Prop) {α : Type} (cs ck : List Nat) (rn0 : List (Nat × Nat)) (vals : α → List T) (blks : α → List Blk) (inv : α → Prop) (μ : α → Nat) (ts : Sl) (H : Hp) (tsB : Sl) (HB : Hp) : Prop :=
  (∃ x, Fits ts H cs ck tsB HB (vals x) (blks x) rn0 ∧ inv x) ∧
  ∀ x, inv x → vcL C d n base rd lv body (zipS cs (vals x) tsB) (zipK ck (blks x) HB) (seqK (fun ts' H' => ∃ y rn fz, FitsF ts' H' cs ck tsB HB (vals y) (blks y) rn fz ∧ inv y ∧ μ y < μ x) K)
/-- TW.loopD, with blocks that are frozen where a round ends. -/
theorem TW.loopF {C : Ctx} {n : Nat} {rd : Bool} (hC : C.good) (d : Nat) {base : Nat} {lv : List Nat} {body : Code} {ts : Sl} {H : Hp} {K : Exit → Sl → Hp → Prop} {α : Type} (cs ck : List Nat) (rn0 : List (Nat × Nat)) (vals : α → List T) (blks : α → List Blk) (inv : α → Prop) (μ : α → Nat)
    (h : fDS cs ts [] fun tsB => fDK (ck ++ rn0.map (·.1)) H [] fun HB => LoopGF C d n base rd lv body K cs ck rn0 vals blks inv μ ts H tsB HB) : TW C n rd (.loop body) ts H K := by
  obtain ⟨tsB, h⟩ := fDS_ok h
  obtain ⟨HB, ⟨x0, ⟨f1, f2, f3⟩, i0⟩, hr⟩ := fDK_ok h
  refine TW.loop hC.glq (fun x => (zipS cs (vals x) tsB, zipK ck (blks x) HB)) inv μ ⟨x0, ⟨_, f1, f2, f3⟩, i0⟩ (fun x hx => (vcL_ok hC d _ _ _ _ _ _ _ _ (hr x hx)).mono (fun e ts' H' hK => ?_))
  cases e with
  | normal => obtain ⟨y, rn, fz, ⟨g1, g2, g3⟩, iy, hlt⟩ := hK; exact ⟨y, ⟨_, g1, g2, g3⟩, iy, hlt⟩
  | exit id => exact hK
  | goto l => exact hK
  | ret => exact hK
  | panic c => exact hK
  | outgrown => exact hK
end Go.Proofs.YtnplgklnkcjmnaaGreatDoor.Am
