/- One operation, and a row of them. -/
import Derived.Test.YteinekidpokbpaaAmR
import Derived.RangeFuncNested
import Derived.RangeFuncLeaves
import Derived.OrdersIn
namespace Go.Proofs.Yteinekidpokbpaa.Am
set_option linter.unusedVariables false
set_option linter.unusedSimpArgs false
open Go.RowKit

/-- A fence that lets all in; ro: is it of a round of a loop over a function? -/
def FR (ro : Option Nat) : Fence := { Fence.wide with round := ro }
theorem callsIn_FR {ro : Option Nat} {n : Nat} {P : Program} {f : FuncId} {args : Array Value} {w : World} {R : Ending → World → Prop} : CallsIn (FR ro) n P f args w R ↔ Calls P f args w R := callsIn_wide (n := n)
theorem rowsIn_FR {ro : Option Nat} {n : Nat} {P : Program} {row : String} {args : Array Value} {w : World} {R : Value → World → Prop} (h : Rows P row args w R) : RowsIn (FR ro) n P row args w R :=
  fun c cs _ => let ⟨v, w', r, s⟩ := h c cs; ⟨v, w', r, stepsIn_wide.2 s⟩
/-- An operation that is no 'defer', within a round or not. -/
theorem wpIn_of_wp {P : Program} {ro : Option Nat} {o : Oper} {a : Act} {w : World} {next : Act → World → Prop} {Q : Exit → Act → World → Prop} (hd : ∀ c, o.op ≠ .defer c) (h : o.wp P a w next Q) : o.wpIn (FR ro) 0 P a w next Q := by
  refine ⟨fun _ _ => trivial, ?_⟩
  rw [Oper.semAt_eq _ _ _ hd]
  unfold Oper.wp at h
  generalize (execOp a.eval o).run P w = r at h
  cases r with
  | ok x w' =>
    cases x <;> simp only [Oper.upon, Oper.uponIn] at h ⊢ <;> first
      | exact h
      | exact ⟨fun hh => (by cases hh), callsIn_FR.2 h⟩
      | exact ⟨fun hh => (by cases hh), rowsIn_FR h⟩
      | exact h.elim
  | halt x w' => cases x <;> simp only [Oper.upon, Oper.uponIn] at h ⊢ <;> exact h

/-- A function that is walked where it is called: its number, its text, its code, the slots that are looked at in more than one region. -/
structure Inl where
  f : FuncId
  fn : Func
  c : Code
  lv : List Nat
structure Inl.ok (P : Program) (i : Inl) : Prop where
  hf : P.funcs[i.f]? = some i.fn
  hb : i.fn.body = some i.c
  he : ∀ vs w, (callFunc i.f vs).run P w = .ok (.enter i.f vs) w
/-- What is known beside a state: the program, what its variables hold, what calls make of their arguments. -/
structure Ctx where
  P : Program
  gl : Nat → T
  spec : Nat → FuncId → List T → Mem → Option Out
  eqs : List Nat
  heq : ∀ t, hasN eqs t = true → P.stoodInHeld t = false
  inl : List Inl
  hinl : ∀ i ∈ inl, i.ok P

def AT (w : World) (I : Nat → Prop) (m : Nat → Option Nat) (L : Nat → Option (Option Nat)) (ts : Sl) (a : Act) : Prop := ∀ i, TV w I m L (tget ts i) (a.tmps.getD i undef)
theorem AT.goes {w w' : World} {I I' m m' L L'} (G : Goes w w' I I' m m' L L') {ts : Sl} {a : Act} (h : AT w I m L ts a) : AT w' I' m' L' ts a := fun i => (h i).goes G

def ev (C : Ctx) (ts : Sl) : Operand → T
  | .tmp t => tget ts t
  | .const v => T.ofV v
  | .global g => C.gl g
  | .func f => .v (.func (.func f) ⟨[]⟩ ⟨[]⟩)
def isLit : Operand → Bool
  | .const _ => true
  | _ => false
def evO (C : Ctx) (ts : Sl) : Option Operand → Option T
  | none => none
  | some x => some (ev C ts x)
def evL (C : Ctx) (ts : Sl) : List Operand → List T
  | [] => []
  | x :: r => ev C ts x :: evL C ts r
def evP (C : Ctx) (ts : Sl) : List (Nat × Operand) → List (Nat × T)
  | [] => []
  | (i, x) :: r => (i, ev C ts x) :: evP C ts r
def isNew (g : Mem) (k : Nat) : Bool := match g k with
  | none => true
  | some _ => false
def news (g : Mem) (k : Nat) : Bool := isNew g k && isNew g (k + 1) && isNew g (k + 2) && isNew g (k + 3)
/-- A function that a value stands for, and what it bears ahead of its arguments and behind them. -/
def fnOf : T → Option (FuncId × List T × List T)
  | .v (.func (.func f) ⟨[]⟩ ⟨[]⟩) => some (f, [], [])
  | .fn (.func f) a c => some (f, a, c)
  | _ => none
def callT (C : Ctx) (g : Mem) (key : Nat) (ts : Sl) (c : Call) : Option Out := match c.callee, c.args.toList, c.argTypes.toList with
  | .builtin .len, [x], t :: _ => lenT C.P g t (ev C ts x).low
  | .builtin .append, [s, x], [t, t2] => if isNew g key then appendT C.P g key t t2 (ev C ts s) (ev C ts x) else none
  | .builtin .copy, [s, x], [t, _] => copyT C.P g t (ev C ts s) (ev C ts x)
  | .builtin .min, [x, y], _ => minT (ev C ts x) (ev C ts y)
  | .builtin .max, [x, y], _ => maxT (ev C ts x) (ev C ts y)
  | .value f, as, _ => match fnOf (ev C ts f) with
    | some (f, a, b) => if news g key then C.spec key f (a ++ evL C ts as ++ b) g else none
    | none => none
  | _, _, _ => none
def stepO (C : Ctx) (g : Mem) (ts : Sl) (key : Nat) (op : Op) : Option Out := match op with
  | .move x => out (ev C ts x)
  | .assign x => out (ev C ts x)
  | .pick c a b => match ev C ts c with
    | .v (.bool x) => out (condT x (ev C ts a) (ev C ts b))
    | _ => none
  | .alloc e => if isNew g key then allocT C.P key e else none
  | .box e x => if isNew g key then boxT C.P key e (ev C ts x) else none
  | .build t ps => buildT C.P t (evP C ts ps.toList)
  | .buildSlice t n ps => if isNew g key then buildSliceT C.P key t n (evP C ts ps.toList) else none
  | .load t a => match loadT C.P g t (ev C ts a) with
    | some r => out r
    | none => none
  | .store t a x => storeT C.P g t (ev C ts a) (ev C ts x)
  | .nilCheck x => nilT g (ev C ts x)
  | .binOp op t x y _ => binT C.P C.eqs op t (ev C ts x) (ev C ts y)
  | .unOp op _ x => unT op (ev C ts x)
  | .convert s d x => convT C.P s d (ev C ts x)
  | .field t x f => fieldT C.P t (ev C ts x) f
  | .index t x i => indexT C.P t (ev C ts x) (ev C ts i) (isLit i)
  | .indexAddr t x i => indexAddrT C.P g t (ev C ts x).low (ev C ts i) (isLit i)
  | .fieldAddr t x f => fieldAddrT C.P g t (ev C ts x) f
  | .slice t x lo hi none => sliceT C.P g t (ev C ts x).low (evO C ts lo) (evO C ts hi)
  | .slice t x lo hi (some mx) => if isNew g key then clipT C.P key t (ev C ts x) (evO C ts lo) (evO C ts hi) (ev C ts mx) else none
  | .makeFunc fn a c => out (.fn fn (evL C ts a.toList) (evL C ts c.toList))
  | .makeSlice t l c => if isNew g key then makeSliceT C.P key t (ev C ts l) (ev C ts c) else none
  | .extract x i => extractT (ev C ts x) i
  | .call c => callT C g key ts c
  | .makeMap t r => if isNew g key then makeMapT C.P key t (evO C ts r) else none
  | .mapUpdate t x k v => mapUpdT C.P g t (ev C ts x) (ev C ts k) (ev C ts v)
  | .lookup t x k ok => lookT C.P g t (ev C ts x) (ev C ts k) ok
  | _ => none

/-- A call gives what o tells. -/
def CallOk (P : Program) (f : FuncId) (vs : Array Value) (w : World) (R : Value → World → Prop) : Prop :=
  ((callFunc f vs).run P w = .ok (.enter f vs) w ∧ Calls P f vs w fun e w' => ∃ v, e = .returned v ∧ R v w') ∨ ∃ v w', (callFunc f vs).run P w = .ok (.value v) w' ∧ R v w'
/-- The program's variables hold what is told of them. -/
def GlOk (C : Ctx) (w : World) (I : Nat → Prop) (m : Nat → Option Nat) (L : Nat → Option (Option Nat)) : Prop := ∀ g, TV w I m L (C.gl g) (.pointer (some ⟨g, 0, none⟩))
/-- What is told of calls is so. -/
def Ctx.ok (C : Ctx) : Prop := ∀ key f args g o w0 w O m vs, C.spec key f args g = some o → o.ok → news g key = true → HR w0 w O m g → GlOk C w (Im m g) m (lens g) → TVs w (Im m g) m (lens g) args vs →
  CallOk C.P f vs.toArray w fun v w' => ∃ m', HR w0 w' O m' (upd g o.up) ∧ Goes w w' (Im m g) (Im m' (upd g o.up)) m m' (lens g) (lens (upd g o.up)) ∧ TV w' (Im m' (upd g o.up)) m' (lens (upd g o.up)) o.t v
theorem GlOk.goes {C : Ctx} {w w' : World} {I I' m m' L L'} (G : Goes w w' I I' m m' L L') (h : GlOk C w I m L) : GlOk C w' I' m' L' := fun g => (h g).goes G

section
variable {C : Ctx} {w0 w : World} {O : Env} {m : Nat → Option Nat} {g : Mem} {ts : Sl} {a : Act}

theorem ofV_ok {I : Nat → Prop} {L : Nat → Option (Option Nat)} (v : Value) : TV w I m L (T.ofV v) v := by
  unfold T.ofV
  split
  · rename_i h; exact .v h
  · split
    · split
      · rename_i cs h; exact .agg (plain_TVs h)
      · exact .dead
    · exact .dead
theorem ev_ok {I : Nat → Prop} {L : Nat → Option (Option Nat)} (ht : AT w I m L ts a) (hg : GlOk C w I m L) (x : Operand) : TV w I m L (ev C ts x) (a.eval x) := by
  cases x with
  | tmp t => exact ht t
  | const v => exact ofV_ok v
  | global g => exact hg g
  | func f => exact .v rfl
theorem evO_ok {I : Nat → Prop} {L : Nat → Option (Option Nat)} (ht : AT w I m L ts a) (hg : GlOk C w I m L) (x : Option Operand) : OTV w I m L (evO C ts x) (x.map a.eval) := by
  cases x with
  | none => trivial
  | some x => exact ev_ok ht hg x
theorem evL_ok {I : Nat → Prop} {L : Nat → Option (Option Nat)} (ht : AT w I m L ts a) (hg : GlOk C w I m L) (xs : List Operand) : TVs w I m L (evL C ts xs) (xs.map a.eval) := by
  induction xs with
  | nil => exact .nil
  | cons x xs ih => exact .cons (ev_ok ht hg x) ih
theorem evP_ok {I : Nat → Prop} {L : Nat → Option (Option Nat)} (ht : AT w I m L ts a) (hg : GlOk C w I m L) (ps : List (Nat × Operand)) :
    (evP C ts ps).map (·.1) = (ps.map fun (i, x) => (i, a.eval x)).map (·.1) ∧ TVs w I m L ((evP C ts ps).map (·.2)) ((ps.map fun (i, x) => (i, a.eval x)).map (·.2)) := by
  induction ps with
  | nil => exact ⟨rfl, .nil⟩
  | cons p ps ih => exact ⟨by simp [evP, ih.1], .cons (ev_ok ht hg p.2) ih.2⟩

theorem isNew_none {k : Nat} (h : isNew g k = true) : g k = none := by
  unfold isNew at h
  split at h
  · assumption
  · cases h

/-- An operation that gives a value. -/
theorem wp_value {P : Program} {o : Oper} {next : Act → World → Prop} {Q : Exit → Act → World → Prop} {s : Sem Value} {ot : Out} (he : execOp a.eval o = (do pure (.value (← s))))
    (hs : StepOk P s w0 w O m g ot)
    (hn : ∀ v w' m', HR w0 w' O m' (upd g ot.up) → Goes w w' (Im m g) (Im m' (upd g ot.up)) m m' (lens g) (lens (upd g ot.up)) → TV w' (Im m' (upd g ot.up)) m' (lens (upd g ot.up)) ot.t v → next (a.put o.dst v) w') :
    o.wp P a w next Q := by
  obtain ⟨v, w', m', h1, h2, h3, h4⟩ := hs
  unfold Oper.wp
  rw [he]
  simp only [Sem.run_bind, h1, Result.andThen_ok, Sem.run_pure, Oper.upon_value]
  exact hn v w' m' h2 h3 h4

set_option maxHeartbeats 2000000 in
theorem step_ok (hC : C.ok) (h : HR w0 w O m g) (ht : AT w (Im m g) m (lens g) ts a) (hg : GlOk C w (Im m g) m (lens g)) {o : Oper} {key : Nat} {ot : Out} (hs : stepO C g ts key o.op = some ot) (hok : ot.ok)
    {next : Act → World → Prop} {Q : Exit → Act → World → Prop}
    (hn : ∀ v w' m', HR w0 w' O m' (upd g ot.up) → Goes w w' (Im m g) (Im m' (upd g ot.up)) m m' (lens g) (lens (upd g ot.up)) → TV w' (Im m' (upd g ot.up)) m' (lens (upd g ot.up)) ot.t v → next (a.put o.dst v) w') {ro : Option Nat} :
    o.wpIn (FR ro) 0 C.P a w next Q := by
  refine wpIn_of_wp (fun c e => (by rw [e] at hs; cases hs)) ?_
  have pureN : ∀ {s : Sem Value}, (execOp a.eval o = (do pure (.value (← s)))) → PureOk C.P s w (Im m g) m (lens g) ot → o.wp C.P a w next Q := fun he hp => wp_value he (StepOk.pure h hp) hn
  have valN : ∀ {x : T} {v : Value}, out x = some ot → TV w (Im m g) m (lens g) x v → execOp a.eval o = pure (.value v) → o.wp C.P a w next Q := by
    intro x v hx hv he
    cases hx
    unfold Oper.wp
    rw [he]
    exact hn v w m h (Goes.refl h) hv
  obtain ⟨dst, op, type, pos, after, guard⟩ := o
  cases op with
  | move x => exact valN hs (ev_ok ht hg x) rfl
  | assign x => exact valN hs (ev_ok ht hg x) rfl
  | pick c x y =>
    simp only [stepO] at hs
    split at hs
    · rename_i b e
      have hc := ev_ok ht hg c
      rw [e] at hc
      obtain ⟨hc, -⟩ := hc.v_inv
      have hx := ev_ok ht hg x
      have hy := ev_ok ht hg y
      cases hs
      unfold Oper.wp
      simp only [execOp, hc, asBool, Sem.run_bind, Sem.run_pure, Result.andThen_ok, Oper.upon_value]
      refine hn _ w m h (Goes.refl h) ?_
      have key : ∀ {p q : T} {vp vq : Value}, TV w (Im m g) m (lens g) p vp → TV w (Im m g) m (lens g) q vq → TV w (Im m g) m (lens g) (condT b p q) (if b then vp else vq) := by
        intro p q vp vq hp hq
        unfold condT
        split
        · obtain ⟨rfl, -⟩ := hp.v_inv; obtain ⟨rfl, -⟩ := hq.v_inv
          cases b <;> exact .v rfl
        · split
          · rename_i e; subst e
            obtain ⟨rfl, -⟩ := hp.v_inv; obtain ⟨rfl, -⟩ := hq.v_inv
            cases b <;> exact .v rfl
          · cases b
            · exact hq
            · exact hp
        · cases b
          · exact hq
          · exact hp
      exact key hx hy
    · cases hs
  | alloc e =>
    simp only [stepO] at hs
    split at hs
    · rename_i hnw; exact wp_value (s := Instr.alloc e true (.tuple #[])) rfl (allocT_ok h (isNew_none hnw) hs) hn
    · cases hs
  | box e x =>
    simp only [stepO] at hs
    split at hs
    · rename_i hnw; exact wp_value (s := Instr.box e (a.eval x)) rfl (boxT_ok h (isNew_none hnw) hs (ev_ok ht hg x)) hn
    · cases hs
  | build t ps =>
    obtain ⟨p1, p2⟩ := evP_ok (a := a) ht hg ps.toList
    exact wp_value (s := Instr.build t (ps.map fun (i, x) => (i, a.eval x))) rfl (buildT_ok h hs (by simpa using p1) (by simpa using p2)) hn
  | buildSlice t n ps =>
    simp only [stepO] at hs
    split at hs
    · rename_i hnw
      obtain ⟨p1, p2⟩ := evP_ok (a := a) ht hg ps.toList
      exact wp_value (s := Instr.buildSlice t n (ps.map fun (i, x) => (i, a.eval x))) rfl (buildSliceT_ok h (isNew_none hnw) hs (by simpa using p1) (by simpa using p2)) hn
    · cases hs
  | load t x =>
    simp only [stepO] at hs
    split at hs
    · rename_i r e
      obtain ⟨v, h1, h2⟩ := loadT_ok (P := C.P) h e (ev_ok ht hg x)
      exact pureN (s := Instr.loadAt t (a.eval x)) rfl (pureO hs ⟨v, h1, h2⟩)
    · cases hs
  | store t x y =>
    obtain ⟨w', h1, h2, h3, h4⟩ := storeT_ok (P := C.P) h hs (ev_ok ht hg x) (ev_ok ht hg y)
    unfold Oper.wp
    simp only [execOp, Sem.run_bind, h1, Result.andThen_ok, Sem.run_pure, Oper.upon_skip]
    exact hn undef w' m h2 h3 (by rw [h4]; exact .dead)
  | nilCheck x =>
    obtain ⟨v, h1, h2, h3⟩ := nilT_ok (P := C.P) (w := w) (I := Im m g) (m := m) (ρ := a.eval) (op := x) hs (ev_ok ht hg x) rfl
    obtain ⟨c, t, up⟩ := ot
    cases h2
    unfold Oper.wp
    have e : execOp a.eval (⟨dst, .nilCheck x, type, pos, after, guard⟩ : Oper) = execOp a.eval ⟨none, .nilCheck x, 0, "", #[], none⟩ := rfl
    rw [e, h1]
    exact hn v w m h (Goes.refl h) h3
  | binOp op t x y yt => exact pureN (s := do eqGuard op t x y (a.eval x) (a.eval y); Go.binOp op t (a.eval x) (a.eval y)) (by simp only [execOp]) (binT_ok C.heq hs hok (ev_ok ht hg x) (ev_ok ht hg y))
  | unOp op t x => exact pureN (s := Op.unary op (a.eval x)) rfl (unT_ok hs (ev_ok ht hg x))
  | convert s d x => exact pureN (s := Go.convert s d (a.eval x)) rfl (convT_ok hs (ev_ok ht hg x))
  | field t x f => exact pureN (s := Instr.field t (a.eval x) f) rfl (fieldT_ok hs (ev_ok ht hg x))
  | index t x i => exact pureN (s := Instr.index t (a.eval x) (a.eval i)) rfl (indexT_ok hs hok (ev_ok ht hg x) (ev_ok ht hg i))
  | indexAddr t x i => exact pureN (s := Instr.indexAt t (a.eval x) (a.eval i)) rfl (indexAddrT_ok hs hok (ev_ok ht hg x).low_ok (ev_ok ht hg i))
  | fieldAddr t x f => exact pureN (s := Instr.fieldAt t (a.eval x) f) rfl (fieldAddrT_ok hs (ev_ok ht hg x))
  | slice t x lo hi mx =>
    cases mx with
    | some mx =>
      simp only [stepO] at hs
      split at hs
      · rename_i hnw
        exact wp_value (s := Instr.sliceAt t (a.eval x) (lo.map a.eval) (hi.map a.eval) (some (a.eval mx))) rfl (clipT_ok h (isNew_none hnw) hs (ev_ok ht hg x) (evO_ok ht hg lo) (evO_ok ht hg hi) (ev_ok ht hg mx)) hn
      · cases hs
    | none => exact pureN (s := Instr.sliceAt t (a.eval x) (lo.map a.eval) (hi.map a.eval) none) rfl (sliceT_ok h hs hok (ev_ok ht hg x).low_ok (evO_ok ht hg lo) (evO_ok ht hg hi))
  | makeFunc fn f c =>
    exact pureN (s := Instr.makeFunc fn (f.map a.eval) (c.map a.eval)) rfl (pureO hs ⟨_, rfl, .fn (by simpa using evL_ok (a := a) ht hg f.toList) (by simpa using evL_ok (a := a) ht hg c.toList)⟩)
  | makeSlice t l c =>
    simp only [stepO] at hs
    split at hs
    · rename_i hnw; exact wp_value (s := Instr.makeSlice t (a.eval l) (a.eval c)) rfl (makeSliceT_ok h (isNew_none hnw) hs hok (ev_ok ht hg l) (ev_ok ht hg c)) hn
    · cases hs
  | extract x i => exact pureN (s := Instr.extract (a.eval x) i) rfl (extractT_ok hs (ev_ok ht hg x))
  | call c =>
    obtain ⟨callee, args, ats⟩ := c
    simp only [stepO, callT] at hs
    have hargs := evL_ok ht hg args.toList
    have ctoL : ∀ {xs : List Operand}, args.toList = xs → args = xs.toArray := fun {xs} e => by rw [← e]
    have bi : ∀ {b : Builtin} {s : Sem Value}, callee = .builtin b → (builtin b ats type (args.map fun | .const _ => true | _ => false) (args.map a.eval) = (do pure (.value (← s)))) →
        execOp a.eval (⟨dst, .call ⟨callee, args, ats⟩, type, pos, after, guard⟩ : Oper) = (do pure (.value (← s))) := by
      intro b s e1 e2
      subst e1
      rw [← e2]
      simp only [execOp, resolve, pure_bind, invoke]
      congr 1
    split at hs
    · rename_i x t r e2 e3
      have e4 := ctoL e2; subst e4
      have hp := lenT_ok (P := C.P) (w := w) (ty := type) (fun k kk vk es b e hm => by have := h.blk k _ e; rw [hm] at this; exact this) hs (ev_ok ht hg x).low_ok
      refine pureN (s := Builtin.len_ ats type #[a.eval x]) (bi rfl (by simp [builtin])) ?_
      have e5 : ats = (t :: r).toArray := by rw [← e3]
      subst e5
      have : Builtin.len_ (t :: r).toArray type #[a.eval x] = Builtin.len_ #[t] type #[a.eval x] := by simp [Builtin.len_]
      rw [this]; exact hp
    · rename_i s x t t2 e2 e3
      have e4 := ctoL e2; subst e4
      have e5 : ats = #[t, t2] := by rw [← Array.toArray_toList (xs := ats), e3]
      subst e5
      split at hs
      · rename_i hnw
        exact wp_value (s := Builtin.append_ #[t, t2] type #[a.eval s, a.eval x]) (bi rfl (by simp [builtin])) (appendT_ok h (isNew_none hnw) hs hok (ev_ok ht hg s) (ev_ok ht hg x)) hn
      · cases hs
    · rename_i s x t t2 e2 e3
      have e4 := ctoL e2; subst e4
      have e5 : ats = #[t, t2] := by rw [← Array.toArray_toList (xs := ats), e3]
      subst e5
      exact wp_value (s := Builtin.copy_ #[t, t2] type #[a.eval s, a.eval x]) (bi rfl (by simp [builtin])) (copyT_ok h hs (ev_ok ht hg s) (ev_ok ht hg x)) hn
    · rename_i x y e2
      have e4 := ctoL e2; subst e4
      exact pureN (s := Builtin.min_ ats type #[a.eval x, a.eval y]) (bi rfl (by simp [builtin])) (minT_ok hs (ev_ok ht hg x) (ev_ok ht hg y))
    · rename_i x y e2
      have e4 := ctoL e2; subst e4
      exact pureN (s := Builtin.max_ ats type #[a.eval x, a.eval y]) (bi rfl (by simp [builtin])) (maxT_ok hs (ev_ok ht hg x) (ev_ok ht hg y))
    · rename_i f
      split at hs
      · rename_i fid pre post ef
        split at hs
        · rename_i hnw
          have hf := ev_ok ht hg f
          obtain ⟨vpre, vpost, hv, hpre, hpost⟩ : ∃ vpre vpost : Array Value, a.eval f = .func (.func fid) vpre vpost ∧ TVs w (Im m g) m (lens g) pre vpre.toList ∧ TVs w (Im m g) m (lens g) post vpost.toList := by
            generalize a.eval f = vf at hf ⊢
            unfold fnOf at ef
            split at ef
            · rename_i e6; rw [e6] at hf; obtain ⟨h1, -⟩ := hf.v_inv; cases ef; exact ⟨#[], #[], h1, .nil, .nil⟩
            · rename_i e6; rw [e6] at hf; cases ef; cases hf with | fn h1 h2 => exact ⟨_, _, rfl, h1, h2⟩
            · cases ef
          have hall := (hpre.append hargs).append hpost
          have hcall := hC key fid _ g ot w0 w O m _ hs hok hnw h hg hall
          have he : execOp a.eval (⟨dst, .call ⟨.value f, args, ats⟩, type, pos, after, guard⟩ : Oper) = callFunc fid (vpre.toList ++ args.toList.map a.eval ++ vpost.toList).toArray := by
            simp only [execOp, resolve, hv, Deferred.ofValue, pure_bind, invoke]
            congr 1
            apply Array.ext'
            simp
          unfold Oper.wp
          rw [he]
          rcases hcall with ⟨c1, c2⟩ | ⟨v, w', c1, m', c2, c3, c4⟩
          · rw [c1]
            refine c2.mono ?_
            rintro e w' ⟨v, rfl, m', d1, d2, d3⟩
            exact hn v w' m' d1 d2 d3
          · rw [c1]
            exact hn v w' m' c2 c3 c4
        · cases hs
      · cases hs
    · cases hs
  | makeMap t r =>
    simp only [stepO] at hs
    split at hs
    · rename_i hnw
      exact wp_value (s := Instr.makeMap t (r.map a.eval)) rfl (makeMapT_ok h (isNew_none hnw) (fun e => by cases r <;> first | rfl | cases e) hs) hn
    · cases hs
  | mapUpdate t x k y =>
    obtain ⟨w', h1, h2, h3, h4⟩ := mapUpdT_ok (P := C.P) h hs (ev_ok ht hg x) (ev_ok ht hg k) (ev_ok ht hg y)
    unfold Oper.wp
    simp only [execOp, Sem.run_bind, h1, Result.andThen_ok, Sem.run_pure, Oper.upon_skip]
    exact hn undef w' m h2 h3 (by rw [h4]; exact .dead)
  | lookup t x k ok =>
    exact pureN (s := Instr.lookup t (a.eval x) (a.eval k) ok) rfl (lookT_ok h hs (ev_ok ht hg x) (ev_ok ht hg k))
  | _ => cases hs
end
end Go.Proofs.Yteinekidpokbpaa.Am
