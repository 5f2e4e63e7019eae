/- Code and functions, with drawn orders, functions that are walked where they are called, loops over functions; what a function makes of its arguments, by a table of others. -/
import Derived.Test.YteinekidpokbpaaAmO
namespace Go.Proofs.Yteinekidpokbpaa.Am
set_option linter.unusedVariables false
set_option linter.unusedSimpArgs false
open Go.RowKit

/-- What is told of slots is cut down to those of a list (an empty list: none is cut). -/
def fPr : List Nat → Sl → (Sl → Prop) → Prop
  | [], _, K => K []
  | i :: r, ts, K => fT (tget ts i) fun t => match t with
    | .dead => fPr r ts K
    | t => fPr r ts fun ts' => K ((i, t) :: ts')
def fPr0 (lv : List Nat) (ts : Sl) (K : Sl → Prop) : Prop := match lv with
  | [] => K ts
  | i :: r => fPr (i :: r) ts K
/-- What a test has looked at is let go. -/
def cset (c : Operand) (b : Bool) (ts : Sl) : Sl := match c with
  | .tmp t => (t, .v (.bool b)) :: ts
  | _ => ts
abbrev VC := Nat → Nat → Bool → List Nat → Code → Sl → Hp → (Exit → Sl → Hp → Prop) → Prop
def scpK (V : Code → Sl → Hp → (Exit → Sl → Hp → Prop) → Prop) (b : Code) (K : Exit → Sl → Hp → Prop) : Exit → Sl → Hp → Prop
  | .goto l, ts, H => match findLabel b l with
    | some rest => V rest ts H (fun e ts H => match e with
      | .goto _ => False
      | e => K e ts H)
    | none => False
  | e, ts, H => K e ts H
/-- Code, by what its operations leave. X: what is made of calls; V: of the code behind a label; RF: of loops over functions. -/
noncomputable def vcB (C : Ctx) (X : Caller) (V : VC) (RF : Operand → Array Tmp → Code → Code → Sl → Hp → (Exit → Sl → Hp → Prop) → Prop) (n base : Nat) (rd : Bool) (lv : List Nat) (c : Code) : Sl → Hp → (Exit → Sl → Hp → Prop) → Prop :=
  @Code.rec (fun _ => Sl → Hp → (Exit → Sl → Hp → Prop) → Prop)
    (fun ts H K => K .normal ts H)
    (fun _ ops draw ts H K => match draw with
      | false => rgo C X n base ops ops.toList ts H (fun ts H => fPr0 lv ts fun ts => K .normal ts H)
      | true => dgo C X n base ops (dfin ops fun ts H => fPr0 lv ts fun ts => K .normal ts H) ops.toList ts H [])
    (fun _ _ ra rb ts H K => ra ts H (seqK (fun ts H => rb ts H K) K))
    (fun c _ _ rx ry ts H K => match ev C ts c with
      | .v (.bool b) => ifB b (rx (cset c true ts) H K) (ry (cset c false ts) H K)
      | _ => False)
    (fun id _ rc ts H K => rc ts H (blkK id K))
    (fun b _ ts H K => TW C n rd (.loop b) ts H K)
    (fun f ps a b _ _ ts H K => RF f ps a b ts H K)
    (fun id ts H K => K (.exit id) ts H)
    (fun b rc ts H K => rc ts H (scpK (V n base rd lv) b K))
    (fun _ ts H K => K .normal ts H)
    (fun l ts H K => K (.goto l) ts H)
    (fun ts H K => K .ret ts H)
    (fun y ts H K => TW C n rd (.refuse y) ts H K) c

def isDeadK (H : Hp) (k : Nat) : Bool := match H.get k with
  | none => true
  | some .gone => true
  | _ => false
def idB (g : Option Blk) (id : Nat) : Bool := match g with
  | some (.gh j _) => Nat.beq j id
  | some (.lp j _ _ _ _ _ _ _ _) => Nat.beq j id
  | _ => false
def lpB (g : Option Blk) : Bool := match g with
  | some (.lp _ _ _ _ _ _ _ _ _) => true
  | _ => false
/-- No frame that waits bears this name. -/
def noId (H : Hp) (id : Nat) : Hp → Bool
  | [] => true
  | (k, b) :: r => match idB (some b) id with
    | true => match idB (H.get k) id with
      | true => false
      | false => noId H id r
    | false => noId H id r
/-- There is no loop over a function. -/
def noLp (H : Hp) : Hp → Bool
  | [] => true
  | (k, b) :: r => match lpB (some b) with
    | true => match lpB (H.get k) with
      | true => false
      | false => noLp H r
    | false => noLp H r
/-- The loop over a function that there is. -/
def lpOf (H : Hp) : Hp → Option Nat
  | [] => none
  | (k, b) :: r => match lpB (some b) with
    | true => match lpB (H.get k) with
      | true => some k
      | false => lpOf H r
    | false => lpOf H r
def inlLook : List Inl → FuncId → Option Inl
  | [], _ => none
  | i :: r, f => match Nat.beq i.f f with
    | true => some i
    | false => inlLook r f
/-- A function that was walked where it was called has come to its end: on in the frame that waited. -/
def retX (C : Ctx) (fn : Func) (gk : Nat) (K : T → Sl → Hp → Prop) : T → Hp → Prop := fun t H => match H.get gk with
  | some (.gh id ts') => match Nat.beq id gk && noId ((gk, .gone) :: H) gk H with
    | true => K t ts' ((gk, .gone) :: H)
    | false => False
  | _ => False
/-- Slots of a round: what yield was handed. -/
def parS (n : Nat) : List Nat → List T → Sl → Option Sl
  | [], [], ts => some ts
  | p :: ps, t :: r, ts => match Nat.blt p n with
    | true => parS n ps r ((p, t) :: ts)
    | false => none
  | _, _, _ => none
/-- A round has come to its end. -/
def rndK (l0 kl gk : Nat) (K : T → Sl → Hp → Prop) : Exit → Sl → Hp → Prop := fun e _ H => match H.get kl, H.get gk with
  | some (.lp id l .busy none n ts ps asg body), some (.gh j ts') => match Nat.beq j gk && noId ((gk, .gone) :: H) gk H && noLp ((kl, .gone) :: (gk, .gone) :: H) H && !Nat.beq gk kl with
    | true => match e with
      | .normal => l = l0 ∧ K (.v (.bool true)) ts' ((kl, .lp id l .ready none n ts ps asg body) :: (gk, .gone) :: H)
      | .ret => l = l0 ∧ K (.v (.bool false)) ts' ((kl, .lp id l .done (some .ret) n ts ps asg body) :: (gk, .gone) :: H)
      | .exit q => l = l0 ∧ K (.v (.bool false)) ts' ((kl, .lp id l .done (some (.exit q)) n ts ps asg body) :: (gk, .gone) :: H)
      | .goto q => l = l0 ∧ K (.v (.bool false)) ts' ((kl, .lp id l .done (some (.goto q)) n ts ps asg body) :: (gk, .gone) :: H)
      | _ => False
    | false => False
  | _, _ => False
/-- Ahead of a round's body: the loop is busy. -/
def begK (V : VC) (n l0 kl gk base : Nat) (bd : Code) (K : T → Sl → Hp → Prop) : Exit → Sl → Hp → Prop
  | .normal, ts, H => match H.get kl with
    | some (.lp id l .ready none n' ts' ps asg body) => match noLp ((kl, .gone) :: H) H with
      | true => l = l0 ∧ V n base true [] bd ts ((kl, .lp id l .busy none n' ts' ps asg body) :: H) (rndK l0 kl gk K)
      | false => False
    | _ => False
  | _, _, _ => False
def calY (C : Ctx) (V : VC) : Caller := fun fv args key ts H K => match fnOf fv with
  | some (f, pre, post) => match inlLook C.inl f with
    | some i => match isDeadK H ((key + 1) * 4096) && noId H ((key + 1) * 4096) H && Nat.ble (pre ++ args ++ post).length i.fn.ntmps with
      | true => V i.fn.ntmps ((key + 1) * 4096 + 8) false i.lv i.c (slots 0 (pre ++ args ++ post)) (((key + 1) * 4096, .gh ((key + 1) * 4096) ts) :: H) (retK C i.fn (fun t H => fT t fun t => retX C i.fn ((key + 1) * 4096) K t H))
      | false => False
    | none => False
  | none => match fv with
    | .fn (.yield l) [] [] => match lpOf H H with
      | some kl => match H.get kl with
        | some (.lp id l' .ready none n' ts' ps asg body) => match isDeadK H ((key + 1) * 4096) && noId H ((key + 1) * 4096) H && !Nat.beq kl ((key + 1) * 4096) with
          | true => match parS n' ps.toList args ts' with
            | some ts1 => l' = l ∧ V n' ((key + 1) * 4096 + 8) true [] asg ts1 (((key + 1) * 4096, .gh ((key + 1) * 4096) ts) :: H) (begK V n' l kl ((key + 1) * 4096) ((key + 1) * 4096 + 8) body K)
            | none => False
          | false => False
        | _ => False
      | none => False
    | _ => False
/-- The same, with key and arguments laid out. -/
def calX (C : Ctx) (V : VC) : Caller := fun fv args key ts H K => fN key fun key => fTs args fun args => calY C V fv args key ts H K
/-- The function that was looped over has come to its end. -/
def retR (l0 kl : Nat) (K : Exit → Sl → Hp → Prop) : T → Hp → Prop := fun _ H => match H.get kl with
  | some (.lp id l st pe _ ts' _ _ _) => match Nat.beq id kl && noId ((kl, .gone) :: H) kl H && noLp ((kl, .gone) :: H) H with
    | true => match st with
      | .ready => match pe with
        | none => l = l0 ∧ K .normal ts' ((kl, .gone) :: H)
        | some _ => False
      | .done => match pe with
        | some .ret => l = l0 ∧ K .ret ts' ((kl, .gone) :: H)
        | some (.exit q) => l = l0 ∧ K (.exit q) ts' ((kl, .gone) :: H)
        | some (.goto q) => l = l0 ∧ K (.goto q) ts' ((kl, .gone) :: H)
        | _ => False
      | _ => False
    | false => False
  | _ => False
def rngX (C : Ctx) (V : VC) (n base : Nat) (rd : Bool) : Operand → Array Tmp → Code → Code → Sl → Hp → (Exit → Sl → Hp → Prop) → Prop := fun f ps asg body ts H K => match rd with
  | true => False
  | false => match fnOf (ev C ts f) with
    | some (g, pre, post) => match inlLook C.inl g with
      | some i => match isDeadK H (base + 4 * n) && noId H (base + 4 * n) H && noLp H H && Nat.ble (pre.length + 1 + post.length) i.fn.ntmps with
        | true => ∀ l : Nat, V i.fn.ntmps ((base + 4 * n + 1) * 4096 + 8) false i.lv i.c (slots 0 (pre ++ [.fn (.yield l) [] []] ++ post)) ((base + 4 * n, .lp (base + 4 * n) l .ready none n ts ps asg body) :: H) (retK C i.fn (retR l (base + 4 * n) K))
        | false => False
      | none => False
    | none => False
/-- Code, by what its operations leave; functions of the list are walked where they are called, so deep. -/
noncomputable def vcL (C : Ctx) (d : Nat) : VC :=
  @Nat.rec (fun _ => VC)
    (fun n base rd lv c => vcB C (fun _ _ _ _ _ _ => False) (fun _ _ _ _ _ _ _ _ => False) (fun _ _ _ _ _ _ _ => False) n base rd lv c)
    (fun _ V n base rd lv c => vcB C (calX C V) V (rngX C V n base rd) n base rd lv c) d

structure Ctx.good (C : Ctx) : Prop where
  ok : C.ok
  loc : C.loc
  mixed : C.P.follows .mixedOrders = true
  glq : C.glq

/-! ### soundness -/
theorem fPr_spec {ts : Sl} : ∀ {lv : List Nat} {K : Sl → Prop}, fPr lv ts K → ∃ ts', K ts' ∧ ∀ i, tget ts' i = .dead ∨ tget ts' i = tget ts i := by
  intro lv
  induction lv with
  | nil => intro K h; exact ⟨[], h, fun _ => .inl rfl⟩
  | cons i r ih =>
    intro K h
    rw [fPr, fT_eq] at h
    have keep : ∀ t, t = tget ts i → (fPr r ts fun ts' => K ((i, t) :: ts')) → ∃ ts', K ts' ∧ ∀ i, tget ts' i = .dead ∨ tget ts' i = tget ts i := by
      intro t ht h
      obtain ⟨ts', h1, h2⟩ := ih h
      refine ⟨_, h1, fun j => ?_⟩
      simp only [tget]
      cases e : Nat.beq i j
      · exact h2 j
      · have := Nat.eq_of_beq_eq_true e; subst this; exact .inr ht
    split at h
    · exact ih h
    · exact keep _ rfl h
theorem fPr0_spec {ts : Sl} {lv : List Nat} {K : Sl → Prop} (h : fPr0 lv ts K) : ∃ ts', K ts' ∧ ∀ i, tget ts' i = .dead ∨ tget ts' i = tget ts i := by
  unfold fPr0 at h
  split at h
  · exact ⟨ts, h, fun _ => .inr rfl⟩
  · exact fPr_spec h
theorem Rl.cut {C : Ctx} {n : Nat} {w0 w : World} {O : Env} {ts ts' : Sl} {H : Hp} {a : Act} (h : Rl C n w0 O ts H a w) (hc : ∀ i, tget ts' i = .dead ∨ tget ts' i = tget ts i) : Rl C n w0 O ts' H a w := by
  obtain ⟨m, h1, h2, h3, h4, h5⟩ := h
  refine ⟨m, h1, fun i => ?_, h3, h4, h5⟩
  rcases hc i with e | e <;> rw [e]
  · exact .dead
  · exact h2 i
theorem get_mem {H : Hp} {k : Nat} {b : Blk} (h : H.get k = some b) : (k, b) ∈ H := by
  induction H with
  | nil => cases h
  | cons p H ih =>
    obtain ⟨j, c⟩ := p
    simp only [Hp.get] at h
    cases e : Nat.beq j k
    · rw [e] at h; exact List.mem_cons_of_mem _ (ih h)
    · rw [e] at h; cases h; have := Nat.eq_of_beq_eq_true e; subst this; exact List.mem_cons_self ..
theorem noId_spec {H : Hp} {id : Nat} (h : noId H id H = true) {k : Nat} {b : Blk} (hk : H.get k = some b) : idB (some b) id = false := by
  have key : ∀ l : Hp, noId H id l = true → (k, b) ∈ l → idB (some b) id = false := by
    intro l
    induction l with
    | nil => intro _ hm; simp at hm
    | cons p l ih =>
      obtain ⟨j, c⟩ := p
      intro hn hm
      simp only [noId] at hn
      rcases List.mem_cons.1 hm with hm | hm
      · cases hm
        rw [hk] at hn
        cases e : idB (some b) id
        · rfl
        · rw [e] at hn; cases hn
      · refine ih ?_ hm
        split at hn
        · split at hn
          · cases hn
          · exact hn
        · exact hn
  exact key H h (get_mem hk)
theorem noLp_spec {H : Hp} (h : noLp H H = true) {k : Nat} {b : Blk} (hk : H.get k = some b) : lpB (some b) = false := by
  have key : ∀ l : Hp, noLp H l = true → (k, b) ∈ l → lpB (some b) = false := by
    intro l
    induction l with
    | nil => intro _ hm; simp at hm
    | cons p l ih =>
      obtain ⟨j, c⟩ := p
      intro hn hm
      simp only [noLp] at hn
      rcases List.mem_cons.1 hm with hm | hm
      · cases hm
        rw [hk] at hn
        cases e : lpB (some b)
        · rfl
        · rw [e] at hn; cases hn
      · refine ih ?_ hm
        split at hn
        · split at hn
          · cases hn
          · exact hn
        · exact hn
  exact key H h (get_mem hk)
theorem get_cons (k : Nat) (b : Blk) (H : Hp) : Hp.get ((k, b) :: H) = upd H.get [(k, b)] := get_append [(k, b)] H

section
variable {w0 w : World} {O : Env} {m : Nat → Option Nat} {g : Mem}
def isG : Blk → Bool
  | .fl _ _ => false
  | .cs _ => false
  | .mp _ _ _ => false
  | _ => true
theorem isG_len {b : Blk} (h : isG b = true) : b.len? = none := by cases b <;> first | rfl | cases h
theorem BV_of_GV {I : Nat → Prop} {L : Nat → Option (Option Nat)} {b : Blk} (h : isG b = true) (hv : GV O w I m L b) (q : Option Nat) : BV O w I m L b q := by
  cases b <;> first | (cases h; done) | (cases q <;> exact hv)
theorem GV_of_BV {I : Nat → Prop} {L : Nat → Option (Option Nat)} {b : Blk} (h : isG b = true) {q : Option Nat} (hv : BV O w I m L b q) : GV O w I m L b := by
  cases b <;> first | (cases h; done) | (cases q <;> exact hv)
theorem HR.gv (h : HR w0 w O m g) {k : Nat} {b : Blk} (hk : g k = some b) (hb : isG b = true) : GV O w (Im m g) m (lens g) b := GV_of_BV hb (h.blk k b hk)
/-- At this key there is nothing that is pointed to. -/
def Free (g : Mem) (k : Nat) : Prop := ∀ b, g k = some b → b.len? = none
theorem Goes.addG (w : World) (m : Nat → Option Nat) {k : Nat} (hk : Free g k) {b : Blk} (hb : isG b = true) : Goes w w (Im m g) (Im m (upd g [(k, b)])) m m (lens g) (lens (upd g [(k, b)])) := by
  refine ⟨⟨fun c hc hI ho => ?_, Nat.le_refl _, fun _ _ _ _ => rfl, fun j s hs => ?_, fun _ _ hr => hr⟩, fun _ _ ho _ => ho⟩
  · obtain ⟨j, l, hj, e⟩ := ho
    rw [lens_upd] at hj
    by_cases hkj : k = j
    · rw [if_pos hkj, isG_len hb] at hj; cases hj
    · rw [if_neg hkj] at hj; exact hI ⟨j, l, hj, e⟩
  · rw [lens_upd]
    by_cases hkj : k = j
    · rw [if_pos hkj, isG_len hb]; exact .inl rfl
    · rw [if_neg hkj]
      cases s with
      | none => exact .inl hs
      | some l => exact .inr ⟨l, rfl, hs, rfl⟩
theorem HR.addG (h : HR w0 w O m g) {k : Nat} (hk : Free g k) {b : Blk} (hb : isG b = true) (hv : GV O w (Im m (upd g [(k, b)])) m (lens (upd g [(k, b)])) b) : HR w0 w O m (upd g [(k, b)]) := by
  have hlen : ∀ j s, lens (upd g [(k, b)]) j = some (some s) → lens g j = some (some s) := fun j s hj => by
    rw [lens_upd] at hj
    by_cases hkj : k = j
    · rw [if_pos hkj, isG_len hb] at hj; cases hj
    · rwa [if_neg hkj] at hj
  refine h.change h.fr (Goes.addG w m hk hb) (fun j c hj => ?_) (fun j j' l l' n hj hj' => h.inj _ _ _ _ _ (hlen _ _ hj) (hlen _ _ hj')) (fun j l n hj => h.new _ _ _ (hlen _ _ hj))
  rw [upd_one] at hj
  by_cases hkj : k = j
  · rw [if_pos hkj] at hj; cases hj; right; exact BV_of_GV hb hv _
  · rw [if_neg hkj] at hj; left; exact ⟨hj, fun l hl => ⟨rfl, fun n hn => ⟨fun _ => rfl, fun _ => rfl, fun _ hr => hr, rfl⟩⟩⟩
theorem HR.env (h : HR w0 w O m g) {O' : Env} (hp : O'.p = O.p) (hb0 : O'.b0 = O.b0) (hlo : O.b0 ≤ O'.lo ∧ O'.lo ≤ w.heap.size) (hv : ∀ k b, g k = some b → isG b = true → ∀ id, idB (some b) id = true → O'.gh id = O.gh id) : HR w0 w O' m g := by
  refine ⟨⟨h.fr.os, h.fr.tape, h.fr.output, h.fr.size, fun b hb ho => h.fr.block b hb (by rwa [hp] at ho)⟩, ⟨by rw [hb0]; exact h.lo.1, by rw [hb0]; exact hlo.1, hlo.2⟩, fun k b hk => ?_, h.inj, fun k l n hk hm => by rw [hp]; exact h.new k l n hk hm⟩
  have hb := h.blk k b hk
  cases b with
  | fl ks xs => cases e : m k <;> (rw [e] at hb; exact hb)
  | cs cs => cases e : m k <;> (rw [e] at hb; exact hb)
  | mp kk vk es => cases e : m k <;> (rw [e] at hb; exact hb)
  | gone => cases m k <;> trivial
  | gh id ts =>
    have e := hv k _ hk rfl id (by simp [idB])
    have : FV w (Im m g) m (lens g) ts (O.gh id) := GV_of_BV (b := .gh id ts) rfl hb
    refine BV_of_GV (b := .gh id ts) rfl (show FV w (Im m g) m (lens g) ts (O'.gh id) from ?_) _
    rw [e]; exact this
  | lp id l st pe n ts ps asg body =>
    have e := hv k _ hk rfl id (by simp [idB])
    have : FV w (Im m g) m (lens g) ts (O.gh id) ∧ ((O.gh id).tmps.size = n ∧ O.b0 ≤ l) ∧ ∃ fn D, w.heap[l]? = some (.loop { state := st, pending := pe, fn := fn, tmps := (O.gh id).tmps, params := ps, assign := asg, body := body, defers := D }) := GV_of_BV (b := .lp id l st pe n ts ps asg body) rfl hb
    refine BV_of_GV (b := .lp id l st pe n ts ps asg body) rfl (show FV w (Im m g) m (lens g) ts (O'.gh id) ∧ ((O'.gh id).tmps.size = n ∧ O'.b0 ≤ l) ∧ ∃ fn D, w.heap[l]? = some (.loop { state := st, pending := pe, fn := fn, tmps := (O'.gh id).tmps, params := ps, assign := asg, body := body, defers := D }) from ?_) _
    rw [e, hb0]; exact this
end
theorem isDeadK_free {H : Hp} {k : Nat} (h : isDeadK H k = true) : Free H.get k := by
  intro b hb
  unfold isDeadK at h
  rw [hb] at h
  cases b <;> first | rfl | cases h
theorem fnOf_ok {w : World} {I : Nat → Prop} {m : Nat → Option Nat} {L : Nat → Option (Option Nat)} {fv : T} {v : Value} {f : FuncId} {pre post : List T} (h : TV w I m L fv v) (e : fnOf fv = some (f, pre, post)) :
    ∃ vpre vpost : Array Value, v = .func (.func f) vpre vpost ∧ TVs w I m L pre vpre.toList ∧ TVs w I m L post vpost.toList := by
  unfold fnOf at e
  split at e
  · obtain ⟨h1, -⟩ := h.v_inv; cases e; exact ⟨#[], #[], h1, .nil, .nil⟩
  · cases e; cases h with | fn h1 h2 => exact ⟨_, _, rfl, h1, h2⟩
  · cases e
theorem inlLook_mem {l : List Inl} {f : FuncId} {i : Inl} (h : inlLook l f = some i) : i ∈ l ∧ i.f = f := by
  induction l with
  | nil => cases h
  | cons a l ih =>
    simp only [inlLook] at h
    split at h
    · rename_i hb; cases h; exact ⟨List.mem_cons_self .., Nat.eq_of_beq_eq_true hb⟩
    · obtain ⟨h1, h2⟩ := ih h; exact ⟨List.mem_cons_of_mem _ h1, h2⟩
/-- The frames that wait, and one more. -/
def Env.push (O : Env) (id : Nat) (a : Act) (lo : Nat) (h1 : O.lo ≤ lo) (h2 : ∀ d D, d ∈ a.defers → d.target = .collected D → D < lo) : Env :=
  ⟨O.p, fun j => if j = id then a else O.gh j, O.b0, lo, fun j d D hd ht => by
    by_cases e : j = id
    · simp only [e, if_true] at hd; exact h2 d D hd ht
    · simp only [e, if_false] at hd; exact Nat.lt_of_lt_of_le (O.hi j d D hd ht) h1⟩
theorem Mk.lt {w : World} {ds : List Deferred} (h : Mk w ds) : ∀ d D, d ∈ ds → d.target = .collected D → D < w.heap.size := by
  induction ds with
  | nil => intro d D hd; simp at hd
  | cons e ds ih =>
    obtain ⟨⟨D', h1, h2, _⟩, h3⟩ := h
    intro d D hd ht
    rcases List.mem_cons.1 hd with rfl | hd
    · rw [h1] at ht; cases ht; exact (Array.getElem?_eq_some_iff.1 h2).1
    · exact ih h3 d D hd ht
theorem no_id {H : Hp} {id : Nat} (h : noId H id H = true) {k : Nat} {b : Blk} (hk : H.get k = some b) {j : Nat} (hj : idB (some b) j = true) : j ≠ id := by
  intro e; subst e
  rw [noId_spec h hk] at hj; cases hj

def VOk (C : Ctx) (V : VC) : Prop := ∀ n base rd lv c ts H K, V n base rd lv c ts H K → TW C n rd c ts H K
section
variable {C : Ctx} {V : VC}
theorem TVs.glq {w w' : World} {I I' : Nat → Prop} {m m' : Nat → Option Nat} {L L' : Nat → Option (Option Nat)} (G : Goes w w' I I' m m' L L') {ts : Sl} {a : Act} (h : AT w I m L ts a) : AT w' I' m' L' ts a := h.goes G

/-- A call that is walked. -/
theorem calX_fn (hV : VOk C V) {key : Nat} {args : List T} {ts : Sl} {H : Hp} {K : T → Sl → Hp → Prop} {n : Nat} {w0 : World} {O : Env} {a : Act} {w : World} (hr : Rl C n w0 O ts H a w) {i : Inl} (hi : i ∈ C.inl) {vs : List Value}
    (hc : (isDeadK H ((key + 1) * 4096) && noId H ((key + 1) * 4096) H && Nat.ble args.length i.fn.ntmps) = true)
    (h : V i.fn.ntmps ((key + 1) * 4096 + 8) false i.lv i.c (slots 0 args) (((key + 1) * 4096, .gh ((key + 1) * 4096) ts) :: H) (retK C i.fn (fun t H => fT t fun t => retX C i.fn ((key + 1) * 4096) K t H)))
    (ha : ∀ m, HR w0 w O m H.get → AT w (Im m H.get) m (lens H.get) ts a → GlOk C w (Im m H.get) m (lens H.get) → TVs w (Im m H.get) m (lens H.get) args vs) {R : Value → World → Prop}
    (hn : ∀ t ts' H' v w', K t ts' H' → Rv C w0 O ts' H' a w' t v → R v w') : Calls C.P i.f vs.toArray w fun e w' => ∃ v, e = .returned v ∧ R v w' := by
  obtain ⟨gk, hgk⟩ : ∃ gk, (key + 1) * 4096 = gk := ⟨_, rfl⟩
  rw [hgk] at h hc
  simp only [Bool.and_eq_true] at hc
  obtain ⟨⟨c1, c2⟩, c3⟩ := hc
  have c3 := Nat.le_of_ble_eq_true c3
  obtain ⟨m, h1, h2, h3, h4, h5⟩ := hr
  have hfree := isDeadK_free c1
  have G := Goes.addG w m hfree (b := .gh gk ts) rfl
  have hlt := h4.1.lt
  let O' : Env := O.push gk a w.heap.size h1.lo.2.2 hlt
  have e1 : HR w0 w O' m H.get := h1.env rfl rfl ⟨Nat.le_trans h1.lo.2.1 h1.lo.2.2, Nat.le_refl _⟩ (fun k b hk _ id hid => by
    show (if id = gk then a else O.gh id) = _
    rw [if_neg (no_id c2 hk hid)])
  have e2 : HR w0 w O' m (Hp.get ((gk, .gh gk ts) :: H)) := by
    rw [get_cons]
    refine e1.addG hfree rfl ?_
    show FV w _ m _ ts (if gk = gk then a else O.gh gk)
    rw [if_pos rfl]
    exact ⟨h2.goes G, h4.1⟩
  have ok := C.hinl i hi
  refine (calls_ok ok.hf ok.hb e2 (by rw [get_cons]; simpa using (ha m h1 h2 h3).goes G) (by rw [get_cons]; exact h3.goes G) c3 (hV _ _ _ _ _ _ _ _ h)).mono ?_
  rintro e w' ⟨v, t, H', m', rfl, hR, g1, g2, g3⟩
  rw [fT_eq] at hR
  unfold retX at hR
  split at hR
  · rename_i id ts' eg
    split at hR
    · rename_i hcc
      simp only [Bool.and_eq_true] at hcc
      have hid := Nat.eq_of_beq_eq_true hcc.1
      subst hid
      have hfv : FV w' (Im m' H'.get) m' (lens H'.get) ts' (if id = id then a else O.gh id) := g1.gv eg rfl
      rw [if_pos rfl] at hfv
      have hfr : Free H'.get id := fun b hb => by rw [eg] at hb; cases hb; rfl
      have G' := Goes.addG w' m' hfr (b := .gone) rfl
      have q1 : HR w0 w' O' m' (upd H'.get [(id, .gone)]) := g1.addG hfr rfl trivial
      rw [← get_cons] at q1 G'
      refine ⟨v, rfl, hn t ts' _ v w' hR ⟨m', q1.env rfl rfl ⟨h1.lo.2.1, Nat.le_trans h1.lo.2.2 g1.lo.2.2⟩ (fun k b hk _ j hj => ?_), AT.goes G' hfv.1, g2.goes G', ⟨hfv.2, h4.2⟩, g3.goes G'⟩⟩
      show _ = (if j = id then a else O.gh j)
      rw [if_neg (no_id hcc.2 hk hj)]
    · exact hR.elim
  · exact hR.elim
end
section
variable {C : Ctx} {V : VC} {w0 : World} {O : Env}
theorem Goes0.then {w1 w2 w3 : World} {I1 I2 I3 : Nat → Prop} {m1 m2 m3 : Nat → Option Nat} {L1 L2 L3 : Nat → Option (Option Nat)} (h : Goes0 w1 w2 I1 I2 m1 m2 L1 L2) (k : Goes0 w2 w3 I2 I3 m2 m3 L2 L3) : Goes0 w1 w3 I1 I3 m1 m3 L1 L3 := by
  refine ⟨fun b hb hI => k.imm b (Nat.lt_of_lt_of_le hb h.size) (h.imm b hb hI), Nat.le_trans h.size k.size, fun b o hb hI => (k.cell b o (Nat.lt_of_lt_of_le hb h.size) (h.imm b hb hI)).trans (h.cell b o hb hI), fun j s hs => ?_, fun b n hr => k.room _ _ (h.room _ _ hr)⟩
  rcases h.own j s hs with e | ⟨l, rfl, e, em⟩
  · rcases k.own j _ e with e' | ⟨l, e', _⟩
    · exact .inl e'
    · cases e'
  · rcases k.own j _ e with e' | ⟨l', e', e2, em'⟩
    · exact .inl e'
    · cases e'; exact .inr ⟨l, rfl, e2, em'.trans em⟩
theorem Mk.loop {w : World} {l : Nat} {r : Loop} {ob' : Obj} (hl : w.heap[l]? = some (.loop r)) {ds : List Deferred} (h : Mk w ds) : Mk (w.putObj l ob') ds := by
  induction ds with
  | nil => trivial
  | cons d ds ih =>
    obtain ⟨⟨D, h1, h3, h4⟩, h5⟩ := h
    have : D ≠ l := fun e => by subst e; rw [hl] at h3; cases h3
    exact ⟨⟨D, h1, (World.putObj_heap_other this).trans h3, h4⟩, ih h5⟩
/-- The record of the loop over a function is let go: what is known besides stays, whatever becomes of the record. -/
theorem drop_lp {w : World} {m : Nat → Option Nat} {H : Hp} (h : HR w0 w O m H.get) {kl id l : Nat} {st : LoopState} {pe : Option Code} {n : Nat} {ts : Sl} {ps : Array Tmp} {asg body : Code} (hk : H.get kl = some (.lp id l st pe n ts ps asg body)) (hno : noLp ((kl, .gone) :: H) H = true) (r' : Loop) :
    ∃ fn D, w.heap[l]? = some (.loop { state := st, pending := pe, fn := fn, tmps := (O.gh id).tmps, params := ps, assign := asg, body := body, defers := D }) ∧
      HR w0 (w.putObj l (.loop r')) O m (Hp.get ((kl, .gone) :: H)) ∧ Goes0 w (w.putObj l (.loop r')) (Im m H.get) (Im m (Hp.get ((kl, .gone) :: H))) m m (lens H.get) (lens (Hp.get ((kl, .gone) :: H))) ∧
      FV (w.putObj l (.loop r')) (Im m (Hp.get ((kl, .gone) :: H))) m (lens (Hp.get ((kl, .gone) :: H))) ts (O.gh id) ∧ (O.gh id).tmps.size = n ∧ O.b0 ≤ l ∧ l < w.heap.size := by
  obtain ⟨⟨f1, f2⟩, ⟨f3, f5⟩, fn, D, f4⟩ : FV w (Im m H.get) m (lens H.get) ts (O.gh id) ∧ ((O.gh id).tmps.size = n ∧ O.b0 ≤ l) ∧ ∃ fn D, w.heap[l]? = some (.loop { state := st, pending := pe, fn := fn, tmps := (O.gh id).tmps, params := ps, assign := asg, body := body, defers := D }) := h.gv hk rfl
  have hfr : Free H.get kl := fun b hb => by rw [hk] at hb; cases hb; rfl
  have G1 := Goes.addG w m hfr (b := .gone) rfl
  have q1 : HR w0 w O m (upd H.get [(kl, .gone)]) := h.addG hfr rfl trivial
  rw [← get_cons] at q1 G1
  have G2 : Goes0 w (w.putObj l (.loop r')) (Im m (Hp.get ((kl, .gone) :: H))) (Im m (Hp.get ((kl, .gone) :: H))) m m (lens (Hp.get ((kl, .gone) :: H))) (lens (Hp.get ((kl, .gone) :: H))) := Goes0.put f4 rfl rfl
  have q2 : HR w0 (w.putObj l (.loop r')) O m (Hp.get ((kl, .gone) :: H)) := q1.put f4 rfl rfl (Nat.le_trans h.lo.1 f5) (fun k b hkb hb => by
    cases b with
    | fl ks xs => trivial
    | cs cs => trivial
    | mp kk vk es => trivial
    | gone => trivial
    | gh id ts => exact ⟨fun i => (hb.1 i).goes0 G2, hb.2.loop f4⟩
    | lp id l st pe n ts ps asg body => have := noLp_spec (H := (kl, .gone) :: H) hno hkb; cases this)
  exact ⟨fn, D, f4, q2, G1.toGoes0.then G2, ⟨fun i => ((f1 i).goes G1).goes0 G2, f2.loop f4⟩, f3, f5, (Array.getElem?_eq_some_iff.1 f4).1⟩
/-- The record of the loop over a function is turned. -/
theorem turn_lp {w : World} {m : Nat → Option Nat} {H : Hp} (h : HR w0 w O m H.get) {kl id l : Nat} {st : LoopState} {pe : Option Code} {n : Nat} {ts : Sl} {ps : Array Tmp} {asg body : Code} (hk : H.get kl = some (.lp id l st pe n ts ps asg body)) (hno : noLp ((kl, .gone) :: H) H = true) (st' : LoopState) (pe' : Option Code) :
    ∃ fn D, w.heap[l]? = some (.loop { state := st, pending := pe, fn := fn, tmps := (O.gh id).tmps, params := ps, assign := asg, body := body, defers := D }) ∧
      HR w0 (w.putObj l (.loop { state := st', pending := pe', fn := fn, tmps := (O.gh id).tmps, params := ps, assign := asg, body := body, defers := D })) O m (Hp.get ((kl, .lp id l st' pe' n ts ps asg body) :: H)) ∧
      Goes0 w (w.putObj l (.loop { state := st', pending := pe', fn := fn, tmps := (O.gh id).tmps, params := ps, assign := asg, body := body, defers := D })) (Im m H.get) (Im m (Hp.get ((kl, .lp id l st' pe' n ts ps asg body) :: H))) m m (lens H.get) (lens (Hp.get ((kl, .lp id l st' pe' n ts ps asg body) :: H))) := by
  obtain ⟨fn, D, f4, -⟩ := drop_lp h hk hno default
  obtain ⟨fn', D', f4', q2, G, q3, q4, q5, q6⟩ := drop_lp h hk hno { state := st', pending := pe', fn := fn, tmps := (O.gh id).tmps, params := ps, assign := asg, body := body, defers := D }
  refine ⟨fn, D, f4, ?_, ?_⟩
  all_goals
    have hu : Hp.get ((kl, .lp id l st' pe' n ts ps asg body) :: H) = upd (Hp.get ((kl, .gone) :: H)) [(kl, .lp id l st' pe' n ts ps asg body)] := by
      rw [get_cons, get_cons]; funext j; rw [upd_one, upd_one, upd_one]; split <;> rfl
    have hfr : Free (Hp.get ((kl, .gone) :: H)) kl := fun b hb => by simp [Hp.get] at hb; subst hb; rfl
    have G3 := Goes.addG (w.putObj l (.loop { state := st', pending := pe', fn := fn, tmps := (O.gh id).tmps, params := ps, assign := asg, body := body, defers := D })) m hfr (b := .lp id l st' pe' n ts ps asg body) rfl
    rw [hu]
  · refine q2.addG hfr rfl ⟨q3.goes G3, ⟨q4, q5⟩, fn, D, World.putObj_heap_same q6⟩
  · exact G.then G3.toGoes0

theorem parS_spec {n : Nat} {w : World} {I : Nat → Prop} {m : Nat → Option Nat} {L : Nat → Option (Option Nat)} : ∀ {ps : List Nat} {args : List T} {vs : List Value} {ts ts1 : Sl} {tm : Array Value}, parS n ps args ts = some ts1 → TVs w I m L args vs → tm.size = n → (∀ i, TV w I m L (tget ts i) (tm.getD i undef)) →
    ps.length = vs.length ∧ (∀ i, TV w I m L (tget ts1 i) (((ps.zip vs).foldl (fun (t : Array Value) (x : Nat × Value) => t.setIfInBounds x.1 x.2) tm).getD i undef)) ∧ ((ps.zip vs).foldl (fun (t : Array Value) (x : Nat × Value) => t.setIfInBounds x.1 x.2) tm).size = n := by
  intro ps
  induction ps with
  | nil =>
    intro args vs ts ts1 tm h ha hs ht
    cases args with
    | nil => cases h; cases ha; exact ⟨rfl, ht, hs⟩
    | cons t r => cases h
  | cons p ps ih =>
    intro args vs ts ts1 tm h ha hs ht
    cases args with
    | nil => cases h
    | cons t r =>
      simp only [parS] at h
      split at h
      · rename_i hp
        rw [Nat.blt_eq] at hp
        cases ha with
        | cons h1 h2 =>
          rename_i v vs
          obtain ⟨k1, k2, k3⟩ := ih h h2 (tm := tm.setIfInBounds p v) (by simpa using hs) (fun i => by
            simp only [tget]
            rw [Array.getD_eq_getD_getElem?, Array.getElem?_setIfInBounds]
            cases e : Nat.beq p i
            · have hi : ¬ p = i := fun hi => by subst hi; rw [Nat.beq_refl] at e; cases e
              rw [if_neg hi, ← Array.getD_eq_getD_getElem?]; exact ht i
            · have := Nat.eq_of_beq_eq_true e; subst this
              rw [if_pos rfl, if_pos (by omega)]; exact h1)
          exact ⟨by simp [k1], k2, k3⟩
      · cases h
theorem zipF (ps : Array Tmp) (vs : Array Value) (tm : Array Value) : (ps.zip vs).foldl (fun tmps (t, a) => tmps.setIfInBounds t a) tm = (ps.toList.zip vs.toList).foldl (fun (t : Array Value) (x : Nat × Value) => t.setIfInBounds x.1 x.2) tm := by
  rw [← Array.foldl_toList, Array.toList_zip]

theorem yield_exec {o : Oper} {f : Operand} {as : Array Operand} {tys : Array TypeId} (hop : o.op = .call ⟨.value f, as, tys⟩) {a : Act} {l : Nat} (hf : a.eval f = .func (.yield l) #[] #[]) : execOp a.eval o = Instr.yield l (as.map a.eval) := by
  obtain ⟨dst, op, ty, pos, after, guard⟩ := o
  simp only at hop
  subst hop
  simp only [execOp, resolve, hf, Deferred.ofValue, pure_bind, invoke]
  simp
end
section
variable {C : Ctx} {V : VC}
theorem calX_ok (hV : VOk C V) (rd : Bool) : XOk C rd (calX C V) := by
  intro fv args key ts H K h ro hro n w0 O a w hr o f as tys hop hfv hargs next Q hn
  unfold calX at h
  rw [fN_eq, fTs_eq] at h
  unfold calY at h
  split at h
  · rename_i fid pre post e
    split at h
    · rename_i i hi
      obtain ⟨hi1, rfl⟩ := inlLook_mem hi
      split at h
      · rename_i hc
        obtain ⟨m, h1, h2, h3, h4⟩ := id hr
        have hf := ev_ok h2 h3 f
        rw [hfv] at hf
        obtain ⟨vpre, vpost, hv, -, -⟩ := fnOf_ok hf e
        refine wpIn_of_wp (fun c e => by rw [hop] at e; cases e) ?_
        unfold Oper.wp
        have he : execOp a.eval o = callFunc i.f (vpre.toList ++ as.toList.map a.eval ++ vpost.toList).toArray := by
          obtain ⟨dst, op, ty, pos, after, guard⟩ := o
          simp only at hop
          subst hop
          simp only [execOp, resolve, hv, Deferred.ofValue, pure_bind, invoke]
          congr 1
          apply Array.ext'
          simp
        rw [he, (C.hinl i hi1).he]
        refine (calX_fn hV hr hi1 hc h (vs := vpre.toList ++ as.toList.map a.eval ++ vpost.toList) (R := fun v w' => next (a.put o.dst v) w') (fun m h1 h2 h3 => ?_) (fun t ts' H' v w' hK hv => hn t ts' H' v w' hK hv)).mono ?_
        · have hf := ev_ok h2 h3 f
          rw [hfv] at hf
          obtain ⟨vpre', vpost', hv', hpre, hpost⟩ := fnOf_ok hf e
          rw [hv] at hv'; cases hv'
          have := evL_ok h2 h3 as.toList
          rw [hargs] at this
          exact (hpre.append this).append hpost
        · rintro e w' ⟨v, rfl, hv⟩
          exact hv
      · exact h.elim
    · exact h.elim
  · split at h
    · rename_i l
      split at h
      · rename_i kl hkl
        split at h
        · rename_i id l' n' ts' ps asg body eg
          split at h
          · rename_i hc
            split at h
            · rename_i ts1 hps
              obtain ⟨rfl, h⟩ := h
              simp only [Bool.and_eq_true, Bool.not_eq_true'] at hc
              obtain ⟨⟨c1, c2⟩, c3⟩ := hc
              obtain ⟨gk, hgk⟩ : ∃ gk, (key + 1) * 4096 = gk := ⟨_, rfl⟩
              rw [hgk] at h c1 c2 c3
              obtain ⟨m, h1, h2, h3, h4, h5⟩ := hr
              have hf := ev_ok h2 h3 f
              rw [hfv] at hf
              have hv : a.eval f = .func (.yield l') #[] #[] := by
                generalize a.eval f = vf at hf
                cases hf with
                | fn p q =>
                  rename_i as cs
                  have e1 : as = #[] := by have := p.length; simp at this; exact Array.eq_empty_of_size_eq_zero this.symm
                  have e2 : cs = #[] := by have := q.length; simp at this; exact Array.eq_empty_of_size_eq_zero this.symm
                  rw [e1, e2]
              have hargs' := evL_ok h2 h3 as.toList
              rw [hargs] at hargs'
              obtain ⟨⟨f1, f2⟩, ⟨f3, f5⟩, fn, D, f4⟩ : FV w (Im m H.get) m (lens H.get) ts' (O.gh id) ∧ ((O.gh id).tmps.size = n' ∧ O.b0 ≤ l') ∧ ∃ fn D, w.heap[l']? = some (.loop { state := .ready, pending := none, fn := fn, tmps := (O.gh id).tmps, params := ps, assign := asg, body := body, defers := D }) := h1.gv eg rfl
              obtain ⟨p1, p2, p3⟩ := parS_spec hps hargs' f3 f1
              have hsz : (as.map a.eval).size = ps.size := by simpa using p1.symm
              refine ⟨fun _ _ => trivial, ?_⟩
              rw [Oper.semAt_eq _ _ _ (fun c e => by rw [hop] at e; cases e), yield_exec hop hv, run_yield f4 hsz]
              refine ⟨fun hh => (by cases hh), ?_⟩
              have hfree := isDeadK_free c1
              have G := Goes.addG w m hfree (b := .gh gk ts) rfl
              let O1 : Env := O.push gk a w.heap.size h1.lo.2.2 h4.1.lt
              have e1 : HR w0 w O1 m H.get := h1.env rfl rfl ⟨Nat.le_trans h1.lo.2.1 h1.lo.2.2, Nat.le_refl _⟩ (fun k b hk _ id hid => by
                show (if id = gk then a else O.gh id) = _
                rw [if_neg (no_id c2 hk hid)])
              have e2 : HR w0 w O1 m (Hp.get ((gk, .gh gk ts) :: H)) := by
                rw [get_cons]
                refine e1.addG hfree rfl ?_
                show FV w _ m _ ts (if gk = gk then a else O.gh gk)
                rw [if_pos rfl]
                exact ⟨h2.goes G, h4.1⟩
              have hin : (FR ro).inRound l' = FR (some l') := rfl
              refine roundIn_of_wpIn (F := FR ro) trivial ?_
              rw [hin]
              refine wpIn_mono ((hV _ _ _ _ _ _ _ _ h).out (some l') (fun hh => by cases hh) w0 O1 _ w ⟨m, e2, ?_, by rw [get_cons]; exact h3.goes G, ⟨trivial, fun d hd => by cases hd⟩, ?_⟩) ?_
              · rw [get_cons]
                intro i
                have := p2 i
                simp only [zipF]
                rw [Array.toList_map]
                exact this.goes G
              · simp only [zipF]
                rw [Array.toList_map]
                exact p3
              rintro e a1 w1 ⟨ts2, H2, hK, hr2⟩
              cases e with
              | normal =>
                simp only [begK] at hK
                split at hK
                · rename_i id2 l2 n2 ts2' ps2 asg2 b2 eg2
                  split at hK
                  · rename_i hno
                    obtain ⟨rfl, hK⟩ := hK
                    obtain ⟨m2, q1, q2, q3, q4, q5⟩ := hr2
                    obtain ⟨fn2, D2, q6, q7, q8⟩ := turn_lp q1 eg2 hno .busy none
                    refine ⟨_, run_beginRound q6 rfl, ?_⟩
                    refine wpIn_mono ((hV _ _ _ _ _ _ _ _ hK).out (some l2) (fun hh => by cases hh) w0 O1 _ _ ⟨m2, q7, fun i => (q2 i).goes0 q8, fun i => (q3 i).goes0 q8, ⟨q4.1.loop q6, q4.2⟩, q5⟩) ?_
                    rintro e a3 w3 ⟨ts3, H3, hK3, hr3⟩
                    unfold rndK at hK3
                    split at hK3
                    · rename_i id3 l3 n3 ts3' ps3 asg3 b3 j3 ts4 eg3 eg4
                      split at hK3
                      · rename_i hcc
                        simp only [Bool.and_eq_true, Bool.not_eq_true'] at hcc
                        obtain ⟨⟨⟨d1, d2⟩, d3⟩, d4⟩ := hcc
                        have hj := Nat.eq_of_beq_eq_true d1
                        subst hj
                        obtain ⟨m3, r1, r2, r3, r4, r5⟩ := hr3
                        have hfv3 : FV w3 (Im m3 H3.get) m3 (lens H3.get) ts4 (if j3 = j3 then a else O.gh j3) := r1.gv eg4 rfl
                        rw [if_pos rfl] at hfv3
                        have hfr : Free H3.get j3 := fun b hb => by rw [eg4] at hb; cases hb; rfl
                        have G' := Goes.addG w3 m3 hfr (b := .gone) rfl
                        have s1 : HR w0 w3 O1 m3 (upd H3.get [(j3, .gone)]) := r1.addG hfr rfl trivial
                        rw [← get_cons] at s1 G'
                        have s2 : HR w0 w3 O m3 (Hp.get ((j3, .gone) :: H3)) := s1.env rfl rfl ⟨h1.lo.2.1, Nat.le_trans h1.lo.2.2 r1.lo.2.2⟩ (fun k b hk _ j hj => by
                          show _ = (if j = j3 then a else O.gh j)
                          rw [if_neg (no_id d2 hk hj)])
                        have eg5 : Hp.get ((j3, .gone) :: H3) kl = some (.lp id3 l3 .busy none n3 ts3' ps3 asg3 b3) := by
                          simp only [Hp.get, d4, cond_false]; exact eg3
                        have fin : ∀ (jump : Option Code) (st : LoopState) (v : Bool), st = (if jump.isNone then .ready else .done) → v = jump.isNone → l3 = l2 → K (.v (.bool v)) ts4 ((kl, .lp id3 l3 st jump n3 ts3' ps3 asg3 b3) :: (j3, .gone) :: H3) →
                            ∃ v w', (Instr.endRound l2 jump).run C.P w3 = .ok v w' ∧ next (a.put o.dst v) w' := by
                          intro jump st v e1 e2 e3 hK
                          subst e3
                          obtain ⟨fn3, D3, t1, t2, t3⟩ := turn_lp s2 eg5 d3 st jump
                          refine ⟨_, _, run_endRound jump t1, ?_⟩
                          subst e1 e2
                          refine hn _ _ _ _ _ hK ⟨m3, t2, fun i => ((hfv3.1 i).goes G').goes0 t3, fun i => ((r3 i).goes G').goes0 t3, ⟨hfv3.2.loop t1, h4.2⟩, .v rfl⟩
                        cases e with
                        | normal => exact fin none _ _ rfl rfl hK3.1 hK3.2
                        | ret => exact fin (some .ret) _ _ rfl rfl hK3.1 hK3.2
                        | exit q => exact fin (some (.exit q)) _ _ rfl rfl hK3.1 hK3.2
                        | goto q => exact fin (some (.goto q)) _ _ rfl rfl hK3.1 hK3.2
                        | panic ch => exact hK3.elim
                        | outgrown => exact hK3.elim
                      · exact hK3.elim
                    · exact hK3.elim
                  · exact hK.elim
                · exact hK.elim
              | exit q => exact hK.elim
              | goto q => exact hK.elim
              | ret => exact hK.elim
              | panic ch => exact hK.elim
              | outgrown => exact hK.elim
            · exact h.elim
          · exact h.elim
        · exact h.elim
      · exact h.elim
    · exact h.elim
end
section
variable {C : Ctx} {V : VC}
theorem rng_ok (hV : VOk C V) {n base : Nat} {rd : Bool} {f : Operand} {ps : Array Tmp} {asg body : Code} {ts : Sl} {H : Hp} {K : Exit → Sl → Hp → Prop} (h : rngX C V n base rd f ps asg body ts H K) : TW C n rd (.rangeFunc f ps asg body) ts H K := by
  refine ⟨fun ro hro w0 O a w hr => ?_⟩
  unfold rngX at h
  split at h
  · exact h.elim
  · have hro := hro rfl
    subst hro
    split at h
    · rename_i gid pre post e
      split at h
      · rename_i i hi
        obtain ⟨hi1, rfl⟩ := inlLook_mem hi
        split at h
        · rename_i hc
          simp only [Bool.and_eq_true] at hc
          obtain ⟨⟨⟨c1, c2⟩, c3⟩, c4⟩ := hc
          have c4 := Nat.le_of_ble_eq_true c4
          obtain ⟨kl, hkl⟩ : ∃ kl, base + 4 * n = kl := ⟨_, rfl⟩
          rw [hkl] at h c1 c2
          obtain ⟨m, h1, h2, h3, h4, h5⟩ := hr
          have hf := ev_ok h2 h3 f
          obtain ⟨vpre, vpost, hv, hpre, hpost⟩ := fnOf_ok hf e
          have ok := C.hinl i hi1
          refine wpIn_rangeFunc (F := FR none) (fun fn _ => ?_)
          let D := w.heap.size
          let l := w.heap.size + 1
          let mark : Deferred := { target := .collected D, args := #[] }
          let rec0 : Loop := { state := .ready, pending := none, fn := fn, tmps := a.tmps, params := ps, assign := asg, body := body, defers := D }
          let w2 := (w.alloc (.deferred (some []))).alloc (.loop rec0)
          let a' : Act := { a with defers := mark :: a.defers }
          have hb : Below w.heap.size w w2 := ((Below.refl _ w).alloc (Nat.le_refl _) _).alloc (by simp) _
          have hD : w2.heap[D]? = some (.deferred (some [])) := (Below.heap_alloc _ _ _ (by simp [D])).trans (World.alloc_heap_new w _)
          have hL : w2.heap[l]? = some (.loop rec0) := by have := World.alloc_heap_new (w.alloc (.deferred (some []))) (.loop rec0); rwa [World.size_alloc] at this
          have hs2 : w2.heap.size = w.heap.size + 2 := by simp [w2]
          have Gb := Goes.of_below hb h1
          have r1 : HR w0 w2 O m H.get := h1.below hb
          have hmk : Mk w2 a'.defers := ⟨⟨D, rfl, hD, fun e he ee => by
            have := h4.1.lt e D he (by rw [ee]); omega⟩, h4.1.goes Gb.odd⟩
          have hlt : ∀ d q, d ∈ a'.defers → d.target = .collected q → q < w2.heap.size := hmk.lt
          let O1 : Env := O.push kl a' w2.heap.size r1.lo.2.2 hlt
          have hfree := isDeadK_free c1
          have G := Goes.addG w2 m hfree (b := .lp kl l .ready none n ts ps asg body) rfl
          have e1 : HR w0 w2 O1 m H.get := r1.env rfl rfl ⟨Nat.le_trans r1.lo.2.1 r1.lo.2.2, Nat.le_refl _⟩ (fun k b hk _ id hid => by
            show (if id = kl then a' else O.gh id) = _
            rw [if_neg (no_id c2 hk hid)])
          have e2 : HR w0 w2 O1 m (Hp.get ((kl, .lp kl l .ready none n ts ps asg body) :: H)) := by
            rw [get_cons]
            refine e1.addG hfree rfl ?_
            have : O1.gh kl = a' := by show (if kl = kl then a' else O.gh kl) = a'; rw [if_pos rfl]
            show FV w2 _ m _ ts (O1.gh kl) ∧ ((O1.gh kl).tmps.size = n ∧ O1.b0 ≤ l) ∧ ∃ fn D, w2.heap[l]? = some (.loop { state := .ready, pending := none, fn := fn, tmps := (O1.gh kl).tmps, params := ps, assign := asg, body := body, defers := D })
            rw [this]
            refine ⟨⟨(h2.goes Gb).goes G, hmk⟩, ⟨h5, ?_⟩, fn, D, hL⟩
            have := h1.lo; show O.b0 ≤ w.heap.size + 1; omega
          have hargs : TVs w2 (Im m (Hp.get ((kl, .lp kl l .ready none n ts ps asg body) :: H))) m (lens (Hp.get ((kl, .lp kl l .ready none n ts ps asg body) :: H))) (pre ++ [.fn (.yield l) [] []] ++ post) (vpre.toList ++ [.func (.yield l) #[] #[]] ++ vpost.toList) := by
            rw [get_cons]
            exact ((((hpre.goes Gb).append (TVs.cons (.fn .nil .nil) .nil)).append (hpost.goes Gb))).goes G
          refine ⟨l, [mark], w2, { target := .fn (.func i.f) vpost, args := vpre ++ #[.func (.yield l) #[] #[]] }, w2, i.f, (vpre.toList ++ [Value.func (.yield l) #[] #[]] ++ vpost.toList).toArray, w2, ?_, ?_, fun _ _ => trivial, ?_, fun hh => (by cases hh), ?_⟩
          · exact run_enterLoop_outer _ _ _ _ _
          · simp only [resolve, hv]
            simp [go_sem, Act.eval]
          · have : (callFunc i.f (vpre ++ #[.func (.yield l) #[] #[]] ++ vpost)).run C.P w2 = .ok (.enter i.f (vpre ++ #[.func (.yield l) #[] #[]] ++ vpost)) w2 := ok.he _ _
            have e3 : (vpre.toList ++ [Value.func (.yield l) #[] #[]] ++ vpost.toList).toArray = vpre ++ #[.func (.yield l) #[] #[]] ++ vpost := by apply Array.ext'; simp
            rw [e3]
            simpa [invoke] using this
          · refine callsIn_FR.2 ((calls_ok ok.hf ok.hb e2 (by simpa using hargs) (by rw [get_cons]; exact (h3.goes Gb).goes G) (by simp; omega) (hV _ _ _ _ _ _ _ _ (h l))).mono ?_)
            rintro e w3 ⟨v, t, H', m', rfl, hR, g1, g2, g3⟩
            unfold retR at hR
            split at hR
            · rename_i id' l' st pe n' ts' ps' asg' body' eg
              split at hR
              · rename_i hcc
                simp only [Bool.and_eq_true] at hcc
                obtain ⟨⟨d1, d2⟩, d3⟩ := hcc
                have hid := Nat.eq_of_beq_eq_true d1
                subst hid
                obtain ⟨fn0, D0, t0, -⟩ := drop_lp g1 eg d3 default
                obtain ⟨fn3, D3, t1, t2, t3, t4, t5, t6, t7⟩ := drop_lp g1 eg d3 { state := .exhausted, pending := pe, fn := fn0, tmps := (O1.gh id').tmps, params := ps', assign := asg', body := body', defers := D0 }
                have hgh : O1.gh id' = a' := by show (if id' = id' then a' else O.gh id') = a'; rw [if_pos rfl]
                rw [hgh] at t0 t2 t3 t4
                have s2 : HR w0 (w3.putObj l' (.loop { state := .exhausted, pending := pe, fn := fn0, tmps := a'.tmps, params := ps', assign := asg', body := body', defers := D0 })) O m' (Hp.get ((id', .gone) :: H')) :=
                  t2.env rfl rfl ⟨h1.lo.2.1, Nat.le_trans h1.lo.2.2 (Nat.le_trans hb.size (Nat.le_trans g1.lo.2.2 (by simp)))⟩ (fun k b hk _ j hj => by
                    show _ = (if j = id' then a' else O.gh j)
                    rw [if_neg (no_id d2 hk hj)])
                have hlo' : Lo O.lo a'.defers := fun d hd q hq => by
                  rcases List.mem_cons.1 hd with rfl | hd
                  · cases hq; exact h1.lo.2.2
                  · exact h4.2 d hd q hq
                have hrl : Rl C n w0 O ts' ((id', .gone) :: H') a' (w3.putObj l' (.loop { state := .exhausted, pending := pe, fn := fn0, tmps := a'.tmps, params := ps', assign := asg', body := body', defers := D0 })) :=
                  ⟨m', s2, t4.1, fun i => (g2 i).goes0 t3, ⟨t4.2, hlo'⟩, h5⟩
                have fin : st ≠ .busy → l' = l → (match pe with
                    | none => ∃ ts' H', K .normal ts' H' ∧ Rl C n w0 O ts' H' a' (w3.putObj l' (.loop { state := .exhausted, pending := pe, fn := fn0, tmps := a'.tmps, params := ps', assign := asg', body := body', defers := D0 }))
                    | some c => c.wpIn (FR none) 0 C.P (fun e a' w' => ∃ ts' H', K e ts' H' ∧ Rl C n w0 O ts' H' a' w') a' (w3.putObj l' (.loop { state := .exhausted, pending := pe, fn := fn0, tmps := a'.tmps, params := ps', assign := asg', body := body', defers := D0 }))) →
                    rangePost (FR none) 0 C.P l (fun e a' w' => ∃ ts' H', K e ts' H' ∧ Rl C n w0 O ts' H' a' w') a' (.returned v) w3 := by
                  intro hst hl hp
                  subst hl
                  refine ⟨pe, _, run_endLoop t0 hst, ?_⟩
                  cases pe with
                  | none => exact hp
                  | some c => exact hp
                cases st with
                | ready =>
                  simp only at hR
                  split at hR
                  · exact fin (by intro h; cases h) hR.1 ⟨_, _, hR.2, hrl⟩
                  · exact hR.elim
                | done =>
                  simp only at hR
                  split at hR
                  · exact fin (by intro h; cases h) hR.1 (wpIn_ret ⟨_, _, hR.2, hrl⟩)
                  · exact fin (by intro h; cases h) hR.1 (wpIn_exit ⟨_, _, hR.2, hrl⟩)
                  · exact fin (by intro h; cases h) hR.1 (wpIn_goto ⟨_, _, hR.2, hrl⟩)
                  · exact hR.elim
                | busy => exact hR.elim
                | exhausted => exact hR.elim
              · exact hR.elim
            · exact hR.elim
        · exact h.elim
      · exact h.elim
    · exact h.elim
end
section
variable {P : Program} {b : Frame} {a : Act} {k : List Item} {cs : List Frame} {w : World} {F : Fence} {n : Nat} {Q : Exit → Act → World → Prop}
theorem stepR_scope {c : Code} : step P (lone (b.atR a (.code (.scope c) :: k)) cs w) = .next (lone (b.atR a (.code c :: .inScope c :: k)) cs w) :=
  step_lone_go (by simp [stepG, stepG.exec, Frame.atR])
theorem stepR_inScope {c : Code} : step P (lone (b.atR a (.inScope c :: k)) cs w) = .next (lone (b.atR a k) cs w) :=
  step_lone_go (by simp [stepG, stepG.exec, Frame.atR])
/-- By no goto. -/
def ngQ (Q : Exit → Act → World → Prop) : Exit → Act → World → Prop
  | .goto _, _, _ => False
  | e, a, w => Q e a w
def scpQ (F : Fence) (n : Nat) (P : Program) (c : Code) (Q : Exit → Act → World → Prop) : Exit → Act → World → Prop
  | .goto l, a, w => ∃ rest, findLabel c l = some rest ∧ rest.wpIn F n P (ngQ Q) a w
  | e, a, w => Q e a w
theorem wpIn_scope {c : Code} (h : c.wpIn F n P (scpQ F n P c Q) a w) : (Code.scope c).wpIn F n P Q a w := by
  intro b k cs hro hb hr
  have h0 : (lone (b.atR a (.code (.scope c) :: k)) cs w).fenced P F := fenced_calm hb hr rfl
  have st : StepsIn (Machine.fenced P F) P (lone (b.atR a (.code (.scope c) :: k)) cs w) (lone (b.atR a (.code c :: .inScope c :: k)) cs w) := .one h0 stepR_scope
  obtain ⟨e, a₁, w₁, hq, harr⟩ := h b (.inScope c :: k) cs hro hb hr
  cases e with
  | normal => exact ⟨.normal, a₁, w₁, hq, StepsIn.trans st (StepsIn.trans harr (.one (fenced_calm hb hr rfl) stepR_inScope))⟩
  | exit id => exact ⟨_, a₁, w₁, hq, .of_steps st ⟨fun k' hk => harr.1 k' (by simpa [exitTo] using hk), fun hr' hk => harr.2 hr' (by simpa [exitTo] using hk)⟩⟩
  | ret => exact ⟨_, a₁, w₁, hq, .of_steps st harr⟩
  | panic ch => exact ⟨_, a₁, w₁, hq, .of_steps st harr⟩
  | outgrown => exact ⟨_, a₁, w₁, hq, .of_steps st harr⟩
  | goto l =>
    obtain ⟨rest, hf, hq⟩ := hq
    have hg : gotoIn l (.inScope c :: k) = some (.code rest :: .inScope c :: k) := by simp [gotoIn, hf]
    have st2 := StepsIn.trans st (harr.1 _ hg)
    obtain ⟨e2, a2, w2, hq2, harr2⟩ := hq b (.inScope c :: k) cs hro hb hr
    cases e2 with
    | normal => exact ⟨.normal, a2, w2, hq2, StepsIn.trans st2 (StepsIn.trans harr2 (.one (fenced_calm hb hr rfl) stepR_inScope))⟩
    | exit id => exact ⟨_, a2, w2, hq2, .of_steps st2 ⟨fun k' hk => harr2.1 k' (by simpa [exitTo] using hk), fun hr' hk => harr2.2 hr' (by simpa [exitTo] using hk)⟩⟩
    | ret => exact ⟨_, a2, w2, hq2, .of_steps st2 harr2⟩
    | panic ch => exact ⟨_, a2, w2, hq2, .of_steps st2 harr2⟩
    | outgrown => exact ⟨_, a2, w2, hq2, .of_steps st2 harr2⟩
    | goto l' => exact hq2.elim
end
section
variable {C : Ctx} {n : Nat}
theorem Rl.congr {w0 w : World} {O : Env} {ts ts' : Sl} {H H' : Hp} {a : Act} (h : Rl C n w0 O ts H a w) (ht : ∀ s, tget ts' s = tget ts s) (hh : ∀ q, H'.get q = H.get q) : Rl C n w0 O ts' H' a w := by
  obtain ⟨m, g1, g2, g3, g4, g5⟩ := h
  have e : H'.get = H.get := funext hh
  refine ⟨m, by rw [e]; exact g1, fun i => by rw [ht, e]; exact g2 i, by rw [e]; exact g3, g4, g5⟩
theorem drawn_ok (hC : C.good) {rd : Bool} {X : Caller} (hX : XOk C rd X) {base id : Nat} {lv : List Nat} {ops : Array Oper} {ts : Sl} {H : Hp} {K : Exit → Sl → Hp → Prop} (h : dgo C X n base ops (dfin ops fun ts H => fPr0 lv ts fun ts => K .normal ts H) ops.toList ts H []) : TW C n rd (.region id ops true) ts H K := by
  refine ⟨fun ro hro w0 O a w hr => ?_⟩
  have hw : Rl C n w0 O ts H a ({ w with drawn := w.drawn + 1 } : World) := by
    obtain ⟨m, g1, g2, g3, g4, g5⟩ := hr
    have hb : Below w.heap.size w (w.drewN 1) := ⟨rfl, rfl, rfl, Nat.le_refl _, fun _ _ => rfl⟩
    have G := Goes.of_below hb g1
    exact ⟨m, g1.below hb, g2.goes G, g3.goes G, ⟨g4.1.goes G.odd, g4.2⟩, g5⟩
  have hrep : ∀ i, done (Array.replicate ops.size false) i = false := by
    intro i; unfold done; rw [Array.getD_eq_getD_getElem?, Array.getElem?_replicate]; split <;> rfl
  refine wpIn_region_any hC.mixed (seg_ok hC.ok hC.loc hX hro (K := fun ts H => fPr0 lv ts fun ts => K .normal ts H) (fun ts H a w hK hr => ?_) ops.size ops.toList 0 (by simp) rfl (Nat.zero_le _) ts H h ops.size _ a _ ?_ (by simp) (fun j => ?_) (fun i hi => ?_) hw)
  · obtain ⟨ts2, hK, hcut⟩ := fPr0_spec hK
    exact ⟨ts2, H, hK, hr.cut hcut⟩
  · unfold left
    refine Nat.le_trans (List.length_filter_le _ _) ?_
    simp
  · rw [hrep]; rfl
  · rw [hrep] at hi; cases hi

theorem vcB_ok (hC : C.good) {rd : Bool} {X : Caller} {V : VC} {RF : Operand → Array Tmp → Code → Code → Sl → Hp → (Exit → Sl → Hp → Prop) → Prop} (hX : XOk C rd X) (hV : VOk C V)
    (hRF : ∀ f ps a b ts H K, RF f ps a b ts H K → TW C n rd (.rangeFunc f ps a b) ts H K) {base : Nat} {lv : List Nat} :
    ∀ (c : Code) (ts : Sl) (H : Hp) (K : Exit → Sl → Hp → Prop), vcB C X V RF n base rd lv c ts H K → TW C n rd c ts H K := by
  intro c
  induction c with
  | skip => intro ts H K h; exact ⟨fun ro hro w0 O a w hr => wpIn_skip ⟨ts, H, h, hr⟩⟩
  | label l => intro ts H K h; exact ⟨fun ro hro w0 O a w hr => wpIn_label ⟨ts, H, h, hr⟩⟩
  | seq x y ihx ihy =>
    intro ts H K h
    refine ⟨fun ro hro w0 O a w hr => wpIn_seq (wpIn_mono ((ihx _ _ _ h).out ro hro w0 O a w hr) ?_)⟩
    rintro e a' w' ⟨ts', H', hK, hr'⟩
    cases e with
    | normal => exact (ihy _ _ _ hK).out ro hro w0 O a' w' hr'
    | exit id => exact ⟨ts', H', hK, hr'⟩
    | goto l => exact ⟨ts', H', hK, hr'⟩
    | ret => exact ⟨ts', H', hK, hr'⟩
    | panic c => exact ⟨ts', H', hK, hr'⟩
    | outgrown => exact ⟨ts', H', hK, hr'⟩
  | cond c x y ihx ihy =>
    intro ts H K h
    refine ⟨fun ro hro w0 O a w hr => ?_⟩
    change (match ev C ts c with | .v (.bool b) => ifB b (vcB C X V RF n base rd lv x (cset c true ts) H K) (vcB C X V RF n base rd lv y (cset c false ts) H K) | _ => False) at h
    split at h
    · rename_i b e
      obtain ⟨m, h1, h2, h3, h4, h5⟩ := id hr
      have hc := ev_ok h2 h3 c
      rw [e] at hc
      obtain ⟨hc, -⟩ := hc.v_inv
      have hs : ∀ y, b = y → Rl C n w0 O (cset c y ts) H a w := by
        intro y hy
        cases c with
        | tmp t => exact hr.setT e hy
        | _ => exact hr
      cases b
      · exact wpIn_cond_false hc ((ihy _ _ _ h).out ro hro w0 O a w (hs _ rfl))
      · exact wpIn_cond_true hc ((ihx _ _ _ h).out ro hro w0 O a w (hs _ rfl))
    · exact h.elim
  | block id c ih =>
    intro ts H K h
    refine ⟨fun ro hro w0 O a w hr => wpIn_block (wpIn_mono ((ih _ _ _ h).out ro hro w0 O a w hr) ?_)⟩
    rintro e a' w' ⟨ts', H', hK, hr'⟩
    cases e with
    | exit j =>
      simp only [Exit.inBlock]
      unfold blkK at hK
      by_cases hj : j = id
      · subst hj; rw [if_pos rfl]; simp only [Nat.beq_refl] at hK; exact ⟨ts', H', hK, hr'⟩
      · rw [if_neg hj]
        have : Nat.beq j id = false := by
          cases e : Nat.beq j id
          · rfl
          · exact absurd (Nat.eq_of_beq_eq_true e) hj
        simp only [this] at hK; exact ⟨ts', H', hK, hr'⟩
    | normal => exact ⟨ts', H', hK, hr'⟩
    | goto l => exact ⟨ts', H', hK, hr'⟩
    | ret => exact ⟨ts', H', hK, hr'⟩
    | panic c => exact ⟨ts', H', hK, hr'⟩
    | outgrown => exact ⟨ts', H', hK, hr'⟩
  | exit id => intro ts H K h; exact ⟨fun ro hro w0 O a w hr => wpIn_exit ⟨ts, H, h, hr⟩⟩
  | ret => intro ts H K h; exact ⟨fun ro hro w0 O a w hr => wpIn_ret ⟨ts, H, h, hr⟩⟩
  | goto l => intro ts H K h; exact ⟨fun ro hro w0 O a w hr => wpIn_goto ⟨ts, H, h, hr⟩⟩
  | region id ops draw =>
    intro ts H K h
    cases draw with
    | true => exact drawn_ok hC hX h
    | false =>
      refine ⟨fun ro hro w0 O a w hr => wpIn_region ?_⟩
      have := rgo_ok (Q := fun e a' w' => ∃ ts' H', K e ts' H' ∧ Rl C n w0 O ts' H' a' w') hC.ok hX hro (fun ts H a w hK hr => (by
        obtain ⟨ts2, hK, hcut⟩ := fPr0_spec hK
        exact ⟨ts2, H, hK, hr.cut hcut⟩)) _ 0 _ _ _ _ rfl h hr
      rwa [Array.length_toList, ← List.range_eq_range'] at this
  | loop c ih => intro ts H K h; exact h
  | rangeFunc f p as b ih1 ih2 => intro ts H K h; exact hRF _ _ _ _ _ _ _ h
  | scope b ih =>
    intro ts H K h
    refine ⟨fun ro hro w0 O a w hr => wpIn_scope (wpIn_mono ((ih _ _ _ h).out ro hro w0 O a w hr) ?_)⟩
    rintro e a' w' ⟨ts', H', hK, hr'⟩
    cases e with
    | goto l =>
      simp only [scpK] at hK
      split at hK
      · rename_i rest hf
        refine ⟨rest, hf, wpIn_mono ((hV _ _ _ _ _ _ _ _ hK).out ro hro w0 O a' w' hr') ?_⟩
        rintro e a' w' ⟨ts', H', hK, hr'⟩
        cases e with
        | goto l => exact hK.elim
        | normal => exact ⟨ts', H', hK, hr'⟩
        | exit id => exact ⟨ts', H', hK, hr'⟩
        | ret => exact ⟨ts', H', hK, hr'⟩
        | panic c => exact ⟨ts', H', hK, hr'⟩
        | outgrown => exact ⟨ts', H', hK, hr'⟩
      · exact hK.elim
    | normal => exact ⟨ts', H', hK, hr'⟩
    | exit id => exact ⟨ts', H', hK, hr'⟩
    | ret => exact ⟨ts', H', hK, hr'⟩
    | panic c => exact ⟨ts', H', hK, hr'⟩
    | outgrown => exact ⟨ts', H', hK, hr'⟩
  | refuse y => intro ts H K h; exact h
end
theorem vcL_ok {C : Ctx} (hC : C.good) : ∀ d, VOk C (vcL C d) := by
  intro d
  induction d with
  | zero =>
    intro n base rd lv c ts H K h
    have h : vcB C (fun _ _ _ _ _ _ => False) (fun _ _ _ _ _ _ _ _ => False) (fun _ _ _ _ _ _ _ => False) n base rd lv c ts H K := h
    exact vcB_ok hC (fun _ _ _ _ _ _ h => h.elim) (fun _ _ _ _ _ _ _ _ h => h.elim) (fun _ _ _ _ _ _ _ h => h.elim) c ts H K h
  | succ d ih =>
    intro n base rd lv c ts H K h
    have h : vcB C (calX C (vcL C d)) (vcL C d) (rngX C (vcL C d) n base rd) n base rd lv c ts H K := h
    exact vcB_ok hC (calX_ok ih rd) ih (fun _ _ _ _ _ _ _ h => rng_ok ih h) c ts H K h

/-! ### loops -/
section
variable {C : Ctx} {n : Nat} {rd : Bool}
/-- A loop, by what holds at its head. -/
theorem TW.loopV (hC : C.good) (d : Nat) {base : Nat} {lv : List Nat} {body : Code} {ts : Sl} {H : Hp} {K : Exit → Sl → Hp → Prop} {α : Type} (mk : α → Sl × Hp) (inv : α → Prop) (μ : α → Nat)
    (h0 : ∃ x, Wk ts H (mk x).1 (mk x).2 ∧ inv x)
    (round : ∀ x, inv x → vcL C d n base rd lv body (mk x).1 (mk x).2 (seqK (fun ts' H' => ∃ y, Wk ts' H' (mk y).1 (mk y).2 ∧ inv y ∧ μ y < μ x) K)) : TW C n rd (.loop body) ts H K :=
  TW.loop hC.glq mk inv μ h0 (fun x hx => vcL_ok hC d _ _ _ _ _ _ _ _ (round x hx))

def isGone : Blk → Bool
  | .gone => true
  | _ => false
/-- What stays of slots and blocks beside those that a loop turns. -/
def dropS : List Nat → Sl → List Nat → Sl
  | _, [], _ => []
  | cs, (i, t) :: r, seen => match memN cs i || memN seen i with
    | true => dropS cs r seen
    | false => (i, t) :: dropS cs r (i :: seen)
def dropK : List Nat → Hp → List Nat → Hp
  | _, [], _ => []
  | ck, (k, b) :: r, seen => match memN ck k || memN seen k || isGone b with
    | true => dropK ck r (k :: seen)
    | false => (k, b) :: dropK ck r (k :: seen)
def fDS (cs : List Nat) : Sl → List Nat → (Sl → Prop) → Prop
  | [], _, K => K []
  | (i, t) :: r, seen, K => match memN cs i || memN seen i with
    | true => fDS cs r seen K
    | false => fDS cs r (i :: seen) fun ts => K ((i, t) :: ts)
def fDK (ck : List Nat) : Hp → List Nat → (Hp → Prop) → Prop
  | [], _, K => K []
  | (k, b) :: r, seen, K => match memN ck k || memN seen k || isGone b with
    | true => fDK ck r (k :: seen) K
    | false => fDK ck r (k :: seen) fun H => K ((k, b) :: H)
theorem fDS_ok {cs : List Nat} : ∀ {ts : Sl} {seen : List Nat} {K : Sl → Prop}, fDS cs ts seen K → ∃ tsB, K tsB := by
  intro ts
  induction ts with
  | nil => intro seen K h; exact ⟨_, h⟩
  | cons p ts ih =>
    obtain ⟨i, t⟩ := p
    intro seen K h
    simp only [fDS] at h
    split at h
    · exact ih h
    · obtain ⟨x, hx⟩ := ih h; exact ⟨_, hx⟩
theorem fDK_ok {ck : List Nat} : ∀ {H : Hp} {seen : List Nat} {K : Hp → Prop}, fDK ck H seen K → ∃ HB, K HB := by
  intro H
  induction H with
  | nil => intro seen K h; exact ⟨_, h⟩
  | cons p H ih =>
    obtain ⟨i, t⟩ := p
    intro seen K h
    simp only [fDK] at h
    split at h
    · exact ih h
    · obtain ⟨x, hx⟩ := ih h; exact ⟨_, hx⟩
def zipS : List Nat → List T → Sl → Sl
  | i :: r, t :: l, B => (i, t) :: zipS r l B
  | _, _, B => B
def zipK : List Nat → List Blk → Hp → Hp
  | i :: r, t :: l, B => (i, t) :: zipK r l B
  | _, _, B => B
def fstS : Sl → List Nat
  | [] => []
  | (i, _) :: r => i :: fstS r
def idK : Hp → List (Nat × Nat)
  | [] => []
  | (k, _) :: r => (k, k) :: idK r
/-- A state may be told as one of a loop's head. rn: blocks that have come under other names. -/
def Fits (ts' : Sl) (H' : Hp) (cs ck : List Nat) (tsB : Sl) (HB : Hp) (vs : List T) (bs : List Blk) (rn : List (Nat × Nat)) : Prop :=
  (Plan.mk (cs ++ fstS tsB) (rn ++ idK HB) []).fine = true ∧ (Plan.mk (cs ++ fstS tsB) (rn ++ idK HB) []).ts H' ts' = zipS cs vs tsB ∧ (Plan.mk (cs ++ fstS tsB) (rn ++ idK HB) []).H H' = zipK ck bs HB
def LoopG (C : Ctx) (d n base : Nat) (rd : Bool) (lv : List Nat) (body : Code) (K : Exit → Sl → Hp → Prop) {α : Type} (cs ck : List Nat) (rn0 : List (Nat × Nat)) (vals : α → List T) (blks : α → List Blk) (inv : α → Prop) (μ : α → Nat) (ts : Sl) (H : Hp) (tsB : Sl) (HB : Hp) : Prop :=
  (∃ x, Fits ts H cs ck tsB HB (vals x) (blks x) rn0 ∧ inv x) ∧
  ∀ x, inv x → vcL C d n base rd lv body (zipS cs (vals x) tsB) (zipK ck (blks x) HB) (seqK (fun ts' H' => ∃ y rn, Fits ts' H' cs ck tsB HB (vals y) (blks y) rn ∧ inv y ∧ μ y < μ x) K)
/-- A loop, told of by what it turns: slots cs, blocks ck (rn0: the names that these have ahead of it); all else stays as it is. -/
theorem TW.loopD (hC : C.good) (d : Nat) {base : Nat} {lv : List Nat} {body : Code} {ts : Sl} {H : Hp} {K : Exit → Sl → Hp → Prop} {α : Type} (cs ck : List Nat) (rn0 : List (Nat × Nat)) (vals : α → List T) (blks : α → List Blk) (inv : α → Prop) (μ : α → Nat)
    (h : fDS cs ts [] fun tsB => fDK (ck ++ rn0.map (·.1)) H [] fun HB => LoopG C d n base rd lv body K cs ck rn0 vals blks inv μ ts H tsB HB) : TW C n rd (.loop body) ts H K := by
  obtain ⟨tsB, h⟩ := fDS_ok h
  obtain ⟨HB, ⟨x0, ⟨f1, f2, f3⟩, i0⟩, hr⟩ := fDK_ok h
  refine TW.loop hC.glq (fun x => (zipS cs (vals x) tsB, zipK ck (blks x) HB)) inv μ ⟨x0, ⟨_, f1, f2, f3⟩, i0⟩ (fun x hx => (vcL_ok hC d _ _ _ _ _ _ _ _ (hr x hx)).mono (fun e ts' H' hK => ?_))
  cases e with
  | normal => obtain ⟨y, rn, ⟨g1, g2, g3⟩, iy, hlt⟩ := hK; exact ⟨y, ⟨_, g1, g2, g3⟩, iy, hlt⟩
  | exit id => exact hK
  | goto l => exact hK
  | ret => exact hK
  | panic c => exact hK
  | outgrown => exact hK
end
end Go.Proofs.Yteinekidpokbpaa.Am
