/- Functions and loops. -/
import Derived.Test.YteinekidpokbpaaAmJ
import Derived.LoopN
namespace Go.Proofs.Yteinekidpokbpaa.Am
set_option linter.unusedVariables false
set_option linter.unusedSimpArgs false
open Go.RowKit

/-! ### what a state is turned into, so that less is told, or otherwise -/
inductive Sub where
  | to (k : Nat)
  | flat (ks : List IntKind) (xs : List Int)
  | dead
mutual
def T.sub (f : Nat → Sub) : T → T
  | .os k sz off n => match f k with
    | .to k' => .os k' sz off n
    | _ => .dead
  | .ow k sz n => match f k with
    | .to k' => .ow k' sz n
    | .flat ks xs => match Nat.beq ks.length sz with
      | true => .fl ks n xs
      | false => .dead
    | .dead => .dead
  | .op k b st i e => match f k with
    | .to k' => .op k' b st i e
    | .flat ks xs => .fp ks xs b st i e
    | .dead => .dead
  | .mp k => match f k with
    | .to k' => .mp k'
    | _ => .dead
  | .agg cs => .agg (subs f cs)
  | .tup cs => .tup (subs f cs)
  | .sl n sz cs => .sl n sz (subs f cs)
  | .sp cs i => .sp (subs f cs) i
  | .ifc t x => .ifc t (x.sub f)
  | .fn g a c => .fn g (subs f a) (subs f c)
  | .v x => .v x
  | .fl ks n xs => .fl ks n xs
  | .fp ks xs b st i e => .fp ks xs b st i e
  | .dead => .dead
def subs (f : Nat → Sub) : List T → List T
  | [] => []
  | t :: r => t.sub f :: subs f r
end
def subS (f : Nat → Sub) : Sl → Sl
  | [] => []
  | (i, t) :: r => (i, t.sub f) :: subS f r
theorem tget_subS (f : Nat → Sub) (ts : Sl) (i : Nat) : tget (subS f ts) i = (tget ts i).sub f := by
  induction ts with
  | nil => rfl
  | cons p ts ih =>
    obtain ⟨j, t⟩ := p
    simp only [subS, tget]
    cases Nat.beq j i
    · exact ih
    · rfl
def Blk.sub (f : Nat → Sub) : Blk → Blk
  | .fl ks xs => .fl ks xs
  | .cs l => .cs (subs f l)
  | .gone => .gone
  | .mp kk vk es => .mp kk vk es
  | .gh id ts => .gh id (subS f ts)
  | .lp id l st pe n ts ps asg body => .lp id l st pe n (subS f ts) ps asg body
/-- A plan: which slots are kept, which blocks are kept under which names, which are taken as ones that stay. -/
structure Plan where
  keep : List Nat
  ren : List (Nat × Nat)
  frz : List Nat
def lookR : List (Nat × Nat) → Nat → Option Nat
  | [], _ => none
  | (a, b) :: r, k => match Nat.beq a k with
    | true => some b
    | false => lookR r k
def memN : List Nat → Nat → Bool
  | [], _ => false
  | a :: r, k => match Nat.beq a k with
    | true => true
    | false => memN r k
def Plan.f (p : Plan) (H : Hp) (k : Nat) : Sub := match lookR p.ren k with
  | some k' => .to k'
  | none => match memN p.frz k with
    | true => match H.get k with
      | some (.fl ks xs) => .flat ks xs
      | _ => .dead
    | false => .dead
def keepT (f : Nat → Sub) (ts : Sl) : List Nat → Sl
  | [] => []
  | i :: r => (i, (tget ts i).sub f) :: keepT f ts r
def renH (f : Nat → Sub) (H : Hp) : List (Nat × Nat) → Hp
  | [] => []
  | (k, k') :: r => match H.get k with
    | some b => (k', b.sub f) :: renH f H r
    | none => renH f H r
def Plan.ts (p : Plan) (H : Hp) (ts : Sl) : Sl := keepT (p.f H) ts p.keep
def Plan.H (p : Plan) (H : Hp) : Hp := renH (p.f H) H p.ren
def nodup : List Nat → Bool
  | [] => true
  | a :: r => !memN r a && nodup r
def Plan.fine (p : Plan) : Bool := nodup (p.ren.map (·.1)) && nodup (p.ren.map (·.2))

theorem memN_iff {l : List Nat} {k : Nat} : memN l k = true ↔ k ∈ l := by
  induction l with
  | nil => simp [memN]
  | cons a l ih =>
    simp only [memN, List.mem_cons]
    cases e : Nat.beq a k
    · simp only [ih]
      have : ¬ k = a := fun h => by subst h; rw [Nat.beq_refl] at e; cases e
      simp [this]
    · have := Nat.eq_of_beq_eq_true e; simp [this]
theorem nodup_iff {l : List Nat} : nodup l = true → l.Nodup := by
  induction l with
  | nil => simp
  | cons a l ih =>
    intro h
    simp only [nodup, Bool.and_eq_true, Bool.not_eq_true'] at h
    rw [List.nodup_cons]
    refine ⟨fun hm => ?_, ih h.2⟩
    rw [← memN_iff, h.1] at hm; cases hm
theorem lookR_mem {l : List (Nat × Nat)} {k k' : Nat} (h : lookR l k = some k') : (k, k') ∈ l := by
  induction l with
  | nil => cases h
  | cons p l ih =>
    obtain ⟨a, b⟩ := p
    simp only [lookR] at h
    cases e : Nat.beq a k
    · rw [e] at h; exact List.mem_cons_of_mem _ (ih h)
    · rw [e] at h; cases h; have := Nat.eq_of_beq_eq_true e; subst this; exact List.mem_cons_self ..
theorem lookR_of {l : List (Nat × Nat)} {k k' : Nat} (hn : (l.map (·.1)).Nodup) (h : (k, k') ∈ l) : lookR l k = some k' := by
  induction l with
  | nil => simp at h
  | cons p l ih =>
    obtain ⟨a, b⟩ := p
    rw [List.map_cons, List.nodup_cons] at hn
    simp only [lookR]
    rcases List.mem_cons.1 h with h | h
    · cases h; rw [Nat.beq_refl]
    · have hne : ¬ a = k := fun e => hn.1 (by subst e; exact List.mem_map.2 ⟨_, h, rfl⟩)
      have : Nat.beq a k = false := by
        cases e : Nat.beq a k
        · rfl
        · exact absurd (Nat.eq_of_beq_eq_true e) hne
      rw [this]; exact ih hn.2 h
theorem renH_get {f : Nat → Sub} {H : Hp} {k' : Nat} {b : Blk} : ∀ {l : List (Nat × Nat)}, (renH f H l).get k' = some b → ∃ k b0, (k, k') ∈ l ∧ H.get k = some b0 ∧ b = b0.sub f := by
  intro l
  induction l with
  | nil => intro h; cases h
  | cons p l ih =>
    obtain ⟨k, q⟩ := p
    intro h
    simp only [renH] at h
    cases e : H.get k with
    | none => rw [e] at h; obtain ⟨a, b0, h1, h2⟩ := ih h; exact ⟨a, b0, List.mem_cons_of_mem _ h1, h2⟩
    | some b0 =>
      rw [e] at h
      simp only [Hp.get] at h
      cases e2 : Nat.beq q k'
      · rw [e2] at h; obtain ⟨a, b1, h1, h2⟩ := ih h; exact ⟨a, b1, List.mem_cons_of_mem _ h1, h2⟩
      · rw [e2] at h
        have := Nat.eq_of_beq_eq_true e2; subst this
        cases h; exact ⟨k, b0, List.mem_cons_self .., e, rfl⟩
theorem renH_of {f : Nat → Sub} {H : Hp} {k k' : Nat} {b0 : Blk} : ∀ {l : List (Nat × Nat)}, (l.map (·.2)).Nodup → (k, k') ∈ l → H.get k = some b0 → (renH f H l).get k' = some (b0.sub f) := by
  intro l
  induction l with
  | nil => intro _ h; simp at h
  | cons p l ih =>
    obtain ⟨a, q⟩ := p
    intro hn h hg
    rw [List.map_cons, List.nodup_cons] at hn
    simp only [renH]
    rcases List.mem_cons.1 h with h | h
    · cases h; rw [hg]; simp [Hp.get]
    · have hne : ¬ q = k' := fun e => hn.1 (by subst e; exact List.mem_map.2 ⟨_, h, rfl⟩)
      cases e : H.get a with
      | none => exact ih hn.2 h hg
      | some c =>
        simp only [Hp.get]
        have : Nat.beq q k' = false := by
          cases e : Nat.beq q k'
          · rfl
          · exact absurd (Nat.eq_of_beq_eq_true e) hne
        rw [this]; exact ih hn.2 h hg

section
variable {w : World} {I I' : Nat → Prop} {m m' : Nat → Option Nat} {L L' : Nat → Option (Option Nat)}
/-- How a substitution stands to memory. -/
structure SubOk (w : World) (I I' : Nat → Prop) (m m' : Nat → Option Nat) (L L' : Nat → Option (Option Nat)) (f : Nat → Sub) : Prop where
  imm : ∀ b, I b → I' b
  ren : ∀ k k' s, f k = .to k' → L k = some s → L' k' = some s ∧ m' k' = m k
  flat : ∀ k ks xs l, f k = .flat ks xs → L k = some l → l = some xs.length ∧ ks ≠ [] ∧ ∀ b, m k = some b → I' b ∧ b < w.heap.size ∧ FlatAt w b 0 ks xs

theorem TV.sub {f : Nat → Sub} (s : SubOk w I I' m m' L L' f) {t : T} {v : Value} (h : TV w I m L t v) : TV w I' m' L' (t.sub f) v := by
  refine TV.rec (motive_1 := fun t v _ => TV w I' m' L' (t.sub f) v) (motive_2 := fun ts vs _ => TVs w I' m' L' (subs f ts) vs) ?_ ?_ ?_ ?_ ?_ ?_ ?_ ?_ ?_ ?_ ?_ ?_ ?_ ?_ ?_ ?_ ?_ ?_ ?_ ?_ ?_ ?_ h
  · intro x h; exact .v h
  · intros; exact .fl0
  · intro ks n xs b off cap hI hb hk hn hc hp h; exact .fl (s.imm _ hI) hb hk hn hc hp h
  · intro ks xs b0 st i e b off hI hb hk he h; exact .fp (s.imm _ hI) hb hk he h
  · intros; exact .sl0
  · intro n sz cs vs b off cap hI hb hn hc hp hv h ih
    have hl := TVs.length ih
    have hl2 := hv.length
    exact .sl (s.imm _ hI) hb (by omega) hc hp ih h
  · intro cs i vs b off hI hb hv h ih; exact .sp (s.imm _ hI) hb ih h
  · intro k sz off n n' cap a h
    simp only [T.sub]
    split
    · rename_i k' e; exact .osx (s.ren _ _ _ e h).1
    · exact .dead
  · intro k sz off l a h hl hz
    simp only [T.sub]
    split
    · rename_i k' e; exact .os0 (s.ren _ _ _ e h).1 hl hz
    · exact .dead
  · intro k sz off n l cap b h hm hl hc hz hr
    simp only [T.sub]
    split
    · rename_i k' e; obtain ⟨h1, h2⟩ := s.ren _ _ _ e h; exact .os h1 (h2.trans hm) hl hc hz hr
    · exact .dead
  · intro k sz n x h hl ih
    simp only [T.sub] at ih ⊢
    split
    · rename_i k' e
      simp only [e] at ih
      refine .ow ih ?_
      rcases hl with hl | hl
      · exact .inl (s.ren _ _ _ e hl).1
      · exact .inr (s.ren _ _ _ e hl).1
    · rename_i ks xs e
      split
      · rename_i hk
        have hk := Nat.eq_of_beq_eq_true hk
        rcases hl with hl | hl
        · obtain ⟨h1, _⟩ := s.flat _ _ _ _ e hl; cases h1
        · obtain ⟨h1, h2, h3⟩ := s.flat _ _ _ _ e hl
          have h1 : n * sz = xs.length := by injection h1
          cases h with
          | osx e2 => rw [hl] at e2; cases e2
          | os0 e2 _ _ => 
            have : xs = [] := List.eq_nil_of_length_eq_zero (by rw [← h1]; simp)
            subst this; exact .fl0
          | os e2 hm _ hc hz _ =>
            obtain ⟨g1, g2, g3⟩ := h3 _ hm
            by_cases hn : n = 0
            · subst hn
              have : xs = [] := List.eq_nil_of_length_eq_zero (by rw [← h1]; simp)
              subst this; exact .fl0
            · rw [Nat.zero_mul]; exact .fl g1 g2 h2 (by rw [← h1, hk]) hc (by omega) g3
      · exact .dead
    · exact .dead
  · intro k b st i e a h
    simp only [T.sub]
    split
    · rename_i k' e'; exact .opx (s.ren _ _ _ e' h).1
    · rename_i ks xs e'; obtain ⟨h1, _⟩ := s.flat _ _ _ _ e' h; cases h1
    · exact .dead
  · intro k b st i e l bb h hm hl
    simp only [T.sub]
    split
    · rename_i k' e'; obtain ⟨h1, h2⟩ := s.ren _ _ _ e' h; exact .op h1 (h2.trans hm) hl
    · rename_i ks xs e'
      obtain ⟨h1, h2, h3⟩ := s.flat _ _ _ _ e' h
      have h1 : l = xs.length := by injection h1
      obtain ⟨g1, g2, g3⟩ := h3 _ hm
      have := TV.fp (w := w) (I := I') (m := m') (L := L') (b0 := b) (st := st) (i := i) (e := e) (off := 0) g1 g2 h2 (by omega) g3
      rwa [Nat.zero_add] at this
    · exact .dead
  · intro k a h
    simp only [T.sub]
    split
    · rename_i k' e'; exact .mpx (s.ren _ _ _ e' h).1
    · exact .dead
  · intro k b h hm
    simp only [T.sub]
    split
    · rename_i k' e'; obtain ⟨h1, h2⟩ := s.ren _ _ _ e' h; exact .mp h1 (h2.trans hm)
    · exact .dead
  · intro cs vs h ih; exact .agg ih
  · intro cs vs h ih; exact .tup ih
  · intro t x y h ih; exact .ifc ih
  · intro f a c as cs ha hc iha ihc; exact .fn iha ihc
  · intros; exact .dead
  · exact .nil
  · intro t v ts vs h r ih1 ih2; exact .cons ih1 ih2
theorem TVs.sub {f : Nat → Sub} (s : SubOk w I I' m m' L L' f) {ts : List T} {vs : List Value} (h : TVs w I m L ts vs) : TVs w I' m' L' (subs f ts) vs := by
  induction ts generalizing vs with
  | nil => cases h; exact .nil
  | cons t ts ih => cases h with | cons h r => exact .cons (h.sub s) (ih r)
theorem AT.keep {f : Nat → Sub} (s : SubOk w I I' m m' L L' f) {keep : List Nat} {ts : Sl} {a : Act} (h : AT w I m L ts a) : AT w I' m' L' (keepT f ts keep) a := by
  intro i
  induction keep with
  | nil => exact .dead
  | cons j r ih =>
    simp only [keepT, tget]
    cases e : Nat.beq j i
    · exact ih
    · have := Nat.eq_of_beq_eq_true e; subst this; exact (h _).sub s
end

theorem subs_length (f : Nat → Sub) (l : List T) : (subs f l).length = l.length := by
  induction l with
  | nil => rfl
  | cons t l ih => simp [subs, ih]
theorem sub_len (f : Nat → Sub) (b : Blk) : (b.sub f).len? = b.len? := by
  cases b <;> simp [Blk.sub, Blk.len?, subs_length]

theorem FV.sub {w : World} {I I' : Nat → Prop} {m m' : Nat → Option Nat} {L L' : Nat → Option (Option Nat)} {f : Nat → Sub} (s : SubOk w I I' m m' L L' f) {ts : Sl} {a : Act} (h : FV w I m L ts a) : FV w I' m' L' (subS f ts) a :=
  ⟨fun i => by rw [tget_subS]; exact (h.1 i).sub s, h.2⟩
/-- The names behind a plan. -/
def Plan.m (p : Plan) (m : Nat → Option Nat) (k' : Nat) : Option Nat := match p.ren.find? (fun q => q.2 == k') with
  | some (k, _) => m k
  | none => none

/-- The program's variables lead to no block of the machine's own. -/
def Ctx.glq (C : Ctx) : Prop := ∀ g, C.gl g = .dead ∨ ∃ ks xs b st i e, C.gl g = .fp ks xs b st i e
theorem Ctx.glq.sub {C : Ctx} (h : C.glq) (f : Nat → Sub) (g : Nat) : (C.gl g).sub f = C.gl g := by
  rcases h g with e | ⟨ks, xs, b, st, i, e', e⟩ <;> rw [e] <;> rfl
theorem plan_ok {C : Ctx} {n : Nat} {w0 w : World} {O : Env} {ts : Sl} {H : Hp} {a : Act} (p : Plan) (hp : p.fine = true) (h : Rl C n w0 O ts H a w) (hgq : C.glq) : Rl C n w0 O (p.ts H ts) (p.H H) a w := by
  obtain ⟨m, h1, h2, h3, h4, h5⟩ := h
  simp only [Plan.fine, Bool.and_eq_true] at hp
  have n1 := nodup_iff hp.1
  have n2 := nodup_iff hp.2
  have hm : ∀ {k k'}, (k, k') ∈ p.ren → p.m m k' = m k := by
    intro k k' hk
    unfold Plan.m
    have : p.ren.find? (fun q => q.2 == k') = some (k, k') := by
      cases e : p.ren.find? (fun q => q.2 == k') with
      | none => rw [List.find?_eq_none] at e; exact absurd (by simp) (e _ hk)
      | some q =>
        have hq := List.find?_some e
        have hq2 := List.mem_of_find?_eq_some e
        simp at hq
        obtain ⟨q1, q2⟩ := q
        simp at hq; subst hq
        have : ∀ (l : List (Nat × Nat)), (l.map (·.2)).Nodup → (q1, q2) ∈ l → (k, q2) ∈ l → q1 = k := by
          intro l
          induction l with
          | nil => intro _ h; simp at h
          | cons x l ih =>
            intro hn h1 h2
            rw [List.map_cons, List.nodup_cons] at hn
            rcases List.mem_cons.1 h1 with h1 | h1 <;> rcases List.mem_cons.1 h2 with h2 | h2
            · rw [← h1] at h2; cases h2; rfl
            · exact absurd (List.mem_map.2 ⟨_, h2, rfl⟩) (by rw [← h1] at hn; exact hn.1)
            · exact absurd (List.mem_map.2 ⟨_, h1, rfl⟩) (by rw [← h2] at hn; exact hn.1)
            · exact ih hn.2 h1 h2
        rw [this _ n2 hq2 hk]
    rw [this]
  have hL : ∀ k' s, lens (p.H H).get k' = some s → ∃ k, (k, k') ∈ p.ren ∧ lens H.get k = some s := by
    intro k' s hs
    unfold lens at hs
    cases e : (p.H H).get k' with
    | none => rw [e] at hs; cases hs
    | some b =>
      rw [e] at hs
      obtain ⟨k, b0, g1, g2, g3⟩ := renH_get e
      refine ⟨k, g1, ?_⟩
      rw [lens_of g2]
      subst g3
      simpa [sub_len] using hs
  have hto : ∀ {k k'}, p.f H k = .to k' → (k, k') ∈ p.ren := by
    intro k k' hk
    unfold Plan.f at hk
    split at hk
    · rename_i e; cases hk; exact lookR_mem e
    · split at hk
      · split at hk <;> cases hk
      · cases hk
  have own' : ∀ b, Own (p.m m) (lens (p.H H).get) b → ∃ k k' l, (k, k') ∈ p.ren ∧ lens H.get k = some (some l) ∧ m k = some b := by
    rintro b ⟨k', l, g1, g2⟩
    obtain ⟨k, e1, e2⟩ := hL _ _ g1
    rw [hm e1] at g2
    exact ⟨k, k', l, e1, e2, g2⟩
  have S : SubOk w (Im m H.get) (Im (p.m m) (p.H H).get) m (p.m m) (lens H.get) (lens (p.H H).get) (p.f H) := by
    refine ⟨fun b hb ho => ?_, fun k k' s hk hs => ?_, fun k ks xs l hk hs => ?_⟩
    · obtain ⟨k, k', l, e1, e2, e3⟩ := own' b ho
      exact hb ⟨k, l, e2, e3⟩
    · have hmem := hto hk
      refine ⟨?_, hm hmem⟩
      unfold lens at hs
      cases e : H.get k with
      | none => rw [e] at hs; cases hs
      | some b0 =>
        rw [e] at hs
        have e5 := lens_of (renH_of (f := p.f H) n2 hmem e)
        rw [sub_len] at e5
        exact e5.trans hs
    · have hk' := hk
      unfold Plan.f at hk
      split at hk
      · cases hk
      · rename_i hlk
        split at hk
        · split at hk
          · rename_i ks' xs' e
            cases hk
            rw [lens_of e] at hs
            have hs : some xs.length = l := by injection hs
            have hbv := h1.blk k _ e
            refine ⟨hs.symm, ?_, fun b hb => ?_⟩
            · cases hq : m k with
              | none => rw [hq] at hbv; exact hbv.1
              | some b => rw [hq] at hbv; exact hbv.1
            · rw [hb] at hbv
              refine ⟨fun ho => ?_, hbv.2.1.lt, hbv.2.2.2⟩
              obtain ⟨j, j', l', e1, e2, e3⟩ := own' b ho
              have := h1.inj _ _ _ _ _ e2 (by rw [lens_of e]; rfl) e3 hb
              subst this
              rw [lookR_of n1 e1] at hlk; cases hlk
          · cases hk
        · cases hk
  refine ⟨p.m m, ⟨h1.fr, h1.lo, fun k' b hb => ?_, fun k k' l l' n hk hk' e e' => ?_, fun k l n hk e => ?_⟩, h2.keep S, fun g => by rw [← hgq.sub (p.f H) g]; exact (h3 g).sub S, h4, h5⟩
  · obtain ⟨k, b0, g1, g2, rfl⟩ := renH_get hb
    rw [hm g1]
    have hbv := h1.blk k _ g2
    cases hq : m k with
    | none =>
      rw [hq] at hbv
      cases b0 with
      | mp kk vk es => trivial
      | fl ks xs => exact hbv
      | cs cs => have hbv : cs = [] := hbv; subst hbv; rfl
      | gone => trivial
      | gh id ts => exact FV.sub S hbv
      | lp id l st pe n ts ps asg body => exact ⟨FV.sub S hbv.1, hbv.2⟩
    | some n =>
      rw [hq] at hbv
      cases b0 with
      | mp kk vk es => exact hbv
      | fl ks xs => exact hbv
      | cs cs => obtain ⟨vs, v1, v2⟩ := hbv; exact ⟨vs, v1.sub S, v2⟩
      | gone => trivial
      | gh id ts => exact FV.sub S hbv
      | lp id l st pe n ts ps asg body => exact ⟨FV.sub S hbv.1, hbv.2⟩
  · obtain ⟨j, a1, a2⟩ := hL _ _ hk
    obtain ⟨j', b1, b2⟩ := hL _ _ hk'
    rw [hm a1] at e
    rw [hm b1] at e'
    have := h1.inj _ _ _ _ _ a2 b2 e e'
    subst this
    have h5 := lookR_of n1 a1
    rw [lookR_of n1 b1] at h5
    injection h5 with h5; exact h5.symm
  · obtain ⟨j, a1, a2⟩ := hL _ _ hk
    rw [hm a1] at e
    exact h1.new _ _ _ a2 e

/-! ### loops -/
/-- A state may be told otherwise. -/
def Wk (ts : Sl) (H : Hp) (ts' : Sl) (H' : Hp) : Prop := ∃ p : Plan, p.fine = true ∧ p.ts H ts = ts' ∧ p.H H = H'
theorem Wk.ok {C : Ctx} {n : Nat} {w0 w : World} {O : Env} {ts ts' : Sl} {H H' : Hp} {a : Act} (hgq : C.glq) (k : Wk ts H ts' H') (h : Rl C n w0 O ts H a w) : Rl C n w0 O ts' H' a w := by
  obtain ⟨p, h1, rfl, rfl⟩ := k
  exact plan_ok p h1 h hgq

section
variable {C : Ctx} {n : Nat} {rd : Bool} {w0 : World} {O : Env}
theorem TW.weak (hgq : C.glq) {c : Code} {ts ts' : Sl} {H H' : Hp} {K : Exit → Sl → Hp → Prop} (k : Wk ts H ts' H') (h : TW C n rd c ts' H' K) : TW C n rd c ts H K := ⟨fun ro hro w0 O a w hr => h.out ro hro w0 O a w (k.ok hgq hr)⟩
theorem TW.mono {c : Code} {ts : Sl} {H : Hp} {K K' : Exit → Sl → Hp → Prop} (h : TW C n rd c ts H K) (hk : ∀ e ts H, K e ts H → K' e ts H) : TW C n rd c ts H K' :=
  ⟨fun ro hro w0 O a w hr => wpIn_mono (h.out ro hro w0 O a w hr) fun e a w ⟨ts', H', g1, g2⟩ => ⟨ts', H', hk _ _ _ g1, g2⟩⟩

/-- A loop, by what holds at its head. -/
theorem TW.loop (hgq : C.glq) {body : Code} {ts : Sl} {H : Hp} {K : Exit → Sl → Hp → Prop} {α : Type} (mk : α → Sl × Hp) (inv : α → Prop) (μ : α → Nat)
    (h0 : ∃ x, Wk ts H (mk x).1 (mk x).2 ∧ inv x)
    (round : ∀ x, inv x → TW C n rd body (mk x).1 (mk x).2 (seqK (fun ts' H' => ∃ y, Wk ts' H' (mk y).1 (mk y).2 ∧ inv y ∧ μ y < μ x) K)) : TW C n rd (.loop body) ts H K := by
  refine ⟨fun ro hro w0 O a w hr => ?_⟩
  obtain ⟨x0, k0, i0⟩ := h0
  have hr0 := k0.ok hgq hr
  intro b k cs hbo hb hrm
  have key : ∀ q x a w, μ x = q → inv x → Rl C n w0 O (mk x).1 (mk x).2 a w →
      ∃ e a' w', (∃ ts' H', K e ts' H' ∧ Rl C n w0 O ts' H' a' w') ∧ ArrivesIn (Machine.fenced C.P (FR ro)) C.P (lone (b.atR a (.code body :: .inLoop body :: k)) cs w) b k cs e a' w' := by
    intro q
    induction q using Nat.strongRecOn with
    | _ q ih =>
      intro x a w hn hi hr
      obtain ⟨e, a1, w1, ⟨ts1, H1, hq, hr1⟩, harr⟩ := (round x hi).out ro hro w0 O a w hr b (.inLoop body :: k) cs hbo hb hrm
      cases e with
      | normal =>
        obtain ⟨y, ky, iy, hlt⟩ := hq
        obtain ⟨e2, a2, w2, hq2, harr2⟩ := ih (μ y) (hn ▸ hlt) y a1 w1 rfl iy (ky.ok hgq hr1)
        exact ⟨e2, a2, w2, hq2, .of_steps (StepsIn.trans harr (.one (fenced_calm hb hrm rfl) stepR_inLoop)) harr2⟩
      | exit id => exact ⟨_, a1, w1, ⟨ts1, H1, hq, hr1⟩, .pass (x := .inLoop body) rfl (fun _ _ => .inl (by simp)) harr⟩
      | goto l => exact ⟨_, a1, w1, ⟨ts1, H1, hq, hr1⟩, .pass (x := .inLoop body) rfl (fun _ _ => .inl (by simp)) harr⟩
      | ret => exact ⟨_, a1, w1, ⟨ts1, H1, hq, hr1⟩, .pass (x := .inLoop body) rfl (fun _ _ => .inl (by simp)) harr⟩
      | panic ch => exact ⟨_, a1, w1, ⟨ts1, H1, hq, hr1⟩, .pass (x := .inLoop body) rfl (fun _ _ => .inl (by simp)) harr⟩
      | outgrown => exact ⟨_, a1, w1, ⟨ts1, H1, hq, hr1⟩, .pass (x := .inLoop body) rfl (fun _ _ => .inl (by simp)) harr⟩
  obtain ⟨e, a', w', hq, harr⟩ := key _ x0 a w rfl i0 hr0
  exact ⟨e, a', w', hq, .of_steps (.one (fenced_calm hb hrm rfl) stepR_loop) harr⟩

/-! ### functions -/
def resT1 (C : Ctx) (g : Mem) (ts : Sl) : ResultVar → Option T
  | .tmp t => some (tget ts t)
  | .cell a t => match tget ts a with
    | .op k b st i e => match g.alive k with
      | true => loadT C.P g t (.op k b st i e)
      | false => none
    | x => match x with
      | .fp .. => loadT C.P g t x
      | .sp .. => loadT C.P g t x
      | _ => none
def resTs (C : Ctx) (g : Mem) (ts : Sl) : List ResultVar → Option (List T)
  | [] => some []
  | r :: l => match resT1 C g ts r, resTs C g ts l with
    | some t, some u => some (t :: u)
    | _, _ => none
def resT (C : Ctx) (g : Mem) (ts : Sl) (l : List ResultVar) : Option T := match resTs C g ts l with
  | some [t] => some t
  | some ts => some (.tup ts)
  | none => none

theorem resT1_ok {ts : Sl} {H : Hp} {w : World} {m : Nat → Option Nat} {a : Act} (h : HR w0 w O m H.get) (ht : AT w (Im m H.get) m (lens H.get) ts a) {r : ResultVar} {t : T} (hr : resT1 C H.get ts r = some t) :
    ∃ v, (match r with
    | .tmp t => pure (a.tmps.getD t undef)
    | .cell b t => do loadVar t (← asAddr (a.tmps.getD b undef)) : Sem Value).run C.P w = .ok v w ∧ TV w (Im m H.get) m (lens H.get) t v := by
  have get : ∀ i, TV w (Im m H.get) m (lens H.get) (tget ts i) (a.tmps.getD i undef) := ht
  cases r with
  | tmp i => cases hr; exact ⟨_, rfl, get i⟩
  | cell b ty =>
    simp only [resT1] at hr
    have hb := get b
    have fin : ∀ {x : T} {p : Addr}, tget ts b = x → a.tmps.getD b undef = .pointer (some p) → loadT C.P H.get ty x = some t → ∃ v, (do loadVar ty (← asAddr (a.tmps.getD b undef)) : Sem Value).run C.P w = .ok v w ∧ TV w (Im m H.get) m (lens H.get) t v := by
      intro x p e1 e2 e3
      rw [e1] at hb
      obtain ⟨v, g1, g2⟩ := loadT_ok (P := C.P) h e3 hb
      refine ⟨v, ?_, g2⟩
      rw [e2] at g1 ⊢
      simpa [Instr.loadAt, Instr.sureAddr, asAddr] using g1
    split at hr
    · rename_i k b' st i e he
      split at hr
      · rename_i hal
        obtain ⟨l, hl⟩ := alive_lens hal
        have hb' := hb
        rw [he] at hb'
        obtain ⟨_, bb, _, hv⟩ := hb'.op_inv hl
        exact fin he hv hr
      · cases hr
    · rename_i x hx
      split at hr
      · rename_i ks xs b0 st i e he
        have hb' := hb
        rw [he] at hb'
        obtain ⟨bb, off, hv, _⟩ := hb'.fp_inv
        exact fin rfl hv hr
      · rename_i cs i he
        have hb' := hb
        rw [he] at hb'
        obtain ⟨bb, off, vs, hv, _⟩ := hb'.sp_inv
        exact fin rfl hv hr
      · cases hr
theorem results_ok {fn : Func} {ts : Sl} {H : Hp} {w : World} {m : Nat → Option Nat} {a : Act} (h : HR w0 w O m H.get) (ht : AT w (Im m H.get) m (lens H.get) ts a) {t : T} (hr : resT C H.get ts fn.results.toList = some t) :
    ∃ v, (results fn a.tmps).run C.P w = .ok v w ∧ TV w (Im m H.get) m (lens H.get) t v := by
  let f : ResultVar → Sem Value := fun
    | .tmp t => pure (a.tmps.getD t undef)
    | .cell b t => do loadVar t (← asAddr (a.tmps.getD b undef))
  have key : ∀ (l : List ResultVar) (us : List T), resTs C H.get ts l = some us → ∃ vs, (l.mapM f).run C.P w = .ok vs w ∧ TVs w (Im m H.get) m (lens H.get) us vs := by
    intro l
    induction l with
    | nil => intro us hu; cases hu; exact ⟨[], rfl, .nil⟩
    | cons r l ih =>
      intro us hu
      simp only [resTs] at hu
      split at hu
      · rename_i t1 u1 e1 e2
        cases hu
        obtain ⟨v, g1, g2⟩ := resT1_ok h ht e1
        obtain ⟨vs, g3, g4⟩ := ih _ e2
        refine ⟨v :: vs, ?_, .cons g2 g4⟩
        rw [List.mapM_cons]
        have g1' : (f r).run C.P w = .ok v w := by cases r <;> exact g1
        simp only [Sem.run_bind, g1', Result.andThen_ok, g3, Sem.run_pure]
      · cases hu
  unfold resT at hr
  have main : ∀ us vs, resTs C H.get ts fn.results.toList = some us → (fn.results.toList.mapM f).run C.P w = .ok vs w →
      (results fn a.tmps).run C.P w = .ok (match vs with | [v] => v | vs => .tuple vs.toArray) w := by
    intro us vs _ hv
    unfold results
    have hv' : ∀ g : ResultVar → Sem Value, (∀ x, g x = f x) → (fn.results.toList.mapM g).run C.P w = .ok vs w := fun g hg => by rw [funext hg]; exact hv
    rw [Sem.run_bind, Array.mapM_eq_mapM_toList, Sem.run_map, hv' _ (fun x => by cases x <;> rfl)]
    simp only [Result.andThen_ok]
    match vs with
    | [] => rfl
    | [v] => rfl
    | _ :: _ :: _ => rfl
  split at hr
  · rename_i t1 e
    cases hr
    obtain ⟨vs, g1, g2⟩ := key _ _ e
    have := main _ _ e g1
    cases g2 with
    | cons q1 q2 => cases q2; exact ⟨_, this, q1⟩
  · rename_i us hne e
    cases hr
    obtain ⟨vs, g1, g2⟩ := key _ _ e
    have := main _ _ e g1
    refine ⟨.tuple vs.toArray, ?_, .tup g2⟩
    rw [this]
    match vs, g2 with
    | [], _ => rfl
    | [v], g2 => cases g2 with | cons q1 q2 => cases q2; exact absurd rfl (hne _)
    | _ :: _ :: _, _ => rfl
  · cases hr

/-- What a function's end is to leave. -/
def retK (C : Ctx) (fn : Func) (R : T → Hp → Prop) : Exit → Sl → Hp → Prop
  | .normal, ts, H => match resT C H.get ts fn.results.toList with
    | some t => R t H
    | none => False
  | .ret, ts, H => match resT C H.get ts fn.results.toList with
    | some t => R t H
    | none => False
  | _, _, _ => False
def slots : Nat → List T → Sl
  | _, [] => []
  | i, t :: r => (i, t) :: slots (i + 1) r
theorem slots_ok {w : World} {I m L} {args : List T} {vs : List Value} (h : TVs w I m L args vs) (a : Act) (i : Nat) (hv : ∀ j v, vs[j]? = some v → a.tmps.getD (i + j) undef = v) : AT w I m L (slots i args) a := by
  induction args generalizing vs i with
  | nil => intro k; exact .dead
  | cons t r ih =>
    cases h with
    | cons h hr =>
      rename_i v vs
      intro k
      simp only [slots, tget]
      cases e : Nat.beq i k
      · exact ih hr (i + 1) (fun j u hj => by have := hv (j + 1) u (by simpa using hj); rwa [show i + 1 + j = i + (j + 1) by omega]) k
      · have := Nat.eq_of_beq_eq_true e; subst this
        have := hv 0 v rfl
        rw [Nat.add_zero] at this; rw [this]; exact h
/-! ### what loops over functions lay, turned -/
theorem cell_odd {w : World} {l : Nat} {ob : Obj} (hl : w.heap[l]? = some ob) (ho : isOdd ob = true) (o : Nat) : w.cell? ⟨l, o, none⟩ = none := by
  unfold World.cell?
  simp only [hl]
  cases ob <;> first | rfl | cases ho
theorem Goes0.put {w : World} {l : Nat} {ob ob' : Obj} (hl : w.heap[l]? = some ob) (h1 : isOdd ob = true) (h2 : isOdd ob' = true) {I : Nat → Prop} {m : Nat → Option Nat} {L : Nat → Option (Option Nat)} : Goes0 w (w.putObj l ob') I I m m L L := by
  have hlt : l < w.heap.size := (Array.getElem?_eq_some_iff.1 hl).1
  refine ⟨fun _ _ h => h, by simp, fun b o hb _ => ?_, fun k s hs => ?_, fun b n hr => ?_⟩
  · by_cases e : b = l
    · subst e; rw [cell_odd hl h1, cell_odd (World.putObj_heap_same hlt) h2]
    · exact World.cell?_of_block (w := w) (World.putObj_heap_other e)
  · cases s with
    | none => exact .inl hs
    | some l => exact .inr ⟨l, rfl, hs, rfl⟩
  · have : b ≠ l := fun e => by
      subst e; rw [hr.not_odd hl] at h1; cases h1
    obtain ⟨c, h3, h4⟩ := hr
    exact ⟨c, (World.putObj_heap_other this).trans h3, h4⟩
theorem HR.put {w : World} {m : Nat → Option Nat} {g : Mem} (h : HR w0 w O m g) {l : Nat} {ob ob' : Obj} (hl : w.heap[l]? = some ob) (h1 : isOdd ob = true) (h2 : isOdd ob' = true) (hlo' : w0.heap.size ≤ l)
    (hv : ∀ k b, g k = some b → GV O w (Im m g) m (lens g) b → GV O (w.putObj l ob') (Im m g) m (lens g) b) : HR w0 (w.putObj l ob') O m g := by
  have G := Goes0.put hl h1 h2 (I := Im m g) (m := m) (L := lens g)
  refine ⟨⟨h.fr.os, h.fr.tape, h.fr.output, by simpa using h.fr.size, fun b hb ho => (World.putObj_heap_other (by omega)).trans (h.fr.block b hb ho)⟩, by simpa using h.lo, fun k b hk => ?_, h.inj, h.new⟩
  have hb := h.blk k b hk
  have fin : ∀ q, BVb O w (Im m g) m (lens g) b q → BVb O (w.putObj l ob') (Im m g) m (lens g) b q := by
    intro q hq
    have hne : ∀ n, Room w q n → q ≠ l := fun n hr e => by
      subst e; rw [hr.not_odd hl] at h1; cases h1
    have fz : q ≠ l → NoFrz w q → NoFrz (w.putObj l ob') q := fun hne hf o => (World.frozen?_of_block (w := w) (World.putObj_heap_other hne)).trans (hf o)
    have cl : q ≠ l → ∀ o, (w.putObj l ob').cell? ⟨q, o, none⟩ = w.cell? ⟨q, o, none⟩ := fun hne o => World.cell?_of_block (w := w) (World.putObj_heap_other hne)
    cases b with
    | mp kk vk es => obtain ⟨ms, c, a1, a2⟩ := hq; exact ⟨ms, c, (World.putObj_heap_other (fun e => by subst e; rw [hl] at a1; cases a1; cases h1)).trans a1, a2⟩
    | fl ks xs => obtain ⟨a1, a2, a3, a4⟩ := hq; have hne := hne _ a2; exact ⟨a1, G.room _ _ a2, fz hne a3, fun i x hx => (cl hne _).trans (a4 i x hx)⟩
    | cs cs => obtain ⟨vs, a1, a2, a3, a4⟩ := hq; have hne := hne _ a2; exact ⟨vs, a1.goes0 G, G.room _ _ a2, fz hne a3, fun i x hx => (cl hne _).trans (a4 i x hx)⟩
    | gone => trivial
    | gh id ts => exact hv k _ hk hq
    | lp id l st pe n ts ps asg body => exact hv k _ hk hq
  cases e : m k with
  | some q => rw [e] at hb; exact fin q hb
  | none =>
    rw [e] at hb
    cases b with
    | mp kk vk es => trivial
    | fl ks xs => exact hb
    | cs cs => exact hb
    | gone => trivial
    | gh id ts => exact hv k _ hk hb
    | lp id l st pe n ts ps asg body => exact hv k _ hk hb
theorem AT.put0 {w : World} {I : Nat → Prop} {m : Nat → Option Nat} {L : Nat → Option (Option Nat)} {w' : World} (G : Goes0 w w' I I m m L L) {ts : Sl} {a : Act} (h : AT w I m L ts a) : AT w' I m L ts a := fun i => (h i).goes0 G
theorem GlOk.put0 {w : World} {I : Nat → Prop} {m : Nat → Option Nat} {L : Nat → Option (Option Nat)} {w' : World} (G : Goes0 w w' I I m m L L) (h : GlOk C w I m L) : GlOk C w' I m L := fun i => (h i).goes0 G
theorem Mk.put {w : World} {l : Nat} {ob' : Obj} {ds : List Deferred} (hl : ∀ d ∈ ds, d ≠ { target := .collected l, args := #[] }) (h : Mk w ds) : Mk (w.putObj l ob') ds := by
  induction ds with
  | nil => trivial
  | cons d ds ih =>
    obtain ⟨⟨D, h1, h3, h4⟩, h5⟩ := h
    have : D ≠ l := fun e => hl d (List.mem_cons_self ..) (by rw [h1, e])
    exact ⟨⟨D, h1, (World.putObj_heap_other this).trans h3, h4⟩, ih (fun d hd => hl d (List.mem_cons_of_mem _ hd)) h5⟩
/-- A frame goes out past its marks. -/
theorem leave_ok {fn : Func} {tmps : Array Value} {R : Ending → World → Prop} {m : Nat → Option Nat} {g : Mem} {ts : Sl} {a : Act} (ht : a.tmps = tmps) : ∀ (ds : List Deferred) (w : World), HR w0 w O m g → AT w (Im m g) m (lens g) ts a → GlOk C w (Im m g) m (lens g) → Mk w ds → Lo O.lo ds →
    (∀ w', HR w0 w' O m g → AT w' (Im m g) m (lens g) ts a → GlOk C w' (Im m g) m (lens g) → ∃ v, (results fn tmps).run C.P w' = .ok v w' ∧ R (.returned v) w') → LeavesInM (FR none) 0 C.P fn tmps R ds .returning w := by
  intro ds
  induction ds with
  | nil => intro w h1 h2 h3 _ _ hR; exact hR w h1 h2 h3
  | cons d ds ih =>
    intro w h1 h2 h3 hm hlo hR
    obtain ⟨⟨D, rfl, hD, hne⟩, hm2⟩ := hm
    have hDlo : O.lo ≤ D := hlo _ (List.mem_cons_self ..) D rfl
    have G : Goes0 w (w.putObj D (.deferred none)) (Im m g) (Im m g) m m (lens g) (lens g) := Goes0.put hD rfl rfl
    have far : ∀ id, ∀ d ∈ (O.gh id).defers, d ≠ { target := .collected D, args := #[] } := fun id d hd e => by
      have := O.hi id d D hd (by rw [e]); omega
    refine ⟨(by intro e; cases e), .inl ⟨D, _, rfl, run_takeDeferred hD, ih _ (h1.put hD rfl rfl (Nat.le_trans (Nat.le_trans h1.lo.1 h1.lo.2.1) hDlo) (fun k b _ hb => ?_)) (h2.put0 G) (h3.put0 G) (hm2.put (fun e he => hne e he)) (fun e he => hlo e (List.mem_cons_of_mem _ he)) hR⟩⟩
    cases b with
    | mp kk vk es => trivial
    | fl ks xs => trivial
    | cs cs => trivial
    | gone => trivial
    | gh id ts => exact ⟨fun i => (hb.1 i).goes0 G, hb.2.put (far id)⟩
    | lp id l st pe n ts ps asg body =>
      obtain ⟨b1, b2, f, D', b3⟩ := hb
      refine ⟨⟨fun i => (b1.1 i).goes0 G, b1.2.put (far id)⟩, b2, f, D', (World.putObj_heap_other (fun e => ?_)).trans b3⟩
      subst e; rw [hD] at b3; cases b3

/-- A function, by the walk of its code. -/
theorem calls_ok {f : FuncId} {fn : Func} {c : Code} (hf : C.P.funcs[f]? = some fn) (hb : fn.body = some c) {args : List T} {vs : Array Value} {H : Hp} {w : World} {m : Nat → Option Nat}
    (h : HR w0 w O m H.get) (ha : TVs w (Im m H.get) m (lens H.get) args vs.toList) (hg : GlOk C w (Im m H.get) m (lens H.get)) {R : T → Hp → Prop}
    (hn : args.length ≤ fn.ntmps) (hw : TW C fn.ntmps false c (slots 0 args) H (retK C fn R)) :
    Calls C.P f vs w fun e w' => ∃ v t H' m', e = .returned v ∧ R t H' ∧ HR w0 w' O m' H'.get ∧ GlOk C w' (Im m' H'.get) m' (lens H'.get) ∧ TV w' (Im m' H'.get) m' (lens H'.get) t v := by
  have hl := ha.length
  refine (callsIn_FR (ro := none) (n := 0)).1 (callsIn_of_wp_marks hf hb trivial (wpIn_mono (hw.out none (fun _ => rfl) w0 O _ w ⟨m, h, slots_ok ha _ 0 ?_, hg, ⟨trivial, fun d hd => by cases hd⟩, ?_⟩) ?_))
  · intro j v hj
    have hlt : j < vs.size := by have := (List.getElem?_eq_some_iff.1 hj).1; simpa using this
    rw [Nat.zero_add, Array.getD_eq_getD_getElem?, Array.getElem?_append_left hlt]
    rw [Array.getElem?_toList] at hj
    rw [hj]; rfl
  · rw [Array.size_append, Array.size_replicate]
    have hl2 : args.length = vs.size := by rw [hl, Array.length_toList]
    omega
  · rintro e a' w' ⟨ts', H', hK, m', g1, g2, g3, ⟨g4, g6⟩, _⟩
    have fin : (match resT C H'.get ts' fn.results.toList with | some t => R t H' | none => False) → LeavesInM (FR none) 0 C.P fn a'.tmps (fun e w' => ∃ v t H' m', e = .returned v ∧ R t H' ∧ HR w0 w' O m' H'.get ∧ GlOk C w' (Im m' H'.get) m' (lens H'.get) ∧ TV w' (Im m' H'.get) m' (lens H'.get) t v) a'.defers .returning w' := by
      intro hq
      split at hq
      · rename_i t e
        refine leave_ok rfl _ _ g1 g2 g3 g4 g6 (fun w2 k1 k2 k3 => ?_)
        obtain ⟨v, q1, q2⟩ := results_ok k1 k2 e
        exact ⟨v, q1, v, t, H', m', rfl, hq, k1, k3, q2⟩
      · exact hq.elim
    cases e with
    | normal => exact fin hK
    | ret => exact fin hK
    | exit id => exact hK.elim
    | goto l => exact hK.elim
    | panic ch => exact hK.elim
    | outgrown => exact hK.elim
end
end Go.Proofs.Yteinekidpokbpaa.Am
