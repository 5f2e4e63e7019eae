/- An operation hangs on what it looks at alone. -/
import Derived.Test.YteinekidpokbpaaAmL
namespace Go.Proofs.Yteinekidpokbpaa.Am
set_option linter.unusedVariables false
set_option linter.unusedSimpArgs false
open Go.RowKit

/-- What is told of a call hangs on the blocks alone that its values lead to. -/
def Ctx.loc (C : Ctx) : Prop := ∀ key f args g g', (∀ q ∈ keysTs args, Agree g g' 2 q) → C.spec key f args g = C.spec key f args g'

section
variable {C : Ctx} {g g' : Mem} {ts ts' : Sl}
theorem evL_congr {l : List Operand} (h : ∀ x ∈ l, ev C ts x = ev C ts' x) : evL C ts l = evL C ts' l := by
  induction l with
  | nil => rfl
  | cons x l ih => simp only [evL]; rw [h x (List.mem_cons_self ..), ih (fun y hy => h y (List.mem_cons_of_mem _ hy))]
theorem evP_congr {l : List (Nat × Operand)} (h : ∀ x ∈ l.map (·.2), ev C ts x = ev C ts' x) : evP C ts l = evP C ts' l := by
  induction l with
  | nil => rfl
  | cons p l ih => obtain ⟨i, x⟩ := p; simp only [evP]; rw [h x (by simp), ih (fun y hy => h y (by simp at hy ⊢; exact .inr hy))]
theorem evO_congr {l : Option Operand} (h : ∀ x ∈ l.toList, ev C ts x = ev C ts' x) : evO C ts l = evO C ts' l := by
  cases l with
  | none => rfl
  | some x => simp only [evO]; rw [h x (by simp)]

theorem step_congr {key : Nat} {op : Op} (h : ∀ x ∈ op.operands.toList, ev C ts x = ev C ts' x) : stepO C g ts key op = stepO C g ts' key op := by
  cases op
  case call c =>
    simp only [stepO, callT]
    have ha : ∀ x ∈ c.args.toList, ev C ts x = ev C ts' x := fun x hx => h x (by simp [Op.operands, Call.operands] at hx ⊢; exact .inr hx)
    split
    · rename_i e _; rw [ha _ (by rw [e]; simp)]
    · rename_i e _; rw [ha _ (by rw [e]; simp), ha _ (by rw [e]; simp)]
    · rename_i e _; rw [ha _ (by rw [e]; simp), ha _ (by rw [e]; simp)]
    · rename_i e; rw [ha _ (by rw [e]; simp), ha _ (by rw [e]; simp)]
    · rename_i e; rw [ha _ (by rw [e]; simp), ha _ (by rw [e]; simp)]
    · rename_i f e
      rw [h f (by simp [Op.operands, Call.operands, e]), evL_congr ha]
    · rfl
  case build t ps =>
    simp only [stepO]; rw [evP_congr (ts' := ts') (fun x hx => h x (by simpa [Op.operands] using hx))]
  case buildSlice t n ps =>
    simp only [stepO]; rw [evP_congr (ts' := ts') (fun x hx => h x (by simpa [Op.operands] using hx))]
  case slice t x lo hi mx =>
    cases mx with
    | some m =>
      simp only [stepO]
      rw [h x (by simp [Op.operands]), h m (by simp [Op.operands]), evO_congr (l := lo) (ts' := ts') (fun y hy => h y (by simp [Op.operands] at hy ⊢; exact .inr (.inl hy))), evO_congr (l := hi) (ts' := ts') (fun y hy => h y (by simp [Op.operands] at hy ⊢; exact .inr (.inr (.inl hy))))]
    | none =>
      simp only [stepO]
      rw [h x (by simp [Op.operands]), evO_congr (l := lo) (ts' := ts') (fun y hy => h y (by simp [Op.operands] at hy ⊢; exact .inr (.inl hy))), evO_congr (l := hi) (ts' := ts') (fun y hy => h y (by simp [Op.operands] at hy ⊢; exact .inr (.inr hy)))]
  case makeFunc fn a c =>
    simp only [stepO]
    rw [evL_congr (ts' := ts') (fun x hx => h x (by simp [Op.operands] at hx ⊢; exact .inl hx)), evL_congr (ts' := ts') (l := c.toList) (fun x hx => h x (by simp [Op.operands] at hx ⊢; exact .inr hx))]
  case makeMap t r =>
    simp only [stepO]
    rw [evO_congr (l := r) (ts' := ts') (fun y hy => h y (by simpa [Op.operands] using hy))]
  all_goals first
    | rfl
    | (simp only [Op.operands, List.mem_cons, List.not_mem_nil, or_false, forall_eq_or_imp, forall_eq] at h
       simp only [stepO]
       first | rw [h] | rw [h.1, h.2] | rw [h.1, h.2.1, h.2.2])

theorem mem_append_l {a b : List Nat} {q : Nat} (h : q ∈ a) : q ∈ a ++ b := List.mem_append.2 (.inl h)
theorem alive_congr {k : Nat} (h : g k = g' k) : g.alive k = g'.alive k := by unfold Mem.alive; rw [h]
theorem isNew_congr {k : Nat} (h : g k = g' k) : isNew g k = isNew g' k := by unfold isNew; rw [h]
theorem low_keys (x : T) : keysT x.low = keysT x := by cases x <;> rfl

theorem nilT_congr {x : T} (h : ∀ q ∈ keysT x, g q = g' q) : nilT g x = nilT g' x := by
  unfold nilT; split <;> first | rfl | (simp only [alive_congr (h _ (List.mem_singleton.2 rfl))]) | (simp only [h _ (List.mem_singleton.2 rfl)])
theorem loadT_congr {P : Program} {t : TypeId} {x : T} (h : ∀ q ∈ keysT x, g q = g' q) : loadT P g t x = loadT P g' t x := by
  unfold loadT; split
  · rfl
  · rfl
  · simp only [h _ (List.mem_singleton.2 rfl)]
  · rfl
theorem storeT_congr {P : Program} {t : TypeId} {a x : T} (h : ∀ q ∈ keysT a, g q = g' q) : storeT P g t a x = storeT P g' t a x := by
  unfold storeT; split
  · simp only [h _ (List.mem_singleton.2 rfl)]
  · rfl
theorem fieldAddrT_congr {P : Program} {t : TypeId} {x : T} {f : Nat} (h : ∀ q ∈ keysT x, g q = g' q) : fieldAddrT P g t x f = fieldAddrT P g' t x f := by
  unfold fieldAddrT; split
  · split
    · split
      · split <;> first | rfl | (simp only [alive_congr (h _ (List.mem_singleton.2 rfl))]) | (simp only [h _ (List.mem_singleton.2 rfl)])
      · rfl
    · rfl
  · rfl
theorem indexAddrT_congr {P : Program} {t : TypeId} {x i : T} {lit : Bool} (h : ∀ q ∈ keysT x, g q = g' q) : indexAddrT P g t x i lit = indexAddrT P g' t x i lit := by
  unfold indexAddrT; split <;> first | rfl | (simp only [alive_congr (h _ (List.mem_singleton.2 rfl))]) | (simp only [h _ (List.mem_singleton.2 rfl)])
theorem sliceT_congr {P : Program} {t : TypeId} {x : T} {lo hi : Option T} (h : ∀ q ∈ keysT x, g q = g' q) : sliceT P g t x lo hi = sliceT P g' t x lo hi := by
  unfold sliceT; split
  · split
    · split
      · split <;> first | rfl | (simp only [alive_congr (h _ (List.mem_singleton.2 rfl))]) | (simp only [h _ (List.mem_singleton.2 rfl)])
      · rfl
    · split
      · split <;> first | rfl | (simp only [alive_congr (h _ (List.mem_singleton.2 rfl))]) | (simp only [h _ (List.mem_singleton.2 rfl)])
      · rfl
    · rfl
  · rfl
theorem lenT_congr {P : Program} {t : TypeId} {x : T} (h : ∀ q ∈ keysT x, g q = g' q) : lenT P g t x = lenT P g' t x := by
  unfold lenT; split <;> first | rfl | (simp only [alive_congr (h _ (List.mem_singleton.2 rfl))]) | (simp only [h _ (List.mem_singleton.2 rfl)])
theorem mapUpdT_congr {P : Program} {t : TypeId} {x k v : T} (h : ∀ q ∈ keysT x, g q = g' q) : mapUpdT P g t x k v = mapUpdT P g' t x k v := by
  unfold mapUpdT; split <;> first | rfl | (simp only [h _ (List.mem_singleton.2 rfl)])
theorem lookT_congr {P : Program} {t : TypeId} {x k : T} {ok : Bool} (h : ∀ q ∈ keysT x, g q = g' q) : lookT P g t x k ok = lookT P g' t x k ok := by
  unfold lookT; split <;> first | rfl | (simp only [h _ (List.mem_singleton.2 rfl)])
theorem contT_congr {sz : Nat} {x : T} (h : ∀ q ∈ keysT x, g q = g' q) : contT g sz x = contT g' sz x := by
  unfold contT; split <;> first | rfl | (simp only [alive_congr (h _ (List.mem_singleton.2 rfl))]) | (simp only [h _ (List.mem_singleton.2 rfl)])
theorem appendT_congr {P : Program} {key : Nat} {t t2 : TypeId} {s x : T} (hs : ∀ q ∈ keysT s, g q = g' q) (h : ∀ q ∈ keysT x, g q = g' q) : appendT P g key t t2 s x = appendT P g' key t t2 s x := by
  have h1 : ∀ sz, contT g sz x = contT g' sz x := fun sz => contT_congr h
  have h2 : ∀ sz k s1 n, s = .ow k s1 n → contT g sz (.ow k s1 n) = contT g' sz (.ow k s1 n) := fun sz k s1 n e => contT_congr (by subst e; exact hs)
  have h3 : ∀ sz k s1 n, s = .os k s1 0 n → contT g sz (.os k s1 0 n) = contT g' sz (.os k s1 0 n) := fun sz k s1 n e => contT_congr (by subst e; exact hs)
  unfold appendT
  simp only [h1]
  split
  · split
    · split
      · split
        · split
          · split
            · rfl
            · simp only [h2 _ _ _ _ rfl]
            · simp only [h3 _ _ _ _ rfl]
            · rfl
          · rfl
        · rfl
      · rfl
    · rfl
  · rfl

theorem keysE_mem {l : List Operand} {x : Operand} (h : x ∈ l) {q : Nat} (hq : q ∈ keysT (ev C ts x)) : q ∈ keysE C ts l := by
  induction l with
  | nil => simp at h
  | cons y l ih =>
    simp only [keysE]
    rcases List.mem_cons.1 h with rfl | h
    · exact List.mem_append.2 (.inl hq)
    · exact List.mem_append.2 (.inr (ih h))
theorem keysTs_evL {l : List Operand} (h : ∀ x ∈ l, keysT (ev C ts x) = []) : keysTs (evL C ts l) = [] := by
  induction l with
  | nil => rfl
  | cons x l ih => simp only [evL, keysTs]; rw [h x (List.mem_cons_self ..), ih (fun y hy => h y (List.mem_cons_of_mem _ hy))]; rfl
theorem keysTs_append (a b : List T) : keysTs (a ++ b) = keysTs a ++ keysTs b := by
  induction a with
  | nil => rfl
  | cons t a ih => simp only [List.cons_append, keysTs, ih, List.append_assoc]

theorem copyT_congr {P : Program} {t : TypeId} {s x : T} (hs : ∀ q ∈ keysT s, g q = g' q) (hx : ∀ q ∈ keysT x, g q = g' q) : copyT P g t s x = copyT P g' t s x := by
  have h1 : ∀ sz, contT g sz x = contT g' sz x := fun sz => contT_congr hx
  unfold copyT
  have h2 : ∀ k s1 off n, osOf s = some (k, s1, off, n) → g k = g' k := by
    intro k s1 off n h
    cases s <;> simp only [osOf] at h <;> cases h <;> exact hs _ (by simp [keysT])
  split
  · split
    · rw [h1]
      split
      · rename_i e; rw [h2 _ _ _ _ (by assumption)]
      · rfl
    · rfl
  · rfl
theorem evL_mem {l : List Operand} {q : Nat} (h : q ∈ keysTs (evL C ts l)) : ∃ x ∈ l, q ∈ keysT (ev C ts x) := by
  induction l with
  | nil => simp [evL, keysTs] at h
  | cons x l ih =>
    simp only [evL, keysTs] at h
    rcases List.mem_append.1 h with h | h
    · exact ⟨x, List.mem_cons_self .., h⟩
    · obtain ⟨y, hy, h2⟩ := ih h; exact ⟨y, List.mem_cons_of_mem _ hy, h2⟩
theorem step_local (hL : C.loc) {key : Nat} {op : Op} (h : match depOf C g' ts key op with | some l => ∀ q ∈ l, g q = g' q | none => ∀ q, g q = g' q) : stepO C g ts key op = stepO C g' ts key op := by
  have hk : ∀ q ∈ keysE C ts op.operands.toList, g q = g' q := by
    unfold depOf at h
    split at h
    · rename_i l e
      intro q hq
      split at e
      · rename_i e2; rw [e2] at hq; simp at hq
      · split at e
        · split at e
          · rename_i l2 e3; cases e; exact h q (by simp [reachB_self e3 hq])
          · cases e
        · cases e; exact h q (by simp [hq])
    · exact fun q _ => h q
  have hn : g key = g' key ∧ g (key + 1) = g' (key + 1) ∧ g (key + 2) = g' (key + 2) ∧ g (key + 3) = g' (key + 3) := by
    unfold depOf at h
    split at h
    · rename_i l e
      split at e
      · cases e; exact ⟨h _ (by simp), h _ (by simp), h _ (by simp), h _ (by simp)⟩
      · split at e
        · split at e
          · cases e; exact ⟨h _ (by simp), h _ (by simp), h _ (by simp), h _ (by simp)⟩
          · cases e
        · cases e; exact ⟨h _ (by simp), h _ (by simp), h _ (by simp), h _ (by simp)⟩
    · exact ⟨h _, h _, h _, h _⟩
  have ho : ∀ x ∈ op.operands.toList, ∀ q ∈ keysT (ev C ts x), g q = g' q := fun x hx q hq => hk q (keysE_mem hx hq)
  have hnew := isNew_congr hn.1
  cases op
  case call c =>
    have ha : ∀ x ∈ c.args.toList, ∀ q ∈ keysT (ev C ts x), g q = g' q := fun x hx => ho x (by simp [Op.operands, Call.operands] at hx ⊢; exact .inr hx)
    simp only [stepO, callT]
    split
    · rename_i x _ _ _ e _; exact lenT_congr (fun q hq => ha x (by rw [e]; simp) q (by rwa [low_keys] at hq))
    · rename_i e _; rw [hnew, appendT_congr (ha _ (by rw [e]; simp)) (ha _ (by rw [e]; simp))]
    · rename_i e _; rw [copyT_congr (ha _ (by rw [e]; simp)) (ha _ (by rw [e]; simp))]
    · rfl
    · rfl
    · rename_i f e
      split
      · rename_i fid a b ef
        have hnews : news g key = news g' key := by unfold news; rw [hnew, isNew_congr hn.2.1, isNew_congr hn.2.2.1, isNew_congr hn.2.2.2]
        rw [hnews]
        have hs : C.spec key fid (a ++ evL C ts c.args.toList ++ b) g = C.spec key fid (a ++ evL C ts c.args.toList ++ b) g' := by
          have hsub : ∀ q ∈ keysTs (a ++ evL C ts c.args.toList ++ b), q ∈ keysE C ts (Op.call c).operands.toList := by
            intro q hq
            have hab : q ∈ keysTs a ++ keysTs b → q ∈ keysT (ev C ts f) := by
              intro hq
              unfold fnOf at ef
              split at ef
              · cases ef; simp [keysTs] at hq
              · rename_i e3; cases ef; rw [e3]; simpa only [keysT] using hq
              · cases ef
            rw [keysTs_append, keysTs_append] at hq
            rcases List.mem_append.1 hq with hq | hq
            · rcases List.mem_append.1 hq with hq | hq
              · exact keysE_mem (x := f) (by simp [Op.operands, Call.operands, e]) (hab (List.mem_append.2 (.inl hq)))
              · obtain ⟨x, hx, h2⟩ := evL_mem hq
                exact keysE_mem (x := x) (by simp [Op.operands, Call.operands] at hx ⊢; exact .inr hx) h2
            · exact keysE_mem (x := f) (by simp [Op.operands, Call.operands, e]) (hab (List.mem_append.2 (.inr hq)))
          have hic : isCall (.call c) = true := by simp [isCall, e]
          cases hfl : reachB g' 2 (keysE C ts (Op.call c).operands.toList) with
          | some l =>
            refine hL _ _ _ _ _ (fun q hq => (reachB_ok 2 hfl ?_ q (hsub q hq)).2)
            intro r hr
            cases hke : keysE C ts (Op.call c).operands.toList with
            | nil => rw [hke] at hfl; cases hfl; cases hr
            | cons q0 l0 =>
              rw [hke] at hfl
              have hd : depOf C g' ts key (.call c) = some (key :: (key + 1) :: (key + 2) :: (key + 3) :: l) := by unfold depOf; rw [hke]; simp only [hic, hfl]
              rw [hd] at h
              exact h r (by simp [hr])
          | none =>
            have hd : depOf C g' ts key (.call c) = none := by
              cases hke : keysE C ts (Op.call c).operands.toList with
              | nil => rw [hke] at hfl; cases hfl
              | cons q l =>
                rw [hke] at hfl
                unfold depOf; rw [hke]
                simp only [hic, hfl]
            rw [hd] at h
            have : g = g' := funext h
            rw [this]
        rw [hs]
      · rfl
    · rfl
  case load t a => simp only [stepO]; rw [loadT_congr (ho a (by simp [Op.operands]))]
  case store t a x => simp only [stepO]; rw [storeT_congr (ho a (by simp [Op.operands]))]
  case nilCheck x => simp only [stepO]; rw [nilT_congr (ho x (by simp [Op.operands]))]
  case indexAddr t x i => simp only [stepO]; rw [indexAddrT_congr (fun q hq => ho x (by simp [Op.operands]) q (by rwa [low_keys] at hq))]
  case fieldAddr t x f => simp only [stepO]; rw [fieldAddrT_congr (ho x (by simp [Op.operands]))]
  case slice t x lo hi mx =>
    cases mx with
    | some m => simp only [stepO, hnew]
    | none => simp only [stepO]; rw [sliceT_congr (fun q hq => ho x (by simp [Op.operands]) q (by rwa [low_keys] at hq))]
  case makeMap t r => simp only [stepO, hnew]
  case mapUpdate t x k v => simp only [stepO]; rw [mapUpdT_congr (ho x (by simp [Op.operands]))]
  case lookup t x k ok => simp only [stepO]; rw [lookT_congr (ho x (by simp [Op.operands]))]
  case alloc e => simp only [stepO, hnew]
  case box e x => simp only [stepO, hnew]
  case buildSlice t n ps => simp only [stepO, hnew]
  case makeSlice t l c => simp only [stepO, hnew]
  all_goals rfl
end
end Go.Proofs.Yteinekidpokbpaa.Am
