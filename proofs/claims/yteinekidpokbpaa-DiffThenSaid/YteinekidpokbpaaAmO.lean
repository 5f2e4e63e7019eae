/- A row whose order is drawn, by its walk in the text's order. -/
import Derived.Test.YteinekidpokbpaaAmN
namespace Go.Proofs.Yteinekidpokbpaa.Am
set_option linter.unusedVariables false
set_option linter.unusedSimpArgs false
open Go.RowKit

def full : Nat → Bool := fun _ => true
def gYes (ops : Array Oper) (ts : Sl) (o : Oper) : Prop := match o.guard with
  | none => True
  | some (j, want) => ∃ d, dstOf ops j = some d ∧ tget ts d = .v (.bool want)
def gNo (ops : Array Oper) (ts : Sl) (o : Oper) : Prop := match o.guard with
  | none => False
  | some (j, want) => ∃ d, dstOf ops j = some d ∧ (tget ts d = .v (.bool (!want)) ∨ ∃ cs, tget ts d = .tup cs)
/-- What was noted of an operation is so. -/
def OpOk (C : Ctx) (base : Nat) (ops : Array Oper) (ts : Sl) (g : Mem) (o : Oper) (r : Rec) : Prop :=
  r.d = o.dst ∧ r.look = lookOf ops o ∧ ((gYes ops ts o ∧ ∃ ot, stepO C g ts (keyOf base o.dst) o.op = some ot ∧ ot.ok ∧ r.t = ot.t ∧ r.up = ot.up ∧ r.dep = depOf C g ts (keyOf base o.dst) o.op) ∨
    (gNo ops ts o ∧ r.t = .tup [] ∧ r.up = [] ∧ r.dep = some []))
inductive Chain (C : Ctx) (n base : Nat) (ops : Array Oper) (ts0 : Sl) (H0 : Hp) (i0 : Nat) : List Rec → Prop
  | nil : Chain C n base ops ts0 H0 i0 (dms i0)
  | cons {r : Rec} {rs : List Rec} {o : Oper} (h : Chain C n base ops ts0 H0 i0 rs) (ho : ops[rs.length]? = some o) (hr : OpOk C base ops (tsD n full ts0 rs) (hD full H0 rs).get o r) : Chain C n base ops ts0 H0 i0 (r :: rs)

theorem ev_tget {C : Ctx} {ts ts' : Sl} (h : ∀ s, tget ts s = tget ts' s) (x : Operand) : ev C ts x = ev C ts' x := by cases x <;> first | rfl | exact h _
theorem keysE_congr {C : Ctx} {ts ts' : Sl} {l : List Operand} (h : ∀ x ∈ l, ev C ts x = ev C ts' x) : keysE C ts l = keysE C ts' l := by
  induction l with
  | nil => rfl
  | cons x l ih => simp only [keysE]; rw [h x (List.mem_cons_self ..), ih (fun y hy => h y (List.mem_cons_of_mem _ hy))]
theorem depOf_congr {C : Ctx} {g g' : Mem} {ts ts' : Sl} {key : Nat} {op : Op} (hg : g = g') (h : ∀ x ∈ op.operands.toList, ev C ts x = ev C ts' x) : depOf C g ts key op = depOf C g' ts' key op := by
  unfold depOf; rw [keysE_congr h, hg]

section
variable {C : Ctx} {n base : Nat} {w0 : World} {O : Env} {ops : Array Oper}

theorem dms_len (i : Nat) : (dms i).length = i := by induction i with
  | zero => rfl
  | succ i ih => simp [dms, ih]
theorem Chain.le {ts0 : Sl} {H0 : Hp} {i0 : Nat} (hi : i0 ≤ ops.size) {rs : List Rec} (h : Chain C n base ops ts0 H0 i0 rs) : i0 ≤ rs.length ∧ rs.length ≤ ops.size := by
  induction h with
  | nil => rw [dms_len]; exact ⟨Nat.le_refl _, hi⟩
  | cons _ ho _ ih => have := (Array.getElem?_eq_some_iff.1 ho).1; simp; omega
/-- How the walk of a row ends: at its end, or at a call that all others wait for. -/
def Ends (C : Ctx) (X : Caller) (n base : Nat) (ops : Array Oper) (F : Sl → Hp → List Rec → Prop) (ts0 : Sl) (H0 : Hp) (i0 : Nat) : Prop :=
  ∃ ts' H' rs', Chain C n base ops ts0 H0 i0 rs' ∧ (∀ s, tget ts' s = tget (tsD n full ts0 rs') s) ∧ (∀ q, H'.get q = (hD full H0 rs').get q) ∧
    ((rs'.length = ops.size ∧ F ts' H' rs') ∨
      (∃ (o : Oper) (l' : List Oper) (f : Operand) (as : Array Operand) (tys : Array TypeId), ops.toList.drop rs'.length = o :: l' ∧ gYes ops (tsD n full ts0 rs') o ∧ o.op = .call ⟨.value f, as, tys⟩ ∧
        chkAll (ancs ops.toList []) rs' = true ∧ edgesOk 0 ops.toList = true ∧ cutB (ancs ops.toList []) rs'.length ops.size = true ∧
        X (ev C ts' f) (evL C ts' as.toList) (keyOf base o.dst) ts' H' (fun t ts H => fP n ts o.dst t fun ts => dgo C X n base ops F l' ts H (dms (rs'.length + 1)))))
theorem dgo_run {X : Caller} {F : Sl → Hp → List Rec → Prop} {ts0 : Sl} {H0 : Hp} {i0 : Nat} (hi0 : i0 ≤ ops.size) : ∀ (l : List Oper) (ts : Sl) (H : Hp) (rs : List Rec), dgo C X n base ops F l ts H rs → ops.toList.drop rs.length = l → Chain C n base ops ts0 H0 i0 rs →
    (∀ s, tget ts s = tget (tsD n full ts0 rs) s) → (∀ q, H.get q = (hD full H0 rs).get q) → Ends C X n base ops F ts0 H0 i0 := by
  intro l
  induction l with
  | nil =>
    intro ts H rs h hd hc ht hh
    refine ⟨ts, H, rs, hc, ht, hh, .inl ⟨?_, h⟩⟩
    have h1 : ops.toList.length ≤ rs.length := List.drop_eq_nil_iff.1 hd
    rw [Array.length_toList] at h1
    have := (hc.le hi0).2
    omega
  | cons o l ih =>
    intro ts H rs h hd hc ht hh
    have ho : ops[rs.length]? = some o := by
      rw [← Array.getElem?_toList]
      have : (ops.toList.drop rs.length)[0]? = some o := by rw [hd]; rfl
      rwa [List.getElem?_drop, Nat.add_zero] at this
    have hd' : ops.toList.drop (rs.length + 1) = l := by rw [← List.drop_drop, hd]; rfl
    have hlen : ops.size - lenO l = rs.length + 1 := by
      rw [lenO_eq, ← hd', List.length_drop, Array.length_toList]
      have := (Array.getElem?_eq_some_iff.1 ho).1
      omega
    have hg : H.get = (hD full H0 rs).get := funext hh
    have ex : ∀ (ts1 : Sl), (∀ s, tget ts1 s = tget ts s) → gYes ops (tsD n full ts0 rs) o →
        (match stepO C H.get ts1 (keyOf base o.dst) o.op with
          | some ot => andO ot.c (fT ot.t fun t => fP n ts1 o.dst t fun ts' => fU ot.up [] fun up => fU ot.up H fun H' => dgo C X n base ops F l ts' H' (⟨o.dst, t, up, depOf C H.get ts1 (keyOf base o.dst) o.op, lookOf ops o⟩ :: rs))
          | none => match o.op with
            | .call c => match c.callee with
              | .value f => match chkAllB (rowsB (ancs ops.toList []) (ops.size - lenO l - 1)) rs && (edgesOk 0 ops.toList && cutB (ancs ops.toList []) (ops.size - lenO l - 1) ops.size) with
                | true => X (ev C ts1 f) (evL C ts1 c.args.toList) (keyOf base o.dst) ts1 H (fun t ts H => fP n ts o.dst t fun ts => dgo C X n base ops F l ts H (dms (ops.size - lenO l)))
                | false => False
              | _ => False
            | _ => False) → Ends C X n base ops F ts0 H0 i0 := by
      intro ts1 h1 hy hx
      split at hx
      · rename_i ot e
        obtain ⟨hok, hx⟩ := andO_ok hx
        simp only [fT_eq, fP_eq, fU_eq, List.append_nil] at hx
        have hev : ∀ x ∈ o.op.operands.toList, ev C ts1 x = ev C (tsD n full ts0 rs) x := fun x _ => ev_tget (fun s => (h1 s).trans (ht s)) x
        refine ih _ _ _ hx hd' (.cons hc ho ⟨rfl, rfl, .inl ⟨hy, ot, ?_, hok, rfl, rfl, depOf_congr hg hev⟩⟩) (fun s => ?_) (fun q => ?_)
        · rw [← step_congr hev, ← hg]; exact e
        · simp only [tsD, full, if_true]
          rw [tget_put, tget_put, h1, ht]
        · simp only [hD, full, if_true]
          by_cases hq : q ∈ upKeys ot.up
          · exact get_up_in hq
          · rw [get_up_not hq, get_up_not hq]; exact hh q
      · split at hx
        · rename_i c e
          split at hx
          · rename_i f ef
            split at hx
            · rename_i hb
              simp only [Bool.and_eq_true] at hb
              obtain ⟨callee, as, tys⟩ := c
              simp only at ef; subst ef
              rw [hlen] at hx hb
              rw [Nat.add_sub_cancel] at hb
              exact ⟨ts1, H, rs, hc, fun s => (h1 s).trans (ht s), hh, .inr ⟨o, l, f, as, tys, hd, hy, e, chkAllB_ok hb.1, hb.2.1, hb.2.2, hx⟩⟩
            · exact hx.elim
          · exact hx.elim
        · exact hx.elim
    have sk : ∀ (ts1 : Sl), (∀ s, tget ts1 s = tget ts s) → gNo ops (tsD n full ts0 rs) o →
        (fP n ts1 o.dst (.tup []) fun ts' => dgo C X n base ops F l ts' H (⟨o.dst, .tup [], [], some [], lookOf ops o⟩ :: rs)) → Ends C X n base ops F ts0 H0 i0 := by
      intro ts1 h1 hy hx
      rw [fP_eq] at hx
      refine ih _ _ _ hx hd' (.cons hc ho ⟨rfl, rfl, .inr ⟨hy, rfl, rfl, rfl⟩⟩) (fun s => ?_) (fun q => ?_)
      · simp only [tsD, full, if_true]
        rw [tget_put, tget_put, h1, ht]
      · simp only [hD, full, if_true, List.nil_append]; exact hh q
    rw [dgo_cons] at h
    unfold dgoB at h
    simp only at h
    cases hgd : o.guard with
    | none =>
      rw [hgd] at h
      exact ex ts (fun _ => rfl) (by unfold gYes; rw [hgd]; trivial) h
    | some jw =>
      obtain ⟨j, want⟩ := jw
      rw [hgd] at h
      simp only at h
      split at h
      · exact h.elim
      · rename_i d hdd
        split at h
        · rename_i x hx
          have hx' : tget (tsD n full ts0 rs) d = .v (.bool x) := by rw [← ht]; exact hx
          have same : ∀ y, x = y → ∀ s, tget ((d, T.v (.bool y)) :: ts) s = tget ts s := by
            intro y hy s
            subst hy
            simp only [tget]
            cases e2 : Nat.beq d s
            · rfl
            · have := Nat.eq_of_beq_eq_true e2; subst this; exact hx.symm
          have yes : x = want → gYes ops (tsD n full ts0 rs) o := fun e => by unfold gYes; rw [hgd]; exact ⟨d, hdd, e ▸ hx'⟩
          have no : x = (!want) → gNo ops (tsD n full ts0 rs) o := fun e => by unfold gNo; rw [hgd]; exact ⟨d, hdd, .inl (e ▸ hx')⟩
          cases x <;> cases want <;> simp only [ifB] at h
          · exact ex _ (same _ rfl) (yes rfl) h
          · exact sk _ (same _ rfl) (no rfl) h
          · exact sk _ (same _ rfl) (no rfl) h
          · exact ex _ (same _ rfl) (yes rfl) h
        · rename_i cs hx
          exact sk ts (fun _ => rfl) (by unfold gNo; rw [hgd]; exact ⟨d, hdd, .inr ⟨cs, by rw [← ht]; exact hx⟩⟩) h
        · exact h.elim

theorem atR_dms {i j : Nat} {r : Rec} (h : atR (dms i) j = some r) : r = dm ∧ j < i := by
  induction i with
  | zero => cases h
  | succ i ih =>
    simp only [dms, atR] at h
    split at h
    · rename_i e; cases h; rw [dms_len] at e; exact ⟨rfl, by omega⟩
    · obtain ⟨h1, h2⟩ := ih h; exact ⟨h1, by omega⟩
theorem chain_at {ts0 : Sl} {H0 : Hp} {i0 : Nat} {rs : List Rec} (h : Chain C n base ops ts0 H0 i0 rs) : ∀ {i : Nat} {r : Rec}, i0 ≤ i → atR rs i = some r → ∃ pre more o, rs = more ++ (r :: pre) ∧ pre.length = i ∧ ops[i]? = some o ∧ OpOk C base ops (tsD n full ts0 pre) (hD full H0 pre).get o r := by
  induction h with
  | nil => intro i r hi h; have := (atR_dms h).2; omega
  | cons hc ho hr ih =>
    intro i r hi h
    simp only [atR] at h
    split at h
    · rename_i e; cases h; exact ⟨_, [], _, rfl, e.symm, by rw [e]; exact ho, hr⟩
    · obtain ⟨pre, more, o, h1, h2⟩ := ih hi h
      exact ⟨pre, _ :: more, o, by rw [h1]; rfl, h2⟩
theorem tsD_pre {D : Nat → Bool} {ts0 : Sl} {pre : List Rec} : ∀ {more : List Rec}, (∀ j, pre.length ≤ j → D j = false) → (∀ j, j < pre.length → D j = true) → tsD n D ts0 (more ++ pre) = tsD n full ts0 pre := by
  intro more h1 h2
  induction more with
  | nil =>
    rw [List.nil_append]
    have : ∀ {q : List Rec}, q.length ≤ pre.length → tsD n D ts0 q = tsD n full ts0 q := by
      intro q
      induction q with
      | nil => intro _; rfl
      | cons a q ih => intro hq; simp only [List.length_cons] at hq; simp only [tsD, h2 q.length (by omega), full, ih (by omega)]
    exact this (Nat.le_refl _)
  | cons a more ih => simp only [List.cons_append, tsD]; rw [h1 _ (by simp)]; simpa using ih
theorem hD_pre {D : Nat → Bool} {H0 : Hp} {pre : List Rec} : ∀ {more : List Rec}, (∀ j, pre.length ≤ j → D j = false) → (∀ j, j < pre.length → D j = true) → hD D H0 (more ++ pre) = hD full H0 pre := by
  intro more h1 h2
  induction more with
  | nil =>
    rw [List.nil_append]
    have : ∀ {q : List Rec}, q.length ≤ pre.length → hD D H0 q = hD full H0 q := by
      intro q
      induction q with
      | nil => intro _; rfl
      | cons a q ih => intro hq; simp only [List.length_cons] at hq; simp only [hD, h2 q.length (by omega), full, ih (by omega)]
    exact this (Nat.le_refl _)
  | cons a more ih => simp only [List.cons_append, hD]; rw [h1 _ (by simp)]; simpa using ih

/-! what the check says -/
theorem meets_iff {a b : List Nat} : meets a b = true ↔ ∃ q, q ∈ a ∧ q ∈ b := by
  induction a with
  | nil => simp [meets]
  | cons x a ih =>
    simp only [meets, Bool.or_eq_true, memN_iff, ih]
    constructor
    · rintro (h | ⟨q, h1, h2⟩)
      · exact ⟨x, List.mem_cons_self .., h⟩
      · exact ⟨q, List.mem_cons_of_mem _ h1, h2⟩
    · rintro ⟨q, h1, h2⟩
      rcases List.mem_cons.1 h1 with rfl | h1
      · exact .inl h2
      · exact .inr ⟨q, h1, h2⟩
theorem chkOne_spec {A : List Nat} {r : Rec} {i : Nat} : ∀ {rs : List Rec}, chkOne A r i rs = true → ∀ j s, atR rs j = some s → sameD r.d s.d = false ∧ (clash r s = true → (A.getD i 0).testBit j = true) := by
  intro rs
  induction rs with
  | nil => intro _ j s h; cases h
  | cons a rs ih =>
    intro h j s hj
    simp only [chkOne, Bool.and_eq_true, Bool.or_eq_true, Bool.not_eq_true'] at h
    simp only [atR] at hj
    split at hj
    · rename_i e
      cases hj
      refine ⟨h.1.1, fun hc => ?_⟩
      rcases h.1.2 with h2 | h2
      · rw [hc] at h2; cases h2
      · rw [e]; exact h2
    · exact ih h.2 j s hj
theorem chkAll_spec {A : List Nat} : ∀ {rs : List Rec}, chkAll A rs = true → ∀ i j r s, atR rs i = some r → atR rs j = some s → j < i → sameD r.d s.d = false ∧ (clash r s = true → (A.getD i 0).testBit j = true) := by
  intro rs
  induction rs with
  | nil => intro _ i j r s h; cases h
  | cons a rs ih =>
    intro h i j r s hi hj hlt
    simp only [chkAll, Bool.and_eq_true] at h
    simp only [atR] at hi hj
    split at hi
    · rename_i e
      cases hi
      rw [if_neg (by omega)] at hj
      subst e
      exact chkOne_spec h.1 j s hj
    · rw [if_neg (by have := atR_lt hi; omega)] at hj
      exact ih h.2 i j r s hi hj hlt
theorem edgesOk_spec : ∀ {l : List Oper} {k : Nat}, edgesOk k l = true → ∀ i o, l[i]? = some o → ∀ e ∈ o.after.toList, Region.binds .any e = true → e.on < k + i := by
  intro l
  induction l with
  | nil => intro k _ i o h; simp at h
  | cons a l ih =>
    intro k h i o hi e he hb
    simp only [edgesOk, Bool.and_eq_true] at h
    cases i with
    | zero =>
      simp at hi; subst hi
      have := List.all_eq_true.1 h.1 e he
      rw [hb] at this
      simp at this
      omega
    | succ i =>
      simp at hi
      have := ih h.2 i o hi e he hb
      omega

/-- Who is done, when operations are drawn. -/
def done (listed : Array Bool) (j : Nat) : Bool := listed.getD j false
theorem done_set {listed : Array Bool} {i : Nat} (hi : i < listed.size) : done (listed.setIfInBounds i true) = plus (done listed) i := by
  funext j
  unfold done plus
  rw [Array.getD_eq_getD_getElem?, Array.getElem?_setIfInBounds]
  by_cases h : i = j
  · subst h; rw [if_pos rfl, if_pos hi, if_pos rfl]; rfl
  · rw [if_neg h, if_neg (fun e => h e.symm)]; show _ = listed.getD j false; rw [Array.getD_eq_getD_getElem?]
def left (N : Nat) (D : Nat → Bool) : Nat := ((List.range N).filter fun j => !D j).length
theorem left_plus {N i : Nat} {D : Nat → Bool} (hi : i < N) (hd : D i = false) : left N (plus D i) < left N D := by
  unfold left
  rw [← List.countP_eq_length_filter, ← List.countP_eq_length_filter]
  have key : ∀ (l : List Nat), l.countP (fun j => !plus D i j) ≤ l.countP (fun j => !D j) ∧ (i ∈ l → l.countP (fun j => !plus D i j) < l.countP (fun j => !D j)) := by
    intro l
    induction l with
    | nil => simp
    | cons a l ih =>
      rw [List.countP_cons, List.countP_cons]
      by_cases ha : a = i
      · subst ha
        have h1 : plus D a a = true := by unfold plus; rw [if_pos rfl]
        simp [h1, hd]
        have := ih.1; omega
      · have h1 : plus D i a = D a := by unfold plus; rw [if_neg ha]
        rw [h1]
        refine ⟨by have := ih.1; omega, fun h => ?_⟩
        have := ih.2 (by rcases List.mem_cons.1 h with h | h; exact absurd h.symm ha; exact h)
        omega
  exact (key _).2 (List.mem_range.2 hi)

/-- What holds while operations are drawn. -/
structure Dr (C : Ctx) (n : Nat) (w0 : World) (O : Env) (ops : Array Oper) (ts0 : Sl) (H0 : Hp) (i0 : Nat) (rs : List Rec) (listed : Array Bool) (a : Act) (w : World) : Prop where
  size : listed.size = ops.size
  shut : ∀ i, done listed i = true → ∀ j, ((ancs ops.toList []).getD i 0).testBit j = true → done listed j = true
  low : ∀ j, j < i0 → done listed j = true
  high : ∀ j, rs.length ≤ j → done listed j = false
  rl : Rl C n w0 O (tsD n (done listed) ts0 rs) (hD (done listed) H0 rs) a w

theorem allT_spec {l : List Bool} (h : allT l = true) : ∀ b ∈ l, b = true := by
  induction l with
  | nil => simp
  | cons a l ih => simp only [allT, Bool.and_eq_true] at h; intro b hb; rcases List.mem_cons.1 hb with rfl | hb; exact h.1; exact ih h.2 b hb
theorem rowB_mem (a : Nat) : ∀ {n j : Nat}, j < n → a.testBit j ∈ rowB a n := by
  intro n
  induction n with
  | zero => intro j h; omega
  | succ n ih =>
    intro j h
    simp only [rowB]
    by_cases e : j = n
    · subst e; exact List.mem_cons_self ..
    · exact List.mem_cons_of_mem _ (ih (by omega))
theorem waitsB_spec {A : List Nat} {i : Nat} : ∀ {k : Nat}, waitsB A i k = true → ∀ j, j < k → (A.getD (i + 1 + j) 0).testBit i = true := by
  intro k
  induction k with
  | zero => intro _ j h; omega
  | succ k ih =>
    intro h j hj
    simp only [waitsB, Bool.and_eq_true] at h
    by_cases e : j = k
    · subst e; exact h.1
    · exact ih h.2 j (by omega)
theorem cutB_spec {A : List Nat} {i N : Nat} (h : cutB A i N = true) : (∀ j, j < i → (A.getD i 0).testBit j = true) ∧ (∀ j, i < j → j < N → (A.getD j 0).testBit i = true) := by
  unfold cutB at h
  rw [Bool.and_eq_true] at h
  refine ⟨fun j hj => allT_spec h.1 _ (rowB_mem _ hj), fun j h1 h2 => ?_⟩
  have := waitsB_spec h.2 (j - (i + 1)) (by omega)
  rwa [show i + 1 + (j - (i + 1)) = j by omega] at this
theorem meets_no {a b : List Nat} (h : meets a b = false) {q : Nat} (ha : q ∈ a) (hb : q ∈ b) : False := by
  have := meets_iff.2 ⟨q, ha, hb⟩; rw [h] at this; cases this

theorem ready_done {ops : Array Oper} {listed : Array Bool} {i : Nat} (hs : listed.size = ops.size) (hi : i ∈ Region.ready .any ops listed) : i < ops.size ∧ done listed i = false ∧
    (∀ j, ((ancs ops.toList []).getD i 0).testBit j = true → (∀ q, done listed q = true → ∀ j, ((ancs ops.toList []).getD q 0).testBit j = true → done listed j = true) → done listed j = true) := by
  unfold Region.ready at hi
  rw [List.mem_filter] at hi
  obtain ⟨hi1, hi2⟩ := hi
  have hi1 := List.mem_range.1 hi1
  rw [Bool.and_eq_true, Bool.not_eq_true'] at hi2
  obtain ⟨hi2, hi3⟩ := hi2
  have ho : ops[i]? = some ops[i] := Array.getElem?_eq_getElem hi1
  refine ⟨hi1, ?_, ?_⟩
  · unfold done
    rw [Array.getD_eq_getD_getElem?] at hi2 ⊢
    rw [Array.getElem?_eq_getElem (by omega)] at hi2 ⊢
    exact hi2
  · intro j hj shut
    have hl : ops.toList[i]? = some ops[i] := by rw [Array.getElem?_toList]; exact ho
    obtain ⟨e, he, hb, hor⟩ := ancs_spec (acc := []) hl j (by simpa using hj)
    have hed : done listed e.on = true := by
      rw [ho] at hi3
      simp only [Option.map_some, Option.getD_some] at hi3
      rw [← Array.all_toList, List.all_eq_true] at hi3
      have := hi3 e he
      rw [hb] at this
      simpa [done] using this
    rcases hor with rfl | ⟨_, h2⟩
    · exact hed
    · exact shut _ hed j (by simpa using h2)
theorem allD (hedg : edgesOk 0 ops.toList = true) : ∀ (listed : Array Bool), listed.size = ops.size → Region.ready .any ops listed = [] → ∀ i, i < ops.size → done listed i = true := by
    intro listed hs hr i
    induction i using Nat.strongRecOn with
    | _ i ih =>
      intro hi
      cases hd : done listed i with
      | true => rfl
      | false =>
        have hmem : i ∈ Region.ready .any ops listed := by
          unfold Region.ready
          rw [List.mem_filter]
          refine ⟨List.mem_range.2 hi, ?_⟩
          have ho : ops[i]? = some ops[i] := Array.getElem?_eq_getElem hi
          have hl : listed.getD i true = false := by
            unfold done at hd
            rw [Array.getD_eq_getD_getElem?] at hd ⊢
            rw [Array.getElem?_eq_getElem (by omega)] at hd ⊢
            exact hd
          rw [hl, ho]
          simp only [Bool.not_false, Bool.true_and, Option.map_some, Option.getD_some]
          rw [← Array.all_toList, List.all_eq_true]
          intro e he
          cases hb : Region.binds .any e with
          | false => rfl
          | true =>
            have := edgesOk_spec hedg i ops[i] (by rw [Array.getElem?_toList]; exact ho) e he hb
            have := ih e.on (by omega) (by omega)
            simpa [done] using this
        rw [hr] at hmem; simp at hmem
theorem any_ok (hC : C.ok) (hL : C.loc) {ts0 : Sl} {H0 : Hp} {i0 : Nat} {rs : List Rec} (hi0 : i0 ≤ ops.size) (hc : Chain C n base ops ts0 H0 i0 rs) (hcut : rs.length = ops.size ∨ cutB (ancs ops.toList []) rs.length ops.size = true) (hchk : chkAll (ancs ops.toList []) rs = true) (hedg : edgesOk 0 ops.toList = true)
    {ro : Option Nat} {Q : Exit → Act → World → Prop}
    (hend : ∀ (fuel : Nat) (listed : Array Bool) (a : Act) (w : World), left ops.size (done listed) ≤ fuel → listed.size = ops.size → (∀ j, done listed j = decide (j < rs.length)) →
      (∀ i, done listed i = true → ∀ j, ((ancs ops.toList []).getD i 0).testBit j = true → done listed j = true) → Rl C n w0 O (tsD n full ts0 rs) (hD full H0 rs) a w → wpAnyIn (FR ro) 0 C.P .any ops Q fuel listed a w) :
    ∀ (fuel : Nat) (listed : Array Bool) (a : Act) (w : World), left ops.size (done listed) ≤ fuel → Dr C n w0 O ops ts0 H0 i0 rs listed a w → wpAnyIn (FR ro) 0 C.P .any ops Q fuel listed a w := by
  -- of two that clash the one waits for the other one
  have clash' : ∀ {i j r s}, atR rs i = some r → atR rs j = some s → i ≠ j → clash r s = true ∨ clash s r = true → (j < i → ((ancs ops.toList []).getD i 0).testBit j = true) ∧ (i < j → ((ancs ops.toList []).getD j 0).testBit i = true) := by
    intro i j r s hi hj hne hcl
    have sym : clash r s = clash s r := by
      have mc : ∀ x y, meets x y = meets y x := by
        intro x y
        cases e1 : meets x y <;> cases e2 : meets y x <;> try rfl
        · obtain ⟨q, h1, h2⟩ := meets_iff.1 e2; exact (meets_no e1 h2 h1).elim
        · obtain ⟨q, h1, h2⟩ := meets_iff.1 e1; exact (meets_no e2 h2 h1).elim
      unfold clash
      rw [mc (upKeys r.up) (upKeys s.up)]
      cases hasD s.d r.look <;> cases hasD r.d s.look <;> simp only [Bool.false_or, Bool.true_or, Bool.or_comm, Bool.or_assoc, Bool.or_left_comm]
    have hcl' : clash r s = true := by rcases hcl with h | h; exact h; rw [sym]; exact h
    exact ⟨fun h => (chkAll_spec hchk i j r s hi hj h).2 hcl', fun h => (chkAll_spec hchk j i s r hj hi h).2 (sym ▸ hcl')⟩
  have hle := hc.le hi0
  have fin : ∀ (fuel : Nat) (listed : Array Bool) (a : Act) (w : World), left ops.size (done listed) ≤ fuel → Dr C n w0 O ops ts0 H0 i0 rs listed a w → (∀ j, j < rs.length → done listed j = true) → wpAnyIn (FR ro) 0 C.P .any ops Q fuel listed a w := by
    intro fuel listed a w hlf hd h1
    refine hend fuel listed a w hlf hd.size (fun j => ?_) hd.shut ?_
    · by_cases h : j < rs.length
      · rw [h1 j h, decide_eq_true h]
      · rw [hd.high j (by omega), decide_eq_false h]
    obtain ⟨m, g1, g2, g3, g4, g5⟩ := hd.rl
    have e1 : (hD (done listed) H0 rs).get = (hD full H0 rs).get := funext fun q => hD_congr (fun j r hj _ => h1 j (by have := atR_lt hj; omega))
    have e2 : ∀ s, tget (tsD n (done listed) ts0 rs) s = tget (tsD n full ts0 rs) s := fun s => tsD_congr (fun j r hj _ => h1 j (by have := atR_lt hj; omega))
    rw [e1] at g1 g2 g3
    exact ⟨m, g1, fun i => by rw [← e2]; exact g2 i, g3, g4, g5⟩
  intro fuel
  induction fuel with
  | zero =>
    intro listed a w hlf hd
    refine fin 0 listed a w hlf hd (fun j hj => ?_)
    cases e : done listed j with
    | true => rfl
    | false => have := left_plus (i := j) (N := ops.size) (by omega) e; omega
  | succ fuel ih =>
    intro listed a w hlf hd
    by_cases hall : ∀ j, j < rs.length → done listed j = true
    · exact fin _ listed a w hlf hd hall
    refine ⟨fun hr => absurd (fun j hj => allD hedg listed hd.size hr j (by omega)) hall, fun i hi => ?_⟩
    obtain ⟨hi1, hdi, hwait⟩ := ready_done hd.size hi
    -- those for which it waits are done
    have wait : ∀ j, ((ancs ops.toList []).getD i 0).testBit j = true → done listed j = true := fun j hj => hwait j hj hd.shut
    have hir : i < rs.length := by
      rcases Nat.lt_trichotomy i rs.length with h | h | h
      · exact h
      · exfalso
        rcases hcut with hcut | hcut
        · omega
        · exact hall (fun j hj => wait j (by rw [h]; exact (cutB_spec hcut).1 j hj))
      · exfalso
        rcases hcut with hcut | hcut
        · omega
        · have := wait rs.length ((cutB_spec hcut).2 i h hi1)
          rw [hd.high rs.length (Nat.le_refl _)] at this; cases this
    have hii : i0 ≤ i := by
      rcases Nat.lt_or_ge i i0 with h | h
      · have := hd.low i h; rw [hdi] at this; cases this
      · exact h
    obtain ⟨r, hr⟩ := atR_some (rs := rs) (j := i) hir
    obtain ⟨pre, more, o, hrs, hpl, ho, hok⟩ := chain_at hc hii hr
    have after : ∀ j, ((ancs ops.toList []).getD j 0).testBit i = true → done listed j = false := by
      intro j hj
      cases e : done listed j with
      | false => rfl
      | true => have := hd.shut j e i hj; rw [hdi] at this; cases this
    -- what it looks at is as in the text's order
    have hpre : rs = (more ++ [r]) ++ pre := by rw [hrs]; simp
    let P : Nat → Bool := fun j => decide (j < i)
    have eP1 : tsD n P ts0 rs = tsD n full ts0 pre := by rw [hpre]; exact tsD_pre (fun j hj => by simp [P]; omega) (fun j hj => by simp [P]; omega)
    have eP2 : hD P H0 rs = hD full H0 pre := by rw [hpre]; exact hD_pre (fun j hj => by simp [P]; omega) (fun j hj => by simp [P]; omega)
    have agree : ∀ j s, atR rs j = some s → j = i ∨ (clash r s = true ∨ clash s r = true) → j ≠ i → done listed j = P j := by
      intro j s hj hor hne
      have hcl := clash' hr hj (Ne.symm hne) (hor.resolve_left hne)
      by_cases hlt : j < i
      · rw [wait j (hcl.1 hlt)]; simp [P, hlt]
      · rw [after j (hcl.2 (by omega))]; simp [P, hlt]
    have lookS : ∀ s, s ∈ r.look → tget (tsD n (done listed) ts0 rs) s = tget (tsD n full ts0 pre) s := by
      intro s hs
      rw [← eP1]
      refine tsD_congr (fun j q hj hq => ?_)
      by_cases hji : j = i
      · subst hji; rw [hdi]; simp [P]
      · refine agree j q hj (.inr (.inl ?_)) hji
        unfold clash
        have : hasD q.d r.look = true := by rw [hq]; exact memN_iff.2 hs
        rw [this]; simp
    obtain ⟨hrd, hrl, hor⟩ := hok
    have evS : ∀ x ∈ o.op.operands.toList, ev C (tsD n (done listed) ts0 rs) x = ev C (tsD n full ts0 pre) x := by
      intro x hx
      cases x with
      | tmp s =>
        refine lookS s ?_
        rw [hrl]; unfold lookOf
        refine List.mem_append.2 (.inl ?_)
        have : ∀ {l : List Operand}, Operand.tmp s ∈ l → s ∈ slotsOf l := by
          intro l
          induction l with
          | nil => intro h; simp at h
          | cons y l ih =>
            intro h
            simp only [slotsOf]
            rcases List.mem_cons.1 h with rfl | h
            · exact List.mem_append.2 (.inl (by simp [slotOf]))
            · exact List.mem_append.2 (.inr (ih h))
        exact this hx
      | _ => rfl
    have grd : ∀ j want d, o.guard = some (j, want) → dstOf ops j = some d → tget (tsD n (done listed) ts0 rs) d = tget (tsD n full ts0 pre) d := by
      intro j want d h1 h2
      refine lookS d ?_
      rw [hrl]; unfold lookOf
      rw [h1]; simp only [h2]
      exact List.mem_append.2 (.inr (by simp))
    have hres : ∀ {a' : Act} {w' : World}, Rl C n w0 O (putT n (tsD n (done listed) ts0 rs) r.d r.t) (r.up ++ hD (done listed) H0 rs) a' w' → wpAnyIn (FR ro) 0 C.P .any ops Q fuel (listed.setIfInBounds i true) a' w' := by
      intro a' w' hrl'
      have hds : done (listed.setIfInBounds i true) = plus (done listed) i := done_set (by have := hd.size; omega)
      refine ih _ _ _ (by rw [hds]; have := left_plus hi1 hdi; omega) ⟨by simpa using hd.size, fun q hq j hj => ?_, fun j hj => ?_, fun j hj => ?_, ?_⟩
      · rw [hds] at hq ⊢
        unfold plus at hq ⊢
        split at hq
        · rename_i e; subst e
          split
          · rfl
          · exact wait j hj
        · split
          · rfl
          · exact hd.shut q hq j hj
      · rw [hds]; unfold plus; split
        · rfl
        · exact hd.low j hj
      · rw [hds]; unfold plus; rw [if_neg (by omega)]; exact hd.high j hj
      · rw [hds]
        obtain ⟨m, g1, g2, g3, g4, g5⟩ := hrl'
        have e1 : (hD (plus (done listed) i) H0 rs).get = Hp.get (r.up ++ hD (done listed) H0 rs) := by
          funext q
          refine hD_plus hr (fun j s hj hij h1 h2 => ?_)
          have hcl := clash' hr hj (by omega) (.inl (by
            unfold clash
            have : meets (upKeys r.up) (upKeys s.up) = true := meets_iff.2 ⟨q, h1, h2⟩
            rw [this]; simp))
          exact after j (hcl.2 hij)
        have e2 : ∀ s, tget (tsD n (plus (done listed) i) ts0 rs) s = tget (putT n (tsD n (done listed) ts0 rs) r.d r.t) s := by
          intro s
          refine tsD_plus hr (fun j q hj hji h1 h2 => ?_)
          have hsd : sameD r.d q.d = true ∧ sameD q.d r.d = true := by rw [h1, h2]; simp [sameD]
          rcases Nat.lt_or_ge j i with h | h
          · have := (chkAll_spec hchk i j r q hr hj h).1; rw [hsd.1] at this; cases this
          · have := (chkAll_spec hchk j i q r hj hr (by omega)).1; rw [hsd.2] at this; cases this
        refine ⟨m, by rw [e1]; exact g1, fun s => ?_, by rw [e1]; exact g3, g4, g5⟩
        rw [e2, e1]; exact g2 s
    unfold wpOpIn
    rw [ho]
    simp only
    rcases hor with ⟨hy, ot, hst, hok, ht, hup, hdep⟩ | ⟨hno, ht, hup, hdep⟩
    · have hw : Region.wanted o (yielded ops a.tmps) = true := by
        unfold gYes at hy
        unfold Region.wanted
        split at hy
        · rename_i e; rw [e]
        · rename_i j want e
          rw [e]
          obtain ⟨d, h1, h2⟩ := hy
          rw [← grd j want d e h1] at h2
          simp only [hd.rl.yield h1 h2]
          cases want <;> rfl
      rw [if_pos hw]
      -- the memory that it looks at is as in the text's order
      have hg : stepO C (hD (done listed) H0 rs).get (tsD n (done listed) ts0 rs) (keyOf base o.dst) o.op = some ot := by
        rw [step_congr evS, ← hst]
        refine step_local hL ?_
        rw [← hdep]
        have fact : ∀ q, (∀ j s, atR rs j = some s → q ∈ upKeys s.up → j ≠ i → clash r s = true) → (hD (done listed) H0 rs).get q = (hD full H0 pre).get q := by
          intro q hq
          rw [← eP2]
          refine hD_congr (fun j s hj hs => ?_)
          by_cases hji : j = i
          · subst hji; rw [hdi]; simp [P]
          · exact agree j s hj (.inr (.inl (hq j s hj hs hji))) hji
        split
        · rename_i l el
          intro q hq
          refine fact q (fun j s hj hs hji => ?_)
          unfold clash
          rw [el]
          have hm : meets (upKeys s.up) l = true := meets_iff.2 ⟨q, hs, hq⟩
          cases hu : upKeys s.up with
          | nil => rw [hu] at hs; simp at hs
          | cons x y =>
            rw [hu] at hm
            show (_ || _ || meets (x :: y) l || _ || _) = true
            rw [hm]; simp
        · rename_i el
          intro q
          refine fact q (fun j s hj hs hji => ?_)
          unfold clash
          rw [el]
          cases hu : upKeys s.up with
          | nil => rw [hu] at hs; simp at hs
          | cons x y => simp
      refine step_rl hC hd.rl hg hok (fun a w hr' => hres ?_)
      rw [hrd, ht, hup]; exact hr'
    · have hw : Region.wanted o (yielded ops a.tmps) = false := by
        unfold gNo at hno
        unfold Region.wanted
        split at hno
        · exact hno.elim
        · rename_i j want e
          rw [e]
          obtain ⟨d, h1, h2⟩ := hno
          rw [← grd j want d e h1] at h2
          rcases h2 with h2 | ⟨cs, h2⟩
          · simp only [hd.rl.yield h1 h2]
            cases want <;> rfl
          · simp only [hd.rl.yield0 h1 h2]; rfl
      rw [hw]
      simp only [Bool.false_eq_true, if_false]
      refine ⟨fun _ _ => trivial, hres ?_⟩
      rw [hup, ht, hrd, List.nil_append]
      exact hd.rl.skip _

theorem tsD_dms (D : Nat → Bool) (ts : Sl) : ∀ i, tsD n D ts (dms i) = ts
  | 0 => rfl
  | i + 1 => by simp only [dms, tsD, dm]; rw [tsD_dms D ts i]; split <;> rfl
theorem hD_dms (D : Nat → Bool) (H : Hp) : ∀ i, hD D H (dms i) = H
  | 0 => rfl
  | i + 1 => by simp only [dms, hD, dm]; rw [hD_dms D H i]; split <;> rfl
theorem Rl.congr' {w0 w : World} {O : Env} {ts ts' : Sl} {H H' : Hp} {a : Act} (h : Rl C n w0 O ts H a w) (ht : ∀ s, tget ts' s = tget ts s) (hh : ∀ q, H'.get q = H.get q) : Rl C n w0 O ts' H' a w := by
  obtain ⟨m, g1, g2, g3, g4, g5⟩ := h
  have e : H'.get = H.get := funext hh
  refine ⟨m, by rw [e]; exact g1, fun i => by rw [ht, e]; exact g2 i, by rw [e]; exact g3, g4, g5⟩
/-- Operations in whatever order, from one on for which all wait. -/
theorem seg_ok (hC : C.ok) (hL : C.loc) {rd : Bool} {X : Caller} (hX : XOk C rd X) {ro : Option Nat} (hro : rd = false → ro = none) {K : Sl → Hp → Prop} {Q : Exit → Act → World → Prop} (hQ : ∀ ts H a w, K ts H → Rl C n w0 O ts H a w → Q .normal a w) :
    ∀ (m : Nat) (l : List Oper) (i0 : Nat), l.length ≤ m → ops.toList.drop i0 = l → i0 ≤ ops.size → ∀ (ts : Sl) (H : Hp), dgo C X n base ops (dfin ops K) l ts H (dms i0) →
    ∀ (fuel : Nat) (listed : Array Bool) (a : Act) (w : World), left ops.size (done listed) ≤ fuel → listed.size = ops.size → (∀ j, done listed j = decide (j < i0)) →
      (∀ i, done listed i = true → ∀ j, ((ancs ops.toList []).getD i 0).testBit j = true → done listed j = true) → Rl C n w0 O ts H a w → wpAnyIn (FR ro) 0 C.P .any ops Q fuel listed a w := by
  intro m
  induction m using Nat.strongRecOn with
  | _ m ihm =>
    intro l i0 hl hd hi0 ts H h fuel listed a w hlf hsz hdn hsh hr
    obtain ⟨ts', H', rs, hc, ht, hh, hE⟩ := dgo_run hi0 l ts H (dms i0) h (by rw [dms_len]; exact hd) .nil (fun s => by rw [tsD_dms]) (fun q => by rw [hD_dms])
    have hle := hc.le hi0
    have start : ∀ j, rs.length ≤ j → done listed j = false := fun j hj => by rw [hdn, decide_eq_false (by omega)]
    have hDr : Dr C n w0 O ops ts H i0 rs listed a w := by
      refine ⟨hsz, hsh, fun j hj => by rw [hdn, decide_eq_true hj], start, ?_⟩
      -- those ahead have left nothing here
      have base0 : ∀ {rs : List Rec}, Chain C n base ops ts H i0 rs → tsD n (done listed) ts rs = ts ∧ hD (done listed) H rs = H := by
        intro rs hc
        induction hc with
        | nil => exact ⟨tsD_dms _ _ _, hD_dms _ _ _⟩
        | @cons r2 rs2 o2 hc ho hr ih =>
          have : done listed rs2.length = false := by rw [hdn]; exact decide_eq_false (by have := (hc.le hi0).1; omega)
          simp only [tsD, hD]
          rw [this]
          exact ih
      obtain ⟨e1, e2⟩ := base0 hc
      rw [e1, e2]; exact hr
    rcases hE with ⟨hlen, hF⟩ | ⟨o, l', f, as, tys, hd', hy, hop, hck, hedg, hcb, hXc⟩
    · unfold dfin at hF
      split at hF
      · rename_i e
        rw [Bool.and_eq_true] at e
        refine any_ok hC hL hi0 hc (.inl hlen) (chkAllB_ok (by rw [hlen]; exact e.1)) e.2 (fun fuel listed a w _ hs hd2 _ hr2 => ?_) fuel listed a w hlf hDr
        have hrd : Region.ready .any ops listed = [] := by
          refine List.eq_nil_iff_forall_not_mem.2 (fun i hi => ?_)
          obtain ⟨h1, h2, -⟩ := ready_done hs hi
          rw [hd2, hlen, decide_eq_true h1] at h2; cases h2
        have hq : Q .normal a w := hQ _ _ _ _ hF (hr2.congr' ht hh)
        cases fuel with
        | zero => exact ⟨hrd, hq⟩
        | succ fuel => exact ⟨fun _ => hq, fun i hi => by rw [hrd] at hi; simp at hi⟩
      · exact hF.elim
    · have ho : ops[rs.length]? = some o := by
        rw [← Array.getElem?_toList]
        have : (ops.toList.drop rs.length)[0]? = some o := by rw [hd']; rfl
        rwa [List.getElem?_drop, Nat.add_zero] at this
      have hlt := (Array.getElem?_eq_some_iff.1 ho).1
      have hd2 : ops.toList.drop (rs.length + 1) = l' := by rw [← List.drop_drop, hd']; rfl
      refine any_ok hC hL hi0 hc (.inr hcb) hck hedg (fun fuel listed a w hlf hs hdn2 hsh2 hr2 => ?_) fuel listed a w hlf hDr
      have hno : done listed rs.length = false := by rw [hdn2]; exact decide_eq_false (by omega)
      cases fuel with
      | zero => have := left_plus hlt hno; omega
      | succ fuel =>
        refine ⟨fun hrd => ?_, fun i hi => ?_⟩
        · have := allD hedg listed hs hrd rs.length hlt; rw [hno] at this; cases this
        obtain ⟨h1, h2, hwait⟩ := ready_done hs hi
        have hi' : i = rs.length := by
          rcases Nat.lt_trichotomy i rs.length with h | h | h
          · rw [hdn2, decide_eq_true h] at h2; cases h2
          · exact h
          · have := hwait rs.length ((cutB_spec hcb).2 i h h1) hsh2
            rw [hno] at this; cases this
        subst hi'
        unfold wpOpIn
        rw [ho]
        simp only
        have hr3 : Rl C n w0 O ts' H' a w := hr2.congr' ht hh
        have hw : Region.wanted o (yielded ops a.tmps) = true := by
          unfold gYes at hy
          unfold Region.wanted
          split at hy
          · rename_i e; rw [e]
          · rename_i j want e
            rw [e]
            obtain ⟨d, h1, h2⟩ := hy
            rw [← ht] at h2
            simp only [hr3.yield h1 h2]
            cases want <;> rfl
        rw [if_pos hw]
        refine hX _ _ _ _ _ _ hXc ro hro n w0 O a w hr3 o f as tys hop rfl rfl _ _ (fun t ts2 H2 v w' hK hv => ?_)
        rw [fP_eq] at hK
        obtain ⟨_, _, _, _, _, h5⟩ := hr3
        have hds : done (listed.setIfInBounds rs.length true) = plus (done listed) rs.length := done_set (by omega)
        have hlen' : l.length = ops.size - i0 := by rw [← hd, List.length_drop, Array.length_toList]
        refine ihm (ops.size - (rs.length + 1)) (by omega) l' (rs.length + 1) (by rw [← hd2, List.length_drop, Array.length_toList]; exact Nat.le_refl _) hd2 (by omega) _ _ hK fuel _ _ _ (by rw [hds]; have := left_plus hlt hno; omega) (by simpa using hs) (fun j => ?_) (fun q hq j hj => ?_) (hv.put h5 _)
        · rw [hds]; unfold plus
          by_cases e : j = rs.length
          · rw [if_pos e, decide_eq_true (by omega)]
          · rw [if_neg e, hdn2]
            by_cases e2 : j < rs.length
            · rw [decide_eq_true e2, decide_eq_true (by omega)]
            · rw [decide_eq_false e2, decide_eq_false (by omega)]
        · rw [hds] at hq ⊢
          unfold plus at hq ⊢
          split at hq
          · rename_i e; subst e
            split
            · rfl
            · exact hwait j hj hsh2
          · split
            · rfl
            · exact hsh2 q hq j hj
end
end Go.Proofs.Yteinekidpokbpaa.Am
