/- Operations that only reckon, and those that look into memory: they do what the machine says. -/
import Derived.Test.YteinekidpokbpaaAmC
import Derived.Laws.Sem
import Derived.ChangeKeysEq
namespace Go.Proofs.Yteinekidpokbpaa.Am
set_option linter.unusedVariables false
set_option linter.unusedSimpArgs false
open Go.RowKit

def Out.ok (o : Out) : Prop := ∀ p, o.c = some p → p

/-- An operation leaves the world as it is, and gives a value of which o tells. -/
def PureOk (P : Program) (s : Sem Value) (w : World) (I : Nat → Prop) (m : Nat → Option Nat) (L : Nat → Option (Option Nat)) (o : Out) : Prop :=
  ∃ v, s.run P w = .ok v w ∧ o.up = [] ∧ TV w I m L o.t v

section
variable {P : Program} {w : World} {I : Nat → Prop} {m : Nat → Option Nat} {L : Nat → Option (Option Nat)}

theorem TV.v_inv {x y : Value} (h : TV w I m L (.v x) y) : y = x ∧ plain x = true := by cases h with | v h => exact ⟨rfl, h⟩
theorem pureV {s : Sem Value} {x : Value} {o : Out} (h : outV x = some o) (hp : plain x = true) (hs : s.run P w = .ok x w) : PureOk P s w I m L o := by
  cases h; exact ⟨x, hs, rfl, .v hp⟩
theorem pureC {s : Sem Value} {c : Prop} {t : T} {o : Out} (h : outC c t = some o) (ho : o.ok) (hs : c → ∃ v, s.run P w = .ok v w ∧ TV w I m L t v) : PureOk P s w I m L o := by
  cases h; obtain ⟨v, h1, h2⟩ := hs (ho _ rfl); exact ⟨v, h1, rfl, h2⟩
theorem pureO {s : Sem Value} {t : T} {o : Out} (h : out t = some o) (hs : ∃ v, s.run P w = .ok v w ∧ TV w I m L t v) : PureOk P s w I m L o := by
  cases h; obtain ⟨v, h1, h2⟩ := hs; exact ⟨v, h1, rfl, h2⟩

theorem run_underlying (t : TypeId) : (underlying t).run P w = match P.underlying t with | some d => .ok d w | none => .halt (.stuck "no such type") w := by
  unfold underlying
  simp only [Sem.run_bind, run_program, Result.andThen_ok]
  cases P.underlying t <;> rfl
theorem run_typeInfo (t : TypeId) : (typeInfo t).run P w = match P.info? t with | some d => .ok d w | none => .halt (.stuck "no such type") w := by
  unfold typeInfo
  simp only [Sem.run_bind, run_program, Result.andThen_ok]
  cases P.info? t <;> rfl
theorem sz_some {t : TypeId} {s : Nat} (h : sz? P t = some s) : (sizeOf t).run P w = .ok s w := by
  unfold sz? at h
  unfold sizeOf
  simp only [Sem.run_bind, run_typeInfo]
  cases e : P.info? t with
  | none => rw [e] at h; cases h
  | some i => rw [e] at h; simp only [someN_eq] at h; cases h; rfl
theorem agg_some {t : TypeId} {b : Bool} (h : agg? P t = some b) : (isAgg t).run P w = .ok b w := by
  unfold agg? at h
  unfold isAgg
  simp only [Sem.run_bind, run_underlying]
  split at h
  · rename_i e; rw [e]; cases h; rfl
  · rename_i e; rw [e]; cases h; rfl
  · rename_i x h1 h2 e
    rw [e]; cases h
    cases x <;> first | rfl | (exact absurd rfl (h1 _)) | (exact absurd rfl (h2 _ _))
  · cases h

theorem ari_ok {op : BinOp} {k : IntKind} {a b : Int} {t : TypeId} {o : Out} (h : ari op k a b = some o) (ho : o.ok) : PureOk P (binOp op t (.int k a) (.int k b)) w I m L o := by
  cases op <;> simp only [ari] at h <;> try (cases h; done)
  case quo => exact pureC h ho fun hb => ⟨_, by simp [binOp, Op.intDiv, hb], .v rfl⟩
  case rem => exact pureC h ho fun hb => ⟨_, by simp [binOp, Op.intDiv, hb], .v rfl⟩
  all_goals exact pureV h rfl (by simp [binOp, Op.intArith, Op.intBits, Op.intCmp, bits])

theorem eqGuard_int {op : BinOp} {t : TypeId} {x y : Operand} {k k' : IntKind} {a b : Int} : (eqGuard op t x y (.int k a) (.int k' b)).run P w = .ok () w := by
  unfold eqGuard; cases op <;> rfl
theorem eqGuard_bool {op : BinOp} {t : TypeId} {x y : Operand} {a b : Bool} : (eqGuard op t x y (.bool a) (.bool b)).run P w = .ok () w := by
  unfold eqGuard; cases op <;> rfl

theorem run_equal_bool {t : TypeId} {a b : Bool} (e : P.underlying t = some .bool) : (Op.equal t (.bool a) (.bool b)).run P w = .ok (a == b) w := by
  have : ∀ d, (Op.equalIn (d + 1) t (.bool a) (.bool b)).run P w = .ok (a == b) w := by
    intro d
    unfold Op.equalIn
    simp only [Sem.run_bind, run_underlying, e, Result.andThen_ok]
    rfl
  exact this 9999
theorem run_binOp_bool {op : BinOp} {t : TypeId} {a b : Bool} (e : P.underlying t = some .bool) :
    (op = .eql → (binOp op t (.bool a) (.bool b)).run P w = .ok (.bool (a == b)) w) ∧ (op = .neq → (binOp op t (.bool a) (.bool b)).run P w = .ok (.bool (!(a == b))) w) := by
  constructor
  · rintro rfl
    show ((do pure (Value.bool (← Op.equal t (.bool a) (.bool b)))) : Sem Value).run P w = _
    simp only [Sem.run_bind, run_equal_bool e, Result.andThen_ok]; rfl
  · rintro rfl
    show ((do pure (Value.bool (!(← Op.equal t (.bool a) (.bool b))))) : Sem Value).run P w = _
    simp only [Sem.run_bind, run_equal_bool e, Result.andThen_ok]; rfl

theorem unT_ok {op : UnOp} {a : T} {va : Value} {o : Out} (h : unT op a = some o) (ha : TV w I m L a va) : PureOk P (Op.unary op va) w I m L o := by
  unfold unT at h
  split at h
  · obtain ⟨rfl, -⟩ := ha.v_inv; exact pureV h rfl (by simp [Op.unary])
  · obtain ⟨rfl, -⟩ := ha.v_inv; exact pureV h rfl (by simp [Op.unary, Op.intArith])
  · obtain ⟨rfl, -⟩ := ha.v_inv; exact pureV h rfl (by simp [Op.unary, Op.intBits, bits])
  · cases h
theorem convT_ok {src dst : TypeId} {a : T} {va : Value} {o : Out} (h : convT P src dst a = some o) (ha : TV w I m L a va) : PureOk P (convert src dst va) w I m L o := by
  unfold convT at h
  split at h
  · rename_i e1 e2
    obtain ⟨rfl, -⟩ := ha.v_inv
    exact pureV h rfl (by simp [convert, run_underlying, e1, e2, Conv.intToInt])
  · cases h

theorem TV.agg_inv {cs : List T} {y : Value} (h : TV w I m L (.agg cs) y) : ∃ vs, y = .agg vs ∧ TVs w I m L cs vs.toList := by cases h with | agg h => exact ⟨_, rfl, h⟩
theorem TV.tup_inv {cs : List T} {y : Value} (h : TV w I m L (.tup cs) y) : ∃ vs, y = .tuple vs ∧ TVs w I m L cs vs.toList := by cases h with | tup h => exact ⟨_, rfl, h⟩

theorem partT_ok {t : TypeId} {cs : List T} {off : Nat} {r : T} {vs : Array Value} (h : partT P t cs off = some r) (hv : TVs w I m L cs vs.toList) :
    ∃ v, (part t vs off).run P w = .ok v w ∧ TV w I m L r v := by
  unfold partT at h
  split at h
  · rename_i s e1 e2
    cases h
    refine ⟨.agg (vs.extract off (off + s)), by simp [part, agg_some e1, sz_some e2], .agg ?_⟩
    have := (hv.drop off).take s
    have e : (vs.extract off (off + s)).toList = (vs.toList.drop off).take s := by simp [List.extract_eq_take_drop]
    rw [e]; exact this
  · rename_i e1
    obtain ⟨v, h1, h2⟩ := hv.get h
    refine ⟨v, ?_, h2⟩
    have h1' : vs[off]? = some v := by simpa using h1
    simp [part, agg_some e1, h1']
  · cases h
theorem nilS_ok {t : T} {b : Bool} {v : Value} (h : nilS t = some b) (hv : TV w I m L t v) : ∃ a n c, v = .slice a n c ∧ a.isNone = b ∧ (b = true → n = 0 ∧ c = 0) := by
  unfold nilS at h
  split at h
  · obtain ⟨rfl, -⟩ := hv.v_inv; cases h; exact ⟨_, _, _, rfl, rfl, fun _ => ⟨rfl, rfl⟩⟩
  · cases h; cases hv with | fl => exact ⟨_, _, _, rfl, rfl, fun h => by cases h⟩
  · cases h; cases hv with | sl => exact ⟨_, _, _, rfl, rfl, fun h => by cases h⟩
  · cases h
theorem nilF_ok {t : T} {b : Bool} {v : Value} (h : nilF t = some b) (hv : TV w I m L t v) : (b = true ∧ v = .nilFunc) ∨ (b = false ∧ ∃ f x y, v = .func f x y) := by
  unfold nilF at h
  split at h
  · obtain ⟨rfl, -⟩ := hv.v_inv; cases h; exact .inl ⟨rfl, rfl⟩
  · obtain ⟨rfl, -⟩ := hv.v_inv; cases h; exact .inr ⟨rfl, _, _, _, rfl⟩
  · cases h; cases hv with | fn => exact .inr ⟨rfl, _, _, _, rfl⟩
  · cases h
theorem nilP_ok {t : T} {b : Bool} {v : Value} (h : nilP t = some b) (hv : TV w I m L t v) : ∃ a, v = .pointer a ∧ a.isNone = b := by
  unfold nilP at h
  split at h
  · obtain ⟨rfl, -⟩ := hv.v_inv; cases h; exact ⟨_, rfl, rfl⟩
  · cases h; cases hv with | fp => exact ⟨_, rfl, rfl⟩
  · cases h; cases hv with | sp => exact ⟨_, rfl, rfl⟩
  · cases h
theorem both_some {a b : Option Bool} {r : Bool} (h : both a b = some r) : ∃ x y, a = some x ∧ b = some y ∧ r = (x && y) := by
  unfold both at h
  split at h
  · cases h; exact ⟨_, _, rfl, rfl, rfl⟩
  · cases h
theorem eqF_ok {eq : TypeId → T → T → Option Bool} {d : Nat} (he : ∀ t a b va vb r, eq t a b = some r → TV w I m L a va → TV w I m L b vb → (Op.equalIn d t va vb).run P w = .ok r w) {xs ys : List T} {vx vy : Array Value}
    (hx : TVs w I m L xs vx.toList) (hy : TVs w I m L ys vy.toList) : ∀ (fs : List Field) (r : Bool), eqF eq P xs ys fs = some r → (Op.eqFields d vx vy fs).run P w = .ok r w := by
  intro fs
  induction fs with
  | nil => intro r h; cases h; rfl
  | cons f fs ih =>
    intro r h
    simp only [eqF] at h
    simp only [Op.eqFields]
    split at h
    · rename_i hn
      rw [if_pos hn]
      split at h
      · rename_i a b e1 e2
        obtain ⟨x, y, h1, h2, rfl⟩ := both_some h
        obtain ⟨va, p1, p2⟩ := partT_ok (P := P) e1 hx
        obtain ⟨vb, q1, q2⟩ := partT_ok (P := P) e2 hy
        simp only [Sem.run_bind, p1, q1, he _ _ _ _ _ _ h1 p2 q2, Result.andThen_ok]
        cases x
        · rfl
        · simp only [Bool.not_true, Bool.false_eq_true, if_false, Bool.true_and]; exact ih _ h2
      · cases h
    · rename_i hn
      rw [if_neg hn]; exact ih _ h
theorem eqI_ok {eq : TypeId → T → T → Option Bool} {d : Nat} (he : ∀ t a b va vb r, eq t a b = some r → TV w I m L a va → TV w I m L b vb → (Op.equalIn d t va vb).run P w = .ok r w) {xs ys : List T} {vx vy : Array Value}
    (hx : TVs w I m L xs vx.toList) (hy : TVs w I m L ys vy.toList) {e : TypeId} {s : Nat} : ∀ (n i : Nat) (r : Bool), eqI eq P e s xs ys n i = some r → (Op.eqItems d e s vx vy (List.range' i n)).run P w = .ok r w := by
  intro n
  induction n with
  | zero => intro i r h; cases h; rfl
  | succ n ih =>
    intro i r h
    simp only [eqI] at h
    rw [List.range'_succ]
    simp only [Op.eqItems]
    split at h
    · rename_i a b e1 e2
      obtain ⟨x, y, h1, h2, rfl⟩ := both_some h
      obtain ⟨va, p1, p2⟩ := partT_ok (P := P) e1 hx
      obtain ⟨vb, q1, q2⟩ := partT_ok (P := P) e2 hy
      simp only [Sem.run_bind, p1, q1, he _ _ _ _ _ _ h1 p2 q2, Result.andThen_ok]
      cases x
      · rfl
      · simp only [Bool.not_true, Bool.false_eq_true, if_false, Bool.true_and]; exact ih _ _ h2
    · cases h
theorem nilTwo_some {z : T → Bool} {f : T → Option Bool} {a b : T} {r : Bool} (h : nilTwo z f a b = some r) : (z a = true ∧ f b = some r) ∨ (z b = true ∧ f a = some r) := by
  unfold nilTwo at h
  cases e : z a <;> rw [e] at h
  · cases e2 : z b <;> rw [e2] at h
    · cases h
    · exact .inr ⟨rfl, h⟩
  · exact .inl ⟨rfl, h⟩
theorem zS_eq {t : T} (h : zS t = true) : t = .v (.slice none 0 0) := by
  unfold zS at h; split at h
  · rfl
  · cases h
theorem zF_eq {t : T} (h : zF t = true) : t = .v .nilFunc := by
  unfold zF at h; split at h
  · rfl
  · cases h
theorem zP_eq {t : T} (h : zP t = true) : t = .v (.pointer none) := by
  unfold zP at h; split at h
  · rfl
  · cases h
theorem eqT_ok {eqs : List Nat} (hq : ∀ t, hasN eqs t = true → P.stoodInHeld t = false) (D : Nat) : ∀ (d : Nat) (t : TypeId) (a b : T) (va vb : Value) (r : Bool), eqT P eqs d t a b = some r → TV w I m L a va → TV w I m L b vb → (Op.equalIn (d + D) t va vb).run P w = .ok r w := by
  intro d
  induction d with
  | zero => intro t a b va vb r h; cases h
  | succ d ih =>
    intro t a b va vb r h ha hb
    rw [Nat.add_right_comm]
    simp only [eqT] at h
    split at h
    · rename_i k e
      split at h
      · obtain ⟨rfl, -⟩ := ha.v_inv; obtain ⟨rfl, -⟩ := hb.v_inv
        split at h
        · rename_i hk; subst hk; cases h; exact run_equalIn_int w _ _ _ _ _ _ e
        · cases h
      · cases h
    · rename_i e
      split at h
      · obtain ⟨rfl, -⟩ := ha.v_inv; obtain ⟨rfl, -⟩ := hb.v_inv
        cases h; exact Go.run_equalIn_bool w _ _ _ _ e
      · cases h
    · rename_i fs e
      split at h
      · obtain ⟨vx, rfl, hx⟩ := ha.agg_inv; obtain ⟨vy, rfl, hy⟩ := hb.agg_inv
        cases hst' : hasN eqs t with
        | false => rw [hst'] at h; cases h
        | true =>
          have hst := hq t hst'
          rw [hst'] at h
          have hf : P.fieldsOf t = fs := by unfold Program.fieldsOf; rw [e]
          rw [run_equalIn_struct w _ _ _ _ (by rw [hf]; exact e) hst, hf]
          exact eqF_ok (fun t a b va vb r h1 h2 h3 => ih t a b va vb r h1 h2 h3) hx hy _ _ h
      · cases h
    · rename_i n el e
      split at h
      · rename_i xs ys s e2
        obtain ⟨vx, rfl, hx⟩ := ha.agg_inv; obtain ⟨vy, rfl, hy⟩ := hb.agg_inv
        obtain ⟨i, hi, hs⟩ : ∃ i, P.info? el = some i ∧ i.size = s := by
          unfold sz? at e2
          cases e3 : P.info? el with
          | none => rw [e3] at e2; cases e2
          | some i => rw [e3] at e2; simp only [someN_eq] at e2; cases e2; exact ⟨i, rfl, rfl⟩
        rw [run_equalIn_array w _ _ _ e hi]
        have hc : P.cellsOf el = s := by unfold Program.cellsOf; rw [hi]; exact hs
        rw [hc, List.range_eq_range']
        exact eqI_ok (fun t a b va vb r h1 h2 h3 => ih t a b va vb r h1 h2 h3) hx hy _ _ _ h
      · cases h
    · rename_i el e
      rcases nilTwo_some h with ⟨hz, h⟩ | ⟨hz, h⟩
      · rw [zS_eq hz] at ha
        obtain ⟨rfl, -⟩ := ha.v_inv
        obtain ⟨x, n, c, rfl, rfl, -⟩ := nilS_ok h hb
        simp [Op.equalIn, run_underlying, e]
      · rw [zS_eq hz] at hb
        obtain ⟨rfl, -⟩ := hb.v_inv
        obtain ⟨x, n, c, rfl, rfl, -⟩ := nilS_ok h ha
        cases x <;> simp [Op.equalIn, run_underlying, e]
    · rename_i e
      rcases nilTwo_some h with ⟨hz, h⟩ | ⟨hz, h⟩
      · rw [zF_eq hz] at ha
        obtain ⟨rfl, -⟩ := ha.v_inv
        rcases nilF_ok h hb with ⟨rfl, rfl⟩ | ⟨rfl, f, x, y, rfl⟩ <;> simp [Op.equalIn, run_underlying, e]
      · rw [zF_eq hz] at hb
        obtain ⟨rfl, -⟩ := hb.v_inv
        rcases nilF_ok h ha with ⟨rfl, rfl⟩ | ⟨rfl, f, x, y, rfl⟩ <;> simp [Op.equalIn, run_underlying, e]
    · rename_i e
      rcases nilTwo_some h with ⟨hz, h⟩ | ⟨hz, h⟩
      · rw [zP_eq hz] at ha
        obtain ⟨rfl, -⟩ := ha.v_inv
        obtain ⟨x, rfl, rfl⟩ := nilP_ok h hb
        simp [Op.equalIn, run_underlying, e]
      · rw [zP_eq hz] at hb
        obtain ⟨rfl, -⟩ := hb.v_inv
        obtain ⟨x, rfl, rfl⟩ := nilP_ok h ha
        cases x <;> simp [Op.equalIn, run_underlying, e]
    · cases h
theorem allL_iff {α : Type} {f : α → Bool} {l : List α} (h : allL f l = true) : ∀ a ∈ l, f a = true := by
  induction l with
  | nil => simp
  | cons a l ih =>
    simp only [allL] at h
    split at h
    · rename_i e; intro b hb; rcases List.mem_cons.1 hb with rfl | hb
      · exact e
      · exact ih h b hb
    · cases h
theorem noGuard_ok : ∀ (d : Nat) (t : TypeId), noGuard P d t = true → ∀ D, d ≤ D → P.eqGuardType D t = false := by
  intro d
  induction d with
  | zero => intro t h; cases h
  | succ d ih =>
    intro t h D hD
    obtain ⟨D, rfl⟩ : ∃ D', D = D' + 1 := ⟨D - 1, by omega⟩
    unfold noGuard at h
    unfold Program.eqGuardType
    split at h
    · cases h
    · rename_i fs e
      rw [e]
      simp only
      rw [← Bool.not_eq_true, Array.any_eq_true]
      rintro ⟨i, hi, hf⟩
      have := ih _ (allL_iff h fs[i] (by simp)) D (by omega)
      rw [this] at hf
      simp at hf
    · rename_i e; rw [e]; exact ih _ h D (by omega)
    · rename_i x h1 h2 h3
      split
      · exact absurd (by assumption) (h1 _)
      · exact absurd (by assumption) (h2 _)
      · exact absurd (by assumption) (h3 _ _)
      · rfl
theorem binE_ok {eqs : List Nat} (hq : ∀ t, hasN eqs t = true → P.stoodInHeld t = false) {op : BinOp} {t : TypeId} {x y : Operand} {a b : T} {va vb : Value} {o : Out}
    (h : (bif isAggT a && !(noGuard P 12 t && Nat.ble 12 P.depth) then none else match op, eqT P eqs 12 t a b with
      | .eql, some r => outV (.bool r)
      | .neq, some r => outV (.bool (!r))
      | _, _ => none) = some o) (hn1 : ∀ k x k' y, a = .v (.int k x) → b = .v (.int k' y) → False) (hn2 : ∀ x y, a = .v (.bool x) → b = .v (.bool y) → False) (ha : TV w I m L a va) (hb : TV w I m L b vb) :
    PureOk P (do eqGuard op t x y va vb; binOp op t va vb) w I m L o := by
  cases hg : (isAggT a && !(noGuard P 12 t && Nat.ble 12 P.depth)) with
  | true => rw [hg] at h; cases h
  | false =>
    rw [hg] at h
    simp only [cond_false] at h
    cases he : eqT P eqs 12 t a b with
    | none => rw [he] at h; cases op <;> cases h
    | some r =>
      rw [he] at h
      have hr := eqT_ok (P := P) (w := w) (I := I) (m := m) (L := L) hq 9988 12 t a b va vb r he ha hb
      have hsh : (∃ p q, va = .agg p ∧ vb = .agg q ∧ isAggT a = true) ∨ (∃ p1 p2 p3 q1 q2 q3, va = .slice p1 p2 p3 ∧ vb = .slice q1 q2 q3) ∨ (∃ p q, va = .pointer p ∧ vb = .pointer q) ∨
          ((va = .nilFunc ∨ ∃ p1 p2 p3, va = .func p1 p2 p3) ∧ (vb = .nilFunc ∨ ∃ p1 p2 p3, vb = .func p1 p2 p3)) := by
        simp only [eqT] at he
        split at he
        · cases he
        · cases he
        · split at he
          · obtain ⟨vx, rfl, hx⟩ := ha.agg_inv; obtain ⟨vy, rfl, hy⟩ := hb.agg_inv
            exact .inl ⟨_, _, rfl, rfl, rfl⟩
          · cases he
        · split at he
          · obtain ⟨vx, rfl, hx⟩ := ha.agg_inv; obtain ⟨vy, rfl, hy⟩ := hb.agg_inv
            exact .inl ⟨_, _, rfl, rfl, rfl⟩
          · cases he
        · rcases nilTwo_some he with ⟨hz, he⟩ | ⟨hz, he⟩
          · rw [zS_eq hz] at ha
            obtain ⟨rfl, -⟩ := ha.v_inv
            obtain ⟨x, n, c, rfl, -, -⟩ := nilS_ok he hb
            exact .inr (.inl ⟨_, _, _, _, _, _, rfl, rfl⟩)
          · rw [zS_eq hz] at hb
            obtain ⟨rfl, -⟩ := hb.v_inv
            obtain ⟨x, n, c, rfl, -, -⟩ := nilS_ok he ha
            exact .inr (.inl ⟨_, _, _, _, _, _, rfl, rfl⟩)
        · rcases nilTwo_some he with ⟨hz, he⟩ | ⟨hz, he⟩
          · rw [zF_eq hz] at ha
            obtain ⟨rfl, -⟩ := ha.v_inv
            refine .inr (.inr (.inr ⟨.inl rfl, ?_⟩))
            rcases nilF_ok he hb with ⟨-, rfl⟩ | ⟨-, f, x, y, rfl⟩
            · exact .inl rfl
            · exact .inr ⟨_, _, _, rfl⟩
          · rw [zF_eq hz] at hb
            obtain ⟨rfl, -⟩ := hb.v_inv
            refine .inr (.inr (.inr ⟨?_, .inl rfl⟩))
            rcases nilF_ok he ha with ⟨-, rfl⟩ | ⟨-, f, x, y, rfl⟩
            · exact .inl rfl
            · exact .inr ⟨_, _, _, rfl⟩
        · rcases nilTwo_some he with ⟨hz, he⟩ | ⟨hz, he⟩
          · rw [zP_eq hz] at ha
            obtain ⟨rfl, -⟩ := ha.v_inv
            obtain ⟨x, rfl, -⟩ := nilP_ok he hb
            exact .inr (.inr (.inl ⟨_, _, rfl, rfl⟩))
          · rw [zP_eq hz] at hb
            obtain ⟨rfl, -⟩ := hb.v_inv
            obtain ⟨x, rfl, -⟩ := nilP_ok he ha
            exact .inr (.inr (.inl ⟨_, _, rfl, rfl⟩))
        · cases he
      have hguard : (eqGuard op t x y va vb).run P w = .ok () w := by
        rcases hsh with ⟨p, q, rfl, rfl, e⟩ | ⟨_, _, _, _, _, _, rfl, rfl⟩ | ⟨_, _, rfl, rfl⟩ | ⟨rfl | ⟨_, _, _, rfl⟩, rfl | ⟨_, _, _, rfl⟩⟩
        · rw [e, Bool.true_and, Bool.not_eq_false', Bool.and_eq_true, Nat.ble_eq] at hg; exact run_eqGuard_agg w op t x y p q (noGuard_ok 12 t hg.1 _ hg.2)
        all_goals (unfold eqGuard; cases op <;> rfl)
      have hbe : op = .eql ∨ op = .neq := by cases op <;> first | exact .inl rfl | exact .inr rfl | cases h
      have hrun : (op = .eql → (binOp op t va vb).run P w = .ok (.bool r) w) ∧ (op = .neq → (binOp op t va vb).run P w = .ok (.bool (!r)) w) := by
        have hr' : (Op.equal t va vb).run P w = .ok r w := hr
        constructor
        · rintro rfl
          have : binOp .eql t va vb = (do pure (.bool (← Op.equal t va vb))) := by
            rcases hsh with ⟨p, q, rfl, rfl, e⟩ | ⟨_, _, _, _, _, _, rfl, rfl⟩ | ⟨_, _, rfl, rfl⟩ | ⟨rfl | ⟨_, _, _, rfl⟩, rfl | ⟨_, _, _, rfl⟩⟩ <;> rfl
          rw [this]; simp only [Sem.run_bind, hr', Result.andThen_ok]; rfl
        · rintro rfl
          have : binOp .neq t va vb = (do pure (.bool (!(← Op.equal t va vb)))) := by
            rcases hsh with ⟨p, q, rfl, rfl, e⟩ | ⟨_, _, _, _, _, _, rfl, rfl⟩ | ⟨_, _, rfl, rfl⟩ | ⟨rfl | ⟨_, _, _, rfl⟩, rfl | ⟨_, _, _, rfl⟩⟩ <;> rfl
          rw [this]; simp only [Sem.run_bind, hr', Result.andThen_ok]; rfl
      rcases hbe with rfl | rfl
      · exact pureV h rfl (by rw [Sem.run_bind, hguard, Result.andThen_ok, hrun.1 rfl])
      · exact pureV h rfl (by rw [Sem.run_bind, hguard, Result.andThen_ok, hrun.2 rfl])
theorem binT_ok {eqs : List Nat} (hq : ∀ t, hasN eqs t = true → P.stoodInHeld t = false) {op : BinOp} {t : TypeId} {x y : Operand} {a b : T} {va vb : Value} {o : Out} (h : binT P eqs op t a b = some o) (ho : o.ok) (ha : TV w I m L a va) (hb : TV w I m L b vb) :
    PureOk P (do eqGuard op t x y va vb; binOp op t va vb) w I m L o := by
  unfold binT at h
  split at h
  · obtain ⟨rfl, -⟩ := ha.v_inv; obtain ⟨rfl, -⟩ := hb.v_inv
    rename_i k p k' q
    split at h
    · exact pureC h ho fun hq => ⟨_, by simp [eqGuard_int, binOp, Op.shift, show ¬ q < 0 by omega], .v rfl⟩
    · exact pureC h ho fun hq => ⟨_, by simp [eqGuard_int, binOp, Op.shift, show ¬ q < 0 by omega], .v rfl⟩
    · split at h
      · rename_i e; subst e
        obtain ⟨v, h1, h2, h3⟩ := ari_ok (t := t) (w := w) (P := P) (I := I) (m := m) (L := L) h ho
        exact ⟨v, by simp [eqGuard_int, h1], h2, h3⟩
      · cases h
  · obtain ⟨rfl, -⟩ := ha.v_inv; obtain ⟨rfl, -⟩ := hb.v_inv
    split at h
    · rename_i e; exact pureV h rfl (by rw [Sem.run_bind, eqGuard_bool, Result.andThen_ok, (run_binOp_bool e).1 rfl])
    · rename_i e; exact pureV h rfl (by rw [Sem.run_bind, eqGuard_bool, Result.andThen_ok, (run_binOp_bool e).2 rfl])
    · cases h
  · rename_i hn1 hn2
    exact binE_ok hq h (fun k x k' y e1 e2 => hn1 _ _ _ _ e1 e2) (fun x y e1 e2 => hn2 _ _ e1 e2) ha hb

theorem nilAny_run {t el : TypeId} (e : P.underlying t = some (.slice el)) (x y : Operand) (a : Option Addr) (n c : Nat) :
    (do eqGuard .eql t x y (.slice a n c) (.slice none 0 0); binOp .eql t (.slice a n c) (.slice none 0 0)).run P w = .ok (.bool a.isNone) w ∧
    (do eqGuard .neq t x y (.slice a n c) (.slice none 0 0); binOp .neq t (.slice a n c) (.slice none 0 0)).run P w = .ok (.bool (!a.isNone)) w := by
  have hr : (Op.equal t (.slice a n c) (.slice none 0 0)).run P w = .ok a.isNone w := by
    have : ∀ d, (Op.equalIn (d + 1) t (.slice a n c) (.slice none 0 0)).run P w = .ok a.isNone w := by
      intro d; cases a <;> simp [Op.equalIn, run_underlying, e]
    exact this 9999
  have hg : ∀ op, (eqGuard op t x y (.slice a n c) (.slice none 0 0)).run P w = .ok () w := by intro op; unfold eqGuard; cases op <;> rfl
  have h1 : binOp .eql t (.slice a n c) (.slice none 0 0) = (do pure (.bool (← Op.equal t (.slice a n c) (.slice none 0 0)))) := rfl
  have h2 : binOp .neq t (.slice a n c) (.slice none 0 0) = (do pure (.bool (!(← Op.equal t (.slice a n c) (.slice none 0 0))))) := rfl
  constructor
  · rw [Sem.run_bind, hg, Result.andThen_ok, h1]; simp only [Sem.run_bind, hr, Result.andThen_ok]; rfl
  · rw [Sem.run_bind, hg, Result.andThen_ok, h2]; simp only [Sem.run_bind, hr, Result.andThen_ok]; rfl

theorem fieldT_ok {t : TypeId} {x : T} {f : Nat} {vx : Value} {o : Out} (h : fieldT P t x f = some o) (hx : TV w I m L x vx) : PureOk P (Instr.field t vx f) w I m L o := by
  unfold fieldT at h
  split at h
  · rename_i fs cs e
    split at h
    · rename_i fd e2
      split at h
      · rename_i r e3
        obtain ⟨vs, rfl, hv⟩ := hx.agg_inv
        obtain ⟨v, h1, h2⟩ := partT_ok (w := w) (P := P) e3 hv
        exact pureO h ⟨v, by simp [Instr.field, run_underlying, e, e2, asAgg, h1], h2⟩
      · cases h
    · cases h
  · cases h
theorem extractT_ok {x : T} {i : Nat} {vx : Value} {o : Out} (h : extractT x i = some o) (hx : TV w I m L x vx) : PureOk P (Instr.extract vx i) w I m L o := by
  unfold extractT at h
  split at h
  · split at h
    · rename_i e
      obtain ⟨vs, rfl, hv⟩ := hx.tup_inv
      obtain ⟨v, h1, h2⟩ := hv.get e
      have h1' : vs[i]? = some v := by simpa using h1
      exact pureO h ⟨v, by simp [Instr.extract, h1'], h2⟩
    · cases h
  · cases h

theorem ints_inv {cs : List T} {ks : List IntKind} {xs : List Int} {vs : List Value} (h : ints? cs = some (ks, xs)) (hv : TVs w I m L cs vs) :
    ks.length = xs.length ∧ vs.length = xs.length ∧ ∀ (i : Nat) (x : Int), xs[i]? = some x → ∃ k : IntKind, ks[i]? = some k ∧ vs[i]? = some (Value.int k x) := by
  induction cs generalizing ks xs vs with
  | nil => cases h; cases hv; exact ⟨rfl, rfl, fun i x hx => by simp at hx⟩
  | cons c cs ih =>
    cases hv with
    | cons hc hr =>
      rename_i v vs
      unfold ints? at h
      split at h
      · rename_i e; cases e
      · rename_i k x r e
        cases e
        obtain ⟨rfl, -⟩ := hc.v_inv
        split at h
        · rename_i ks' xs' e2
          cases h
          obtain ⟨h1, h2, h3⟩ := ih e2 hr
          refine ⟨by simp [h1], by simp [h2], fun i y hy => ?_⟩
          cases i with
          | zero => simp at hy; subst hy; exact ⟨k, rfl, rfl⟩
          | succ i => simp at hy; obtain ⟨k', a, b⟩ := h3 i y hy; exact ⟨k', by simpa using a, by simpa using b⟩
        · cases h
      · cases h

theorem ints_list {cs : List T} : ∀ {ks : List IntKind} {xs : List Int}, ints? cs = some (ks, xs) → cs.length = xs.length ∧ ks.length = xs.length ∧ ∀ (j : Nat), j < xs.length → ∃ k, ks[j]? = some k ∧ cs[j]? = some (.v (.int k (xs.getD j 0))) := by
  induction cs with
  | nil => intro ks xs h; cases h; exact ⟨rfl, rfl, fun j hj => by simp at hj⟩
  | cons c cs ih =>
    intro ks xs h
    unfold ints? at h
    split at h
    · rename_i e; cases e
    · rename_i k x r e
      cases e
      split at h
      · rename_i ks' xs' e2
        cases h
        obtain ⟨h1, h2, h3⟩ := ih e2
        refine ⟨by simp [h1], by simp [h2], fun j hj => ?_⟩
        cases j with
        | zero => exact ⟨k, rfl, rfl⟩
        | succ j => obtain ⟨q, a, b⟩ := h3 j (by simpa using hj); exact ⟨q, by simpa using a, by simpa using b⟩
      · cases h
    · cases h
theorem flatCells_get {ks : List IntKind} {xs : List Int} {b st i : Nat} : ∀ (n j q : Nat), (flatCells ks xs b st i n j)[q]? = if q < n then some (.v (.int (kat ks (b + (j + q)) st i) (xs.getD (b + i * st + (j + q)) 0))) else none := by
  intro n
  induction n with
  | zero => intro j q; simp [flatCells]
  | succ n ih =>
    intro j q
    cases q with
    | zero => simp [flatCells]
    | succ q =>
      simp only [flatCells, List.getElem?_cons_succ, ih, Nat.add_lt_add_iff_right]
      rw [show j + 1 + q = j + (q + 1) by omega]
theorem ints_flat {cs : List T} {k : IntKind} {ks : List IntKind} {xs : List Int} (h : ints? cs = some (ks, xs)) (hk : ∀ q ∈ ks, q = k) {i s : Nat} (hs : (i + 1) * s ≤ xs.length) : (cs.drop (i * s)).take s = flatCells [k] xs 0 s i s 0 := by
  obtain ⟨h1, h2, h3⟩ := ints_list h
  apply List.ext_getElem?
  intro q
  rw [flatCells_get]
  have hm : (i + 1) * s = i * s + s := by rw [Nat.add_mul, Nat.one_mul]
  by_cases hq : q < s
  · rw [if_pos hq, List.getElem?_take_of_lt hq, List.getElem?_drop]
    obtain ⟨k', a, b⟩ := h3 (i * s + q) (by omega)
    rw [b, hk k' (List.mem_of_getElem? a)]
    simp [kat]
  · rw [if_neg hq]
    exact List.getElem?_eq_none (by simp; omega)
theorem indexT_ok {t : TypeId} {x i : T} {lit : Bool} {vx vi : Value} {o : Out} (h : indexT P t x i lit = some o) (ho : o.ok) (hx : TV w I m L x vx) (hi : TV w I m L i vi) :
    PureOk P (Instr.index t vx vi) w I m L o := by
  unfold indexT at h
  split at h
  · rename_i n e cs kd q hu
    obtain ⟨rfl, -⟩ := hi.v_inv
    obtain ⟨vs, rfl, hv⟩ := hx.agg_inv
    split at h
    · cases h
    · rename_i s hs
      cases lit
      · simp only [cond_false] at h
        split at h
        · rename_i k ks xs e1 e2
          split at h
          · rename_i hk
            simp only [Bool.and_eq_true, List.all_eq_true, beq_iff_eq, Nat.beq_eq, Nat.ble_eq] at hk
            obtain ⟨⟨hk1, hk2⟩, hk3⟩ := hk
            refine pureC h ho fun hq => ?_
            obtain ⟨a1, a2, a3⟩ := ints_inv e2 hv
            have hlt : q.toNat < xs.length := by omega
            obtain ⟨k', b1, b2⟩ := a3 q.toNat _ (List.getElem?_eq_getElem hlt)
            have hkk : k' = k := hk1 k' (List.mem_of_getElem? b1)
            subst hkk
            refine ⟨_, ?_, .v rfl⟩
            have b2' : vs[q.toNat]? = some (Value.int k' (xs.getD q.toNat 0)) := by
              rw [← Array.getElem?_toList, b2, List.getD_eq_getElem?_getD, List.getElem?_eq_getElem hlt]; rfl
            simp [Instr.index, asIntOf, run_underlying, hu, hq.1, hq.2, sz_some hs, hk2, part, agg_some e1, b2']
          · cases h
        · rename_i k ks xs e1 e2
          split at h
          · rename_i hk
            simp only [Bool.and_eq_true, List.all_eq_true, beq_iff_eq, Nat.ble_eq] at hk
            obtain ⟨hk1, hk3⟩ := hk
            refine pureC h ho fun hq => ?_
            have hlt : (q.toNat + 1) * s ≤ xs.length := Nat.le_trans (Nat.mul_le_mul_right s (by omega : q.toNat + 1 ≤ n)) hk3
            have hr : partT P e cs (q.toNat * s) = some (.agg (flatCells [k] xs 0 s q.toNat s 0)) := by
              rw [← ints_flat e2 (fun q hq => hk1 q hq) hlt]
              unfold partT; rw [e1, hs]
            obtain ⟨v, h1, h2⟩ := partT_ok (w := w) (P := P) hr hv
            exact ⟨v, by simp [Instr.index, asIntOf, run_underlying, hu, hq.1, hq.2, sz_some hs, h1], h2⟩
          · cases h
        · cases h
      · simp only [cond_true] at h
        split at h
        · rename_i r hr
          refine pureC h ho fun hq => ?_
          obtain ⟨v, h1, h2⟩ := partT_ok (w := w) (P := P) hr hv
          exact ⟨v, by simp [Instr.index, asIntOf, run_underlying, hu, hq.1, hq.2, sz_some hs, h1], h2⟩
        · cases h
  · cases h
end
end Go.Proofs.Yteinekidpokbpaa.Am
