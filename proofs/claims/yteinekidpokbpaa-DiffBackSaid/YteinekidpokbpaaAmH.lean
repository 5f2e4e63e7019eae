/- append, make: as the machine says. -/
import Derived.Test.YteinekidpokbpaaAmG
namespace Go.Proofs.Yteinekidpokbpaa.Am
set_option linter.unusedVariables false
set_option linter.unusedSimpArgs false
open Go.RowKit

/-- A block's content, as cells. -/
def BC (w : World) (I : Nat → Prop) (m : Nat → Option Nat) (L : Nat → Option (Option Nat)) : Blk → List Value → Prop
  | .fl ks xs, vs => ks ≠ [] ∧ vs.length = xs.length ∧ ∀ (i : Nat) (x : Int), xs[i]? = some x → vs[i]? = some (Value.int (kc ks i) x)
  | .cs cs, vs => TVs w I m L cs vs
  | _, _ => False

section
variable {P : Program} {w0 w : World} {O : Env} {m : Nat → Option Nat} {g : Mem} {I : Nat → Prop} {L : Nat → Option (Option Nat)}

theorem BC.len {B : Blk} {vs : List Value} (h : BC w I m L B vs) : B.len? = some vs.length := by
  cases B with
  | fl ks xs => rw [Blk.len?, h.2.1]
  | cs cs => rw [Blk.len?, TVs.length h]
  | mp kk vk es => exact h.elim
  | gone => exact h.elim
  | gh id ts => exact h.elim
  | lp id l st pe n ts ps asg body => exact h.elim
theorem BC.blk {w' I' m' L'} {B : Blk} {vs : List Value} (h : BC w I m L B vs) (G : Goes w w' I I' m m' L L') {b : Nat} (hr : Room w' b vs.length) (hf : NoFrz w' b) (hc : CellsAt w' b 0 vs) : BVb O w' I' m' L' B b := by
  cases B with
  | fl ks xs => exact ⟨h.1, by rw [← h.2.1]; exact hr, hf, fun i x hx => hc i _ (h.2.2 i x hx)⟩
  | cs cs => exact ⟨vs, TVs.goes G h, hr, hf, hc⟩
  | mp kk vk es => exact h.elim
  | gone => trivial
  | gh id ts => exact h.elim
  | lp id l st pe n ts ps asg body => exact h.elim
theorem BC.goes {w' I' m' L'} {B : Blk} {vs : List Value} (G : Goes w w' I I' m m' L L') (h : BC w I m L B vs) : BC w' I' m' L' B vs := by
  cases B with
  | fl ks xs => exact h
  | cs cs => exact TVs.goes G h
  | mp kk vk es => exact h.elim
  | gone => exact h.elim
  | gh id ts => exact h.elim
  | lp id l st pe n ts ps asg body => exact h.elim
theorem kc_mod {ks : List IntKind} {a i : Nat} (h : a % ks.length = 0) : kc ks (a + i) = kc ks i := by
  unfold kc; rw [Nat.add_mod, h, Nat.zero_add, Nat.mod_mod]
theorem joinB_ok {B1 B2 B : Blk} {v1 v2 : List Value} (h : joinB B1 B2 = some B) (h1 : BC w I m L B1 v1) (h2 : BC w I m L B2 v2) (ha : ∀ ks xs, B1 = .fl ks xs → xs.length % ks.length = 0) : BC w I m L B (v1 ++ v2) := by
  unfold joinB at h
  split at h
  · cases h; cases h1; exact h2
  · cases h; cases h2; rw [List.append_nil]; exact h1
  · split at h
    · rename_i _ _ ks0 xs0 ks1 ys0 e; subst e
      cases h
      refine ⟨h1.1, by simp [h1.2.1, h2.2.1], fun i x hx => ?_⟩
      rw [List.getElem?_append] at hx ⊢
      rw [h1.2.1]
      split at hx
      · rename_i hi; rw [if_pos hi]; exact h1.2.2 i x hx
      · rename_i hi; rw [if_neg hi]
        have := h2.2.2 _ x hx
        rw [this]
        have e := kc_mod (i := i - xs0.length) (ha _ _ rfl)
        rw [← e]
        congr 3; omega
    · cases h
  · cases h; exact TVs.append h1 h2
  · cases h

theorem contT_ok (h : HR w0 w O m g) {sz n : Nat} (hz0 : 0 < sz) {x : T} {vx : Value} {B : Blk} (hc : contT g sz x = some (n, B)) (hx : TV w (Im m g) m (lens g) x vx) :
    ∃ a cap vs, vx = .slice a n cap ∧ (Builtin.firstCells sz n vx).run P w = .ok vs.toArray w ∧ vs.length = n * sz ∧ BC w (Im m g) m (lens g) B vs ∧ (∀ ks xs, B = .fl ks xs → xs.length % ks.length = 0) ∧ (n = 0 ∨ ∃ b off, a = some ⟨b, off, none⟩ ∧ CellsAt w b off vs) := by
  have load : ∀ (b off n : Nat) (vs : List Value), vs.length = n * sz → CellsAt w b off vs → (Builtin.firstCells sz n (.slice (some ⟨b, off, none⟩) n 0)).run P w = .ok vs.toArray w := by
    intro b off n vs hl hc
    have := loadCells_ok (P := P) (w := w) (a := ⟨b, off, none⟩) (vs := vs) (n * sz) (by omega) (fun i v hi => by rw [add_at]; exact hc i v hi)
    rw [List.take_of_length_le (by omega)] at this
    exact this
  have load0 : ∀ (a : Option Addr) (cap : Nat), (Builtin.firstCells sz 0 (.slice a 0 cap)).run P w = .ok ([] : List Value).toArray w := by
    intro a cap
    cases a with
    | none => rfl
    | some a => simp [Builtin.firstCells, loadCells, loadCellsFrom]
  unfold contT at hc
  split at hc
  · cases hc
    obtain ⟨rfl, -⟩ := hx.v_inv
    exact ⟨_, _, [], rfl, load0 _ _, by simp, .nil, (fun ks xs e => by cases e), .inl rfl⟩
  · rename_i ks n' xs
    split at hc
    · rename_i hk; rw [Nat.beq_eq] at hk
      cases hc
      rcases hx.fl_inv with ⟨rfl, rfl, a, cap, rfl⟩ | ⟨b, off, cap, rfl, hI, hb, hk0, hn, hcc, hp, hf⟩
      · by_cases hk0 : ks = []
        · subst hk0; simp at hk; omega
        · exact ⟨_, _, [], rfl, load0 _ _, by simp, ⟨hk0, rfl, fun i x hx => by simp at hx⟩, (fun ks xs e => by cases e; simp), .inl rfl⟩
      · let vs := (List.range xs.length).map fun i => Value.int (kc ks i) (xs.getD i 0)
        have hvl : vs.length = xs.length := by simp [vs]
        have hvg : ∀ (i : Nat) (x : Int), xs[i]? = some x → vs[i]? = some (Value.int (kc ks i) x) := by
          intro i x hx
          have hlt : i < xs.length := (List.getElem?_eq_some_iff.1 hx).1
          simp [vs, List.getElem?_range hlt, hx]
        have hca : CellsAt w b off vs := (fun i v hi => by
          have hlt : i < xs.length := by have := (List.getElem?_eq_some_iff.1 hi).1; omega
          have h1 := hvg i _ (List.getElem?_eq_getElem hlt)
          rw [hi] at h1; cases h1
          exact hf _ _ (List.getElem?_eq_getElem hlt))
        exact ⟨_, _, vs, rfl, load b off _ vs (by rw [hvl, hn, hk]) hca, by rw [hvl, hn, hk], ⟨hk0, hvl, hvg⟩, (fun ks' xs' e => by cases e; rw [hn]; exact Nat.mul_mod_left _ _), .inr ⟨_, _, rfl, hca⟩⟩
    · cases hc
  · rename_i n' s cs
    split at hc
    · rename_i hk; rw [Nat.beq_eq] at hk
      subst hk
      cases hc
      rcases hx.sl_inv with ⟨rfl, rfl, a, cap, rfl⟩ | ⟨b, off, cap, vs, rfl, hI, hb, hn, hcc, hp, hv, hf⟩
      · exact ⟨_, _, [], rfl, load0 _ _, by simp, .nil, (fun ks xs e => by cases e), .inl rfl⟩
      · exact ⟨_, _, vs, rfl, load b off _ vs (by rw [← hv.length, hn]) hf, by rw [← hv.length, hn], hv, (fun ks xs e => by cases e), .inr ⟨_, _, rfl, hf⟩⟩
    · cases hc
  · -- ow
    rename_i k s n'
    split at hc
    · rename_i hk; rw [Nat.beq_eq] at hk
      subst hk
      cases hx with
      | ow ho hl =>
        have key : ∀ (B0 : Blk) (l : Nat), g k = some B0 → B0.len? = some l → l = n' * s ∧ ((n' = 0 ∧ ∃ a, vx = .slice a 0 0) ∨ ∃ cap b, m k = some b ∧ vx = .slice (some ⟨b, 0, none⟩) n' cap ∧ BVb O w (Im m g) m (lens g) B0 b) := by
          intro B0 l e el
          have hL := lens_of e
          rw [el] at hL
          obtain ⟨hz, hle, h3⟩ := ho.os_inv hL
          refine ⟨by rcases hl with hl | hl <;> rw [hl] at hL <;> cases hL; rfl, ?_⟩
          rcases h3 with h3 | ⟨cap, b, hm, rfl, hcc, hr⟩
          · exact .inl h3
          · right
            have := h.blk k _ e
            rw [hm] at this
            exact ⟨cap, b, hm, by rw [Nat.zero_mul], this⟩
        split at hc
        · rename_i ks xs e
          split at hc
          · rename_i hks; rw [Nat.beq_eq] at hks
            cases hc
            obtain ⟨k1, k2⟩ := key _ _ e rfl
            have hbv := h.blk k _ e
            have hk0 : ks ≠ [] := by
              cases hmk : m k with
              | none => rw [hmk] at hbv; exact hbv.1
              | some b => rw [hmk] at hbv; exact hbv.1
            rcases k2 with ⟨rfl, a, rfl⟩ | ⟨cap, b, hm, rfl, hb⟩
            · have : xs = [] := List.eq_nil_of_length_eq_zero (by rw [k1]; simp)
              subst this
              exact ⟨_, _, [], rfl, load0 _ _, by simp, ⟨hk0, rfl, fun i x hx => by simp at hx⟩, (fun ks xs e => by cases e; simp), .inl rfl⟩
            · let vs := (List.range xs.length).map fun i => Value.int (kc ks i) (xs.getD i 0)
              have hvl : vs.length = xs.length := by simp [vs]
              have hvg : ∀ (i : Nat) (x : Int), xs[i]? = some x → vs[i]? = some (Value.int (kc ks i) x) := by
                intro i x hx
                have hlt : i < xs.length := (List.getElem?_eq_some_iff.1 hx).1
                simp [vs, List.getElem?_range hlt, hx]
              have hca : CellsAt w b 0 vs := (fun i v hi => by
                have hlt : i < xs.length := by have := (List.getElem?_eq_some_iff.1 hi).1; omega
                have h1 := hvg i _ (List.getElem?_eq_getElem hlt)
                rw [hi] at h1; cases h1
                exact hb.2.2.2 _ _ (List.getElem?_eq_getElem hlt))
              exact ⟨_, _, vs, rfl, load b 0 _ vs (by rw [hvl, k1]) hca, by rw [hvl, k1], ⟨hk0, hvl, hvg⟩, (fun ks' xs' e => by cases e; rw [k1, ← hks]; exact Nat.mul_mod_left _ _), .inr ⟨_, _, rfl, hca⟩⟩
          · cases hc
        · rename_i cs e
          cases hc
          obtain ⟨k1, k2⟩ := key _ _ e rfl
          rcases k2 with ⟨rfl, a, rfl⟩ | ⟨cap, b, hm, rfl, vs, hv, hr, hf, hcl⟩
          · have : cs = [] := List.eq_nil_of_length_eq_zero (by rw [k1]; simp)
            subst this
            exact ⟨_, _, [], rfl, load0 _ _, by simp, .nil, (fun ks xs e => by cases e), .inl rfl⟩
          · exact ⟨_, _, vs, rfl, load b 0 _ vs (by rw [← hv.length, k1]) hcl, by rw [← hv.length, k1], hv, (fun ks xs e => by cases e), .inr ⟨_, _, rfl, hcl⟩⟩
        · cases hc
    · cases hc
  · -- os
    rename_i k s off n'
    split at hc
    · rename_i hk; rw [Nat.beq_eq] at hk
      subst hk
      have key : ∀ (B0 : Blk) (l : Nat), g k = some B0 → B0.len? = some l → (off + n') * s ≤ l ∧ ((n' = 0 ∧ ∃ a, vx = .slice a 0 0) ∨ ∃ cap b, m k = some b ∧ vx = .slice (some ⟨b, off * s, none⟩) n' cap ∧ BVb O w (Im m g) m (lens g) B0 b) := by
        intro B0 l e el
        have hL := lens_of e
        rw [el] at hL
        obtain ⟨hz, hle, h3⟩ := hx.os_inv hL
        refine ⟨hle, ?_⟩
        rcases h3 with h3 | ⟨cap, b, hm, rfl, hcc, hr⟩
        · exact .inl h3
        · right
          have := h.blk k _ e
          rw [hm] at this
          exact ⟨cap, b, hm, rfl, this⟩
      have sub : ∀ (l : Nat), (off + n') * s ≤ l → off * s + n' * s ≤ l := by intro l hl; rwa [← Nat.add_mul]
      split at hc
      · rename_i ks xs e
        split at hc
        · rename_i hks; rw [Nat.beq_eq] at hks
          cases hc
          obtain ⟨k1, k2⟩ := key _ _ e rfl
          have k1 := sub _ k1
          have hbv := h.blk k _ e
          have hk0 : ks ≠ [] := by
            cases hmk : m k with
            | none => rw [hmk] at hbv; exact hbv.1
            | some b => rw [hmk] at hbv; exact hbv.1
          simp only [mulN_eq]
          rcases k2 with ⟨rfl, a, rfl⟩ | ⟨cap, b, hm, rfl, hb⟩
          · have : List.take (0 * s) (List.drop (off * s) xs) = [] := by simp
            rw [this]
            exact ⟨_, _, [], rfl, load0 _ _, by simp, ⟨hk0, rfl, fun i x hx => by simp at hx⟩, (fun ks xs e => by cases e; simp), .inl rfl⟩
          · let ys := List.take (n * s) (List.drop (off * s) xs)
            have hyl : ys.length = n * s := by simp [ys]; omega
            have hyg : ∀ i, i < n * s → ys[i]? = xs[off * s + i]? := by intro i hi; simp only [ys]; rw [List.getElem?_take_of_lt hi, List.getElem?_drop]
            let vs := (List.range ys.length).map fun i => Value.int (kc ks i) (ys.getD i 0)
            have hvl : vs.length = ys.length := by simp [vs]
            have hvg : ∀ (i : Nat) (x : Int), ys[i]? = some x → vs[i]? = some (Value.int (kc ks i) x) := by
              intro i x hx
              have hlt : i < ys.length := (List.getElem?_eq_some_iff.1 hx).1
              simp [vs, List.getElem?_range hlt, hx]
            have hca : CellsAt w b (off * s) vs := (fun i v hi => by
              have hlt : i < ys.length := by have := (List.getElem?_eq_some_iff.1 hi).1; omega
              have h0 := List.getElem?_eq_getElem hlt
              have h1 := hvg i _ h0
              rw [hi] at h1; cases h1
              rw [hyg i (by omega)] at h0
              have := hb.2.2.2 _ _ h0
              rw [Nat.zero_add] at this
              rw [this, kc_mod (by rw [← hks]; exact Nat.mul_mod_left _ _)])
            exact ⟨_, _, vs, rfl, load b (off * s) _ vs (by rw [hvl, hyl]) hca, by rw [hvl, hyl], ⟨hk0, hvl, hvg⟩, (fun ks' xs' e => by cases e; show ys.length % _ = 0; rw [hyl, ← hks]; exact Nat.mul_mod_left _ _), .inr ⟨_, _, rfl, hca⟩⟩
        · cases hc
      · rename_i cs e
        cases hc
        obtain ⟨k1, k2⟩ := key _ _ e rfl
        have k1 := sub _ k1
        simp only [mulN_eq]
        rcases k2 with ⟨rfl, a, rfl⟩ | ⟨cap, b, hm, rfl, vs, hv, hr, hf, hcl⟩
        · have : List.take (0 * s) (List.drop (off * s) cs) = [] := by simp
          rw [this]
          exact ⟨_, _, [], rfl, load0 _ _, by simp, .nil, (fun ks xs e => by cases e), .inl rfl⟩
        · have hvl := hv.length
          have hca : CellsAt w b (off * s) ((vs.drop (off * s)).take (n * s)) := by
            intro i v hi
            have hlt : i < n * s := by have := (List.getElem?_eq_some_iff.1 hi).1; simp at this; omega
            rw [List.getElem?_take_of_lt hlt, List.getElem?_drop] at hi
            have := hcl _ _ hi
            rwa [Nat.zero_add] at this
          exact ⟨_, _, (vs.drop (off * s)).take (n * s), rfl, load b (off * s) _ _ (by simp; omega) hca, by simp; omega, (hv.drop _).take _, (fun ks xs e => by cases e), .inr ⟨_, _, rfl, hca⟩⟩
      · cases hc
    · cases hc
  · cases hc

theorem growBy_le (n : Nat) : ∀ (r c : Nat), c < n + n + 512 → Builtin.growBy n r c < n + n + 512 := by
  intro r
  induction r with
  | zero => intro c h; exact h
  | succ r ih =>
    intro c h
    unfold Builtin.growBy
    split
    · exact h
    · exact ih _ (by omega)
theorem nextcap_le (n c : Nat) (h : c < n) : Builtin.nextslicecap n c < n + n + 512 := by
  unfold Builtin.nextslicecap
  split
  · omega
  · split
    · omega
    · exact growBy_le n 4 c (by omega)

theorem firstCells_eq {sz n : Nat} {a : Option Addr} {len cap len' cap' : Nat} : Builtin.firstCells sz n (.slice a len cap) = Builtin.firstCells sz n (.slice a len' cap') := by cases a <;> rfl

/-- append where there is no room: a new row. -/
theorem run_append_grow {t t2 e ty : TypeId} {e2 : TypeId} {sz n n2 cap cap2 : Nat} {a a2 : Option Addr} {z : Value} {by_ : Nat} {v1 v2 : List Value}
    (hu : P.underlying t = some (.slice e)) (hu2 : P.underlying t2 = some (.slice e2)) (hs : sz? P e = some sz) (hz : ∀ w', (zeroValue e).run P w' = .ok z w') (hzl : z.cells.size = sz) (hb : bytes? P e = some by_)
    (h1 : (Builtin.firstCells sz n (.slice a n cap)).run P (w.drewN 1) = .ok v1.toArray (w.drewN 1)) (h2 : (Builtin.firstCells sz n2 (.slice a2 n2 cap2)).run P (w.drewN 1) = .ok v2.toArray (w.drewN 1))
    (hl1 : v1.length = n * sz) (hl2 : v2.length = n2 * sz) (hroom : ¬ n + n2 ≤ cap) (hby : 0 < by_) (hcap : ¬ Builtin.nextslicecap (n + n2) cap * by_ > 2 ^ 48) :
    ∃ newCap rest, (Builtin.append_ #[t, t2] ty #[.slice a n cap, .slice a2 n2 cap2]).run P w = .ok (.slice (some ⟨w.heap.size, 0, none⟩) (n + n2) newCap) ((w.drewN 1).alloc (.cells ((v1 ++ v2) ++ rest).toArray e)) ∧ n + n2 ≤ newCap ∧
      ((v1 ++ v2) ++ rest).length = newCap * sz := by
  have hbi : ∃ i, P.info? e = some i ∧ i.bytes = by_ := by
    unfold bytes? at hb
    cases hi : P.info? e with
    | none => rw [hi] at hb; cases hb
    | some i => rw [hi] at hb; cases hb; exact ⟨i, rfl, rfl⟩
  obtain ⟨i, hi, hib⟩ := hbi
  let q := Question.appendCap (n + n2) cap e
  let newCap := q.cut (w.tape w.drawn q)
  have hnc : n + n2 ≤ newCap := by show _ ≤ n + n2 + _; omega
  let rest := (Builtin.zeroCells z.cells (newCap - (n + n2))).toList
  refine ⟨newCap, rest, ?_, hnc, ?_⟩
  · have hti : ∀ w', (typeInfo e).run P w' = .ok i w' := fun w' => by rw [run_typeInfo, hi]
    simp only [Builtin.append_, Sem.run_bind, run_underlying, hu, hu2, Result.andThen_ok, sz_some hs, Array.getElem?_toList, List.getElem?_toArray, List.getElem?_cons_zero, List.getElem?_cons_succ, Sem.run_pure, Builtin.lenOf, hti, hib]
    simp only [show (TypeDesc.slice e2 matches TypeDesc.int _) = false from rfl, Bool.false_eq_true, if_false, Sem.run_bind, Sem.run_pure, Result.andThen_ok, if_neg hroom, Bool.not_false, if_true]
    simp only [Sem.run_ite, Sem.run_bind, Sem.run_pure, run_choose, Question.forced, Bool.false_eq_true, if_false, Result.andThen_ok, run_askRoom, hti, hib, if_neg hcap, hz]
    have hd : ({ w with drawn := w.drawn + 1 } : World) = w.drewN 1 := rfl
    rw [if_neg (by rintro ⟨_, h | h⟩ <;> first | (cases h; done) | omega)]
    simp only [Result.andThen_ok, hd, h1, h2, hz, newRow, Sem.run_bind, run_newObj, Sem.run_pure]
    have e1 : ((v1 ++ v2) ++ rest).toArray = v1.toArray ++ v2.toArray ++ Builtin.zeroCells z.cells (newCap - (n + n2)) := by apply Array.ext'; simp [rest]
    rw [e1]
    rfl
  · simp only [rest, Builtin.zeroCells]
    simp [hl1, hl2, hzl]
    rw [← Nat.add_mul, ← Nat.add_mul]
    congr 1; omega

/-- append where there is room. -/
theorem run_append_room {t t2 e ty : TypeId} {e2 : TypeId} {sz n n2 cap cap2 : Nat} {a a2 : Option Addr} {v2 : List Value} {w' : World}
    (hu : P.underlying t = some (.slice e)) (hu2 : P.underlying t2 = some (.slice e2)) (hs : sz? P e = some sz)
    (h2 : (Builtin.firstCells sz n2 (.slice a2 n2 cap2)).run P w = .ok v2.toArray w) (hroom : n + n2 ≤ cap)
    (hst : match (motive := Option Addr → Prop) a with | some a => (storeCells (a.add (n * sz)) v2).run P w = .ok () w' | none => w' = w) :
    (Builtin.append_ #[t, t2] ty #[.slice a n cap, .slice a2 n2 cap2]).run P w = .ok (.slice a (n + n2) cap) w' := by
  simp only [Builtin.append_, Sem.run_bind, run_underlying, hu, hu2, Result.andThen_ok, sz_some hs, Array.getElem?_toList, List.getElem?_toArray, List.getElem?_cons_zero, List.getElem?_cons_succ, Sem.run_pure, Builtin.lenOf]
  simp only [show (TypeDesc.slice e2 matches TypeDesc.int _) = false from rfl, Bool.false_eq_true, if_false, Sem.run_bind, Sem.run_pure, Result.andThen_ok, if_pos hroom, Bool.not_false, if_true, h2]
  cases a with
  | none => subst hst; rfl
  | some a => simp only [Sem.run_bind, hst, Result.andThen_ok, Sem.run_pure]

theorem zero_all {t : TypeId} {z : Value} (h : (zeroValue t).run P w = .ok z w) : ∀ w', (zeroValue t).run P w' = .ok z w' := by
  intro w'
  unfold zeroValue at h ⊢
  simp only [Sem.run_bind, run_typeInfo] at h ⊢
  cases hi : P.info? t with
  | none => rw [hi] at h; cases h
  | some i =>
    rw [hi] at h
    simp only [Result.andThen_ok] at h ⊢
    cases hq : i.zero with
    | none => rw [hq] at h; cases h
    | some v => rw [hq] at h; cases h; rfl

theorem newBlkC (h : HR w0 w O m g) {k : Nat} (hk : g k = none) {B : Blk} {vs : List Value} (hv : BC w (Im m g) m (lens g) B vs) (e : TypeId) (rest : List Value) :
    let w' := w.alloc (.cells (vs ++ rest).toArray e); let g' := upd g [(k, B)]; let m' := mk1 m k (some w.heap.size)
    HR w0 w' O m' g' ∧ Goes w w' (Im m g) (Im m' g') m m' (lens g) (lens g') ∧ lens g' k = some (some vs.length) ∧ m' k = some w.heap.size ∧ Room w' w.heap.size (vs.length + rest.length) := by
  intro w' g' m'
  have hb : Below w.heap.size w w' := below_new _ _
  have G : Goes w w' (Im m g) (Im m' g') m m' (lens g) (lens g') := Goes.new h hb hk (fun q hq => by cases hq; exact Nat.le_refl _)
  have hroom : ∀ n, n ≤ vs.length + rest.length → Room w' w.heap.size n := fun n hn => room_new' _ _ _ _ (by simpa using hn)
  have hfrz : NoFrz w' w.heap.size := fun o => frozen_new' _ _ _ _
  have hcell : CellsAt w' w.heap.size 0 vs := fun i v hi => by
    have hlt : i < vs.length := (List.getElem?_eq_some_iff.1 hi).1
    rw [Nat.zero_add, cell_new']; simp [List.getElem?_append_left hlt, hi]
  refine ⟨h.newB hb hk (fun q hq => by cases hq; exact Nat.le_refl _) (hv.blk G (hroom _ (by omega)) hfrz hcell), G, ?_, if_pos rfl, hroom _ (Nat.le_refl _)⟩
  rw [lens_upd, if_pos rfl, hv.len]

/-- A key is let go. -/
theorem Goes.drop (h : HR w0 w O m g) (k : Nat) : Goes w w (Im m g) (Im m (upd g [(k, .gone)])) m m (lens g) (lens (upd g [(k, .gone)])) := by
  refine ⟨⟨fun c hc hI ho => ?_, Nat.le_refl _, fun _ _ _ _ => rfl, fun j s hs => ?_, fun _ _ hr => hr⟩, fun _ _ ho _ => ho⟩
  · obtain ⟨j, l, hj, e⟩ := ho
    rw [lens_upd] at hj
    by_cases hkj : k = j
    · rw [if_pos hkj] at hj; cases hj
    · rw [if_neg hkj] at hj; exact hI ⟨j, l, hj, e⟩
  · rw [lens_upd]
    by_cases hkj : k = j
    · rw [if_pos hkj]; exact .inl rfl
    · rw [if_neg hkj]
      cases s with
      | none => exact .inl hs
      | some l => exact .inr ⟨l, rfl, hs, rfl⟩
theorem HR.drop (h : HR w0 w O m g) (k : Nat) : HR w0 w O m (upd g [(k, .gone)]) := by
  have hlen : ∀ j s, lens (upd g [(k, .gone)]) j = some (some s) → lens g j = some (some s) := fun j s hj => by
    rw [lens_upd] at hj
    by_cases hkj : k = j
    · rw [if_pos hkj] at hj; cases hj
    · rwa [if_neg hkj] at hj
  refine h.change h.fr (Goes.drop h k) (fun j c hj => ?_) (fun j j' l l' n hj hj' => h.inj _ _ _ _ _ (hlen _ _ hj) (hlen _ _ hj')) (fun j l n hj => h.new _ _ _ (hlen _ _ hj))
  rw [upd_one] at hj
  by_cases hkj : k = j
  · rw [if_pos hkj] at hj; cases hj; right; cases m j <;> trivial
  · rw [if_neg hkj] at hj; left; exact ⟨hj, fun l hl => ⟨rfl, fun n hn => ⟨fun _ => rfl, fun _ => rfl, fun _ hr => hr, rfl⟩⟩⟩
theorem Goes.trans {w1 w2 w3 : World} {I1 I2 I3 : Nat → Prop} {m1 m2 m3 : Nat → Option Nat} {L1 L2 L3 : Nat → Option (Option Nat)} (h : Goes w1 w2 I1 I2 m1 m2 L1 L2) (k : Goes w2 w3 I2 I3 m2 m3 L2 L3) : Goes w1 w3 I1 I3 m1 m3 L1 L3 := by
  refine ⟨⟨fun b hb hI => k.imm b (Nat.lt_of_lt_of_le hb h.size) (h.imm b hb hI), Nat.le_trans h.size k.size, fun b o hb hI => (k.cell b o (Nat.lt_of_lt_of_le hb h.size) (h.imm b hb hI)).trans (h.cell b o hb hI), fun j s hs => ?_, fun b n hr => k.room _ _ (h.room _ _ hr)⟩, fun b o ho hod => k.odd b o (h.odd b o ho hod) hod⟩
  · rcases h.own j s hs with e | ⟨l, rfl, e, em⟩
    · rcases k.own j _ e with e' | ⟨l, e', _⟩
      · exact .inl e'
      · cases e'
    · rcases k.own j _ e with e' | ⟨l', e', e2, em'⟩
      · exact .inl e'
      · cases e'; exact .inr ⟨l, rfl, e2, em'.trans em⟩

theorem upd_two (g : Mem) (a b : Nat × Blk) : upd g [a, b] = upd (upd g [b]) [a] := by
  funext k; obtain ⟨j, x⟩ := a; obtain ⟨i, y⟩ := b; simp [upd]


/-- A block changes its name, and is written. -/
theorem moveB {w' : World} (h : HR w0 w O m g) {k key b l l' : Nat} (hk : g key = none) (hl : lens g k = some (some l)) (hm : m k = some b) (ob : OnlyB w w' b) {B : Blk} (hB : B.len? = some l')
    (hv : ∀ (G : Goes w w' (Im m g) (Im (mk1 m key (some b)) (upd g [(key, B), (k, .gone)])) m (mk1 m key (some b)) (lens g) (lens (upd g [(key, B), (k, .gone)]))),
      BVb O w' (Im (mk1 m key (some b)) (upd g [(key, B), (k, .gone)])) (mk1 m key (some b)) (lens (upd g [(key, B), (k, .gone)])) B b) :
    HR w0 w' O (mk1 m key (some b)) (upd g [(key, B), (k, .gone)]) ∧ Goes w w' (Im m g) (Im (mk1 m key (some b)) (upd g [(key, B), (k, .gone)])) m (mk1 m key (some b)) (lens g) (lens (upd g [(key, B), (k, .gone)])) ∧
      lens (upd g [(key, B), (k, .gone)]) key = some (some l') ∧ mk1 m key (some b) key = some b := by
  have hne : key ≠ k := fun e => by subst e; unfold lens at hl; rw [hk] at hl; cases hl
  have hL : ∀ j, lens (upd g [(key, B), (k, .gone)]) j = if key = j then some (some l') else if k = j then some none else lens g j := by
    intro j
    rw [upd_two, lens_upd, lens_upd, hB]; rfl
  have hG : ∀ j, upd g [(key, B), (k, .gone)] j = if key = j then some B else if k = j then some .gone else g j := by
    intro j; rw [upd_two, upd_one, upd_one]
  have G : Goes w w' (Im m g) (Im (mk1 m key (some b)) (upd g [(key, B), (k, .gone)])) m (mk1 m key (some b)) (lens g) (lens (upd g [(key, B), (k, .gone)])) := by
    refine ⟨⟨fun c hc hI ho => ?_, Nat.le_of_eq ob.size.symm, fun c o hc hI => (SameB.of_block (ob.block c (fun e => hI ⟨k, l, hl, e ▸ hm⟩))).cell o, fun j s hs => ?_, fun q n hr => ?_⟩, fun c o ho hod => (ob.block c (fun e => ?_)).trans ho⟩
    · obtain ⟨j, l2, hj, e⟩ := ho
      rw [hL] at hj
      unfold mk1 at e
      by_cases h1 : key = j
      · rw [if_pos h1] at e; cases e; exact hI ⟨k, l, hl, hm⟩
      · rw [if_neg h1] at hj e
        by_cases h2 : k = j
        · rw [if_pos h2] at hj; cases hj
        · rw [if_neg h2] at hj; exact hI ⟨j, l2, hj, e⟩
    · have h1 : key ≠ j := fun e => by subst e; unfold lens at hs; rw [hk] at hs; cases hs
      rw [hL, if_neg h1]
      by_cases h2 : k = j
      · rw [if_pos h2]; exact .inl rfl
      · rw [if_neg h2]
        cases s with
        | none => exact .inl hs
        | some l => exact .inr ⟨l, rfl, hs, if_neg h1⟩
    · by_cases e : q = b
      · subst e; exact ob.room _ hr
      · exact (SameB.of_block (ob.block _ e)).room _ hr
    · subst e
      obtain ⟨b0, e1, e2⟩ := lens_some hl
      have hv0 := h.blk k b0 e1
      rw [hm] at hv0
      rw [(BVb.room hv0 e2).not_odd ho] at hod; cases hod
  have hlen : ∀ j s q, lens (upd g [(key, B), (k, .gone)]) j = some (some s) → mk1 m key (some b) j = some q → (key = j ∧ q = b) ∨ (key ≠ j ∧ k ≠ j ∧ lens g j = some (some s) ∧ m j = some q) := by
    intro j s q hj hq
    rw [hL] at hj
    unfold mk1 at hq
    by_cases h1 : key = j
    · rw [if_pos h1] at hq; cases hq; exact .inl ⟨h1, rfl⟩
    · rw [if_neg h1] at hj hq
      by_cases h2 : k = j
      · rw [if_pos h2] at hj; cases hj
      · rw [if_neg h2] at hj; exact .inr ⟨h1, h2, hj, hq⟩
  refine ⟨h.change ⟨ob.os.trans h.fr.os, ob.tape.trans h.fr.tape, ob.output.trans h.fr.output, by rw [ob.size]; exact h.fr.size, fun c hc ho => ?_⟩ G (fun j c hj => ?_) (fun j j' s s' q hj hj' e e' => ?_) (fun j s q hj hq => ?_), G, by rw [hL, if_pos rfl], if_pos rfl⟩
  · refine (ob.block c (fun e => ?_)).trans (h.fr.block c hc ho)
    rcases h.new _ _ _ hl hm with h1 | h1
    · omega
    · exact ho (e ▸ h1)
  · rw [hG] at hj
    by_cases h1 : key = j
    · subst h1; rw [if_pos rfl] at hj; cases hj; right; unfold mk1; rw [if_pos rfl]; exact hv G
    · rw [if_neg h1] at hj
      by_cases h2 : k = j
      · rw [if_pos h2] at hj; cases hj; right; cases mk1 m key (some b) j <;> trivial
      · rw [if_neg h2] at hj
        left; refine ⟨hj, fun s hs => ⟨if_neg h1, fun q hq => SameB.of_block (ob.block _ (fun e => h2 ?_))⟩⟩
        subst e
        exact (h.inj _ _ _ _ _ (by rw [lens_of hj, hs]) hl hq hm).symm
  · rcases hlen _ _ _ hj e with ⟨h1, h2⟩ | ⟨h1, h2, h3, h4⟩ <;> rcases hlen _ _ _ hj' e' with ⟨k1, k2⟩ | ⟨k1, k2, k3, k4⟩
    · omega
    · subst h2; exact absurd (h.inj _ _ _ _ _ hl k3 hm k4) k2
    · subst k2; exact absurd (h.inj _ _ _ _ _ hl h3 hm h4) h2
    · exact h.inj _ _ _ _ _ h3 k3 h4 k4
  · rcases hlen _ _ _ hj hq with ⟨h1, h2⟩ | ⟨h1, h2, h3, h4⟩
    · subst h2; exact h.new _ _ _ hl hm
    · exact h.new _ _ _ h3 h4

theorem BC.none {B : Blk} {vs : List Value} (h : BC w I m L B vs) (h0 : vs.length = 0) {I' m' L'} {w' : World} : BV O w' I' m' L' B none := by
  cases B with
  | fl ks xs => exact ⟨h.1, List.eq_nil_of_length_eq_zero (by rw [← h.2.1, h0])⟩
  | cs cs => exact List.eq_nil_of_length_eq_zero (by rw [TVs.length h, h0])
  | mp kk vk es => exact h.elim
  | gone => trivial
  | gh id ts => exact h.elim
  | lp id l st pe n ts ps asg body => exact h.elim

theorem cellB_one {B : Blk} {vs : List Value} (h : BC w I m L B vs) (hc : cellB B = true) : ∀ v ∈ vs, v.oneCell' = true := by
  intro v hv
  obtain ⟨i, hi⟩ := List.getElem?_of_mem hv
  cases B with
  | fl ks xs =>
    have hlt : i < xs.length := by have := (List.getElem?_eq_some_iff.1 hi).1; rw [h.2.1] at this; exact this
    have := h.2.2 i _ (List.getElem?_eq_getElem hlt)
    rw [hi] at this; cases this; rfl
  | cs cs =>
    obtain ⟨t, h1, h2⟩ := TVs.get' h hi
    exact cell_one h2 (List.all_eq_true.1 hc t (List.mem_of_getElem? h1))
  | mp kk vk es => exact h.elim
  | gone => exact h.elim
  | gh id ts => exact h.elim
  | lp id l st pe n ts ps asg body => exact h.elim

set_option maxHeartbeats 1000000 in
theorem append_own (h : HR w0 w O m g) {key : Nat} (hk : g key = none) {t t2 ty e e2 : TypeId} {sz by_ n2 cap2 : Nat} {z : Value} {s x : T} {vs : Value} {a2 : Option Addr} {B2 : Blk}
    (hu : P.underlying t = some (.slice e)) (hu2 : P.underlying t2 = some (.slice e2)) (hsz : sz? P e = some (sz + 1)) (hby : bytes? P e = some by_) (hby64 : by_ ≤ 64) (hby1 : 1 ≤ by_)
    (z1 : (zeroValue e).run P w = .ok z w) (hzs : z.cells.size = sz + 1) (hcx : contT g (sz + 1) x = some (n2, B2)) (hcell : cellB B2 = true) (hs : TV w (Im m g) m (lens g) s vs) (hx : TV w (Im m g) m (lens g) x (.slice a2 n2 cap2))
    {k n : Nat} {B1 B : Blk} (hos : ∀ I', TV w I' m (lens g) s vs → TV w I' m (lens g) (.os k (sz + 1) 0 n) vs) (hal : ∃ l, lens g k = some (some l)) (hc1 : contT g (sz + 1) s = some (n, B1)) (hj : joinB B1 B2 = some B)
    (hn : n + n2 ≤ 1099511627776) : StepOk P (Builtin.append_ #[t, t2] ty #[vs, .slice a2 n2 cap2]) w0 w O m g ⟨some (n + n2 ≤ 1099511627776), .ow key (sz + 1) (n + n2), [(key, B), (k, .gone)]⟩ := by
  have hdr : Below w.heap.size w (w.drewN 1) := ⟨rfl, rfl, rfl, Nat.le_refl _, fun _ _ => rfl⟩
  have hd := h.below hdr
  have Gd := Goes.of_below hdr h
  obtain ⟨_, _, v2, e0, x1, x2, x3, x4, _⟩ := contT_ok (P := P) h (by omega) hcx hx
  cases e0
  obtain ⟨_, _, v2', e5, y1, y2, y3, y4, _⟩ := contT_ok (P := P) hd (by omega) hcx (hx.goes Gd)
  cases e5
  obtain ⟨l, hl⟩ := hal
  have hne : key ≠ k := fun e => by subst e; unfold lens at hl; rw [hk] at hl; cases hl
  obtain ⟨a1, cap1, v1, e1, p1, p2, p3, p4, p5⟩ := contT_ok (P := P) h (by omega) hc1 hs
  obtain ⟨a1', cap1', v1', e1', q1, q2, q3, q4, _⟩ := contT_ok (P := P) hd (by omega) hc1 (hs.goes Gd)
  rw [e1] at e1'; cases e1'
  obtain ⟨hz0, hle, h3⟩ := (hos _ hs).os_inv hl
  subst e1
  have hlen12 : ∀ {u1 u2 : List Value}, u1.length = n * (sz + 1) → u2.length = n2 * (sz + 1) → (u1 ++ u2).length = (n + n2) * (sz + 1) := by
    intro u1 u2 h1 h2; rw [List.length_append, h1, h2, Nat.add_mul]
  by_cases hroom : n + n2 ≤ cap1
  · have hbc := joinB_ok hj p3 x3 p4
    rcases h3 with ⟨rfl, a, e3⟩ | ⟨cap, b, hm, e3, hcc, hr⟩
    · cases e3
      have hn2 : n2 = 0 := by omega
      subst hn2
      have hv2 : v2 = [] := List.eq_nil_of_length_eq_zero (by simpa using x2)
      have hv1 : v1 = [] := List.eq_nil_of_length_eq_zero (by simpa using p2)
      subst hv2; subst hv1
      have hrun := run_append_room (P := P) (w := w) (w' := w) (ty := ty) (n := 0) (cap := 0) (a := a1) hu hu2 hsz x1 (by omega) (by cases a1 <;> rfl)
      have hg1 : upd g [(k, Blk.gone)] key = none := by rw [upd_one, if_neg (Ne.symm hne)]; exact hk
      have hN := (h.drop k).newB (k := key) (n := none) (b := B) (Below.refl _ w) hg1 (fun q hq => by cases hq) (hbc.none rfl)
      have hGN := Goes.new (h.drop k) (k := key) (n := none) (b := B) (Below.refl _ w) hg1 (fun q hq => by cases hq)
      rw [← upd_two] at hN hGN
      refine ⟨_, w, _, hrun, hN, (Goes.drop h k).trans hGN, ?_⟩
      have hlk : lens (upd g [(key, B), (k, .gone)]) key = some (some 0) := by rw [upd_two, lens_upd, if_pos rfl, hbc.len]; rfl
      exact .ow (.os0 hlk (by omega) (by omega)) (.inr (by rw [hlk]; simp))
    · cases e3
      rw [Nat.zero_mul] at *
      have hvone : ∀ v ∈ v2, v.oneCell' = true := cellB_one x3 hcell
      obtain ⟨w', c1, c2, c3, c4, c5⟩ := setCells_run (P := P) (ts := []) (vs := v2) (b := b) w (n * (sz + 1)) 0 (by
        exact hr.mono (by rw [x2, Nat.add_zero, ← Nat.add_mul]; exact Nat.mul_le_mul_right _ (by omega))) (by
        obtain ⟨B0, hB0, hBl⟩ := lens_some hl
        have := h.blk k B0 hB0
        rw [hm] at this
        cases B0 with
        | fl ks xs => exact this.2.2.1
        | cs cs => exact this.choose_spec.2.2.1
        | mp kk vk es => obtain ⟨ms, c, h1, _⟩ := this; intro o; simp [World.frozen?, h1]
        | gone => cases hBl
        | gh id ts => cases hBl
        | lp id l st pe n ts ps asg body => cases hBl) hvone
      have hrun := run_append_room (P := P) (w := w) (w' := w') (ty := ty) (n := n) (cap := cap1) (a := some ⟨b, 0, none⟩) (cap2 := cap2) hu hu2 hsz x1 hroom (by
        show (storeCells ((⟨b, 0, none⟩ : Addr).add (n * (sz + 1))) v2).run P w = _
        rw [add_at, Nat.zero_add]; exact c1)
      have hroom' : Room w' b ((n + n2) * (sz + 1)) := c2.room _ (by
        exact hr.mono (Nat.mul_le_mul_right _ (by omega)))
      have hcells : CellsAt w' b 0 (v1 ++ v2) := by
        intro i v hi
        rw [Nat.zero_add]
        rw [List.getElem?_append] at hi
        split at hi
        · rename_i hlt
          rw [c4 i (by left; omega)]
          rcases p5 with p5 | ⟨b5, o5, e5, hca⟩
          · subst p5; simp at p2; subst p2; simp at hlt
          · cases e5
            have := hca i v hi
            rwa [Nat.zero_add] at this
        · rename_i hlt
          have := c5 _ v hi
          rw [p2, Nat.add_zero] at this
          rwa [show n * (sz + 1) + (i - n * (sz + 1)) = i by omega] at this
      obtain ⟨M1, M2, M3, M4⟩ := moveB h hk hl hm c2 (B := B) (hbc.len.trans (by rw [hlen12 p2 x2])) (fun G => hbc.blk G (by rw [hlen12 p2 x2]; exact hroom') c3 hcells)
      refine ⟨_, w', _, hrun, M1, M2, ?_⟩
      have htv := TV.os (w := w') (I := Im (mk1 m key (some b)) (upd g [(key, B), (k, .gone)])) (off := 0) (n := n + n2) (cap := cap1) (sz := sz + 1) M3 M4 (by rw [Nat.zero_add]; exact Nat.le_refl _) (by omega) (by omega) (by rw [Nat.zero_add]; rw [Nat.zero_add] at hr; exact c2.room _ hr)
      rw [Nat.zero_mul] at htv
      exact .ow htv (.inr M3)
  · have hbc := joinB_ok hj q3 y3 q4
    have hcap1 : cap1 < n + n2 := by omega
    have hnc := nextcap_le _ _ hcap1
    obtain ⟨newCap, rest, r1, r2, r3⟩ := run_append_grow (P := P) (w := w) (ty := ty) (a2 := a2) (cap2 := cap2) hu hu2 hsz (zero_all z1) hzs hby q1 y1 q2 y2 hroom hby1 (by
      have : Builtin.nextslicecap (n + n2) cap1 * by_ ≤ (n + n2 + (n + n2) + 512) * 64 := Nat.mul_le_mul (by omega) hby64
      omega)
    have hg1 : upd g [(k, Blk.gone)] key = none := by rw [upd_one, if_neg (Ne.symm hne)]; exact hk
    obtain ⟨N1, N2, N3, N4, N5⟩ := newBlkC (hd.drop k) hg1 (hbc.goes (Goes.drop hd k)) e rest
    rw [← upd_two] at N1 N2 N3
    refine ⟨_, _, _, r1, N1, Gd.trans ((Goes.drop hd k).trans N2), ?_⟩
    have hb0 : (v1' ++ v2').length + rest.length = newCap * (sz + 1) := by rw [← r3, List.length_append (bs := rest)]
    rw [hlen12 q2 y2] at N3
    have htv := TV.os (w := (w.drewN 1).alloc (.cells ((v1' ++ v2') ++ rest).toArray e)) (I := Im (mk1 m key (some (w.drewN 1).heap.size)) (upd g [(key, B), (k, .gone)])) (off := 0) (n := n + n2) (cap := newCap) (sz := sz + 1) N3 N4 (by rw [Nat.zero_add]; exact Nat.le_refl _) (by omega) (by omega) (by rw [Nat.zero_add, ← hb0]; exact N5)
    rw [Nat.zero_mul] at htv
    exact .ow htv (.inr N3)
set_option maxHeartbeats 1000000 in
theorem appendT_ok (h : HR w0 w O m g) {key : Nat} (hk : g key = none) {t t2 ty : TypeId} {s x : T} {vs vx : Value} {o : Out} (ho : appendT P g key t t2 s x = some o) (hok : o.ok)
    (hs : TV w (Im m g) m (lens g) s vs) (hx : TV w (Im m g) m (lens g) x vx) : StepOk P (Builtin.append_ #[t, t2] ty #[vs, vx]) w0 w O m g o := by
  unfold appendT at ho
  split at ho
  · rename_i e e2 hu hu2
    split at ho
    · rename_i sz zs by_ hsz hz hby
      split at ho
      · rename_i hc
        rw [Bool.and_eq_true, Bool.and_eq_true, Nat.beq_eq, Nat.ble_eq, Nat.ble_eq] at hc
        obtain ⟨⟨hzl, hby64⟩, hby1⟩ := hc
        obtain ⟨z, z1, z2⟩ := zeroT_some (w := w) (m := m) (I := Im m g) (L := lens g) hz
        have hzs : z.cells.size = sz + 1 := by rw [← Array.length_toList, ← z2.length, hzl]
        have hdr : Below w.heap.size w (w.drewN 1) := ⟨rfl, rfl, rfl, Nat.le_refl _, fun _ _ => rfl⟩
        have hd := h.below hdr
        have Gd := Goes.of_below hdr h
        split at ho
        · rename_i n2 B2 hcx
          obtain ⟨a2, cap2, v2, rfl, x1, x2, x3, x4, _⟩ := contT_ok (P := P) h (by omega) hcx hx
          obtain ⟨a2', cap2', v2', e5, y1, y2, y3, y4, _⟩ := contT_ok (P := P) hd (by omega) hcx (hx.goes Gd)
          cases e5
          split at ho
          case isFalse => cases ho
          rename_i hcell
          split at ho
          · -- nil
            have ho' := ho
            cases ho
            have hq := hok _ rfl
            obtain ⟨rfl, -⟩ := hs.v_inv
            by_cases hn2 : n2 = 0
            · subst hn2
              have hv2 : v2 = [] := List.eq_nil_of_length_eq_zero (by simpa using x2)
              subst hv2
              have hrun := run_append_room (P := P) (w := w) (w' := w) (ty := ty) (n := 0) (cap := 0) (a := none) hu hu2 hsz x1 (by omega) rfl
              have hN := h.newB (k := key) (n := none) (b := B2) (Below.refl _ w) hk (fun q hq => by cases hq) (x3.none rfl)
              refine ⟨_, w, _, hrun, hN, Goes.new h (k := key) (n := none) (b := B2) (Below.refl _ w) hk (fun q hq => by cases hq), ?_⟩
              have hlk : lens (upd g [(key, B2)]) key = some (some 0) := by rw [lens_upd, if_pos rfl, x3.len]; rfl
              exact .ow (.os0 hlk (by omega) (by omega)) (.inr (by rw [hlk]; simp))
            · obtain ⟨newCap, rest, r1, r2, r3⟩ := run_append_grow (P := P) (w := w) (ty := ty) (n := 0) (cap := 0) (a := none) (a2 := a2) (cap2 := cap2) (v1 := []) hu hu2 hsz (zero_all z1) hzs hby rfl y1 (by simp) y2 (by omega) hby1 (by
                have : Builtin.nextslicecap (0 + n2) 0 = n2 := by unfold Builtin.nextslicecap; rw [if_pos (by omega)]; omega
                rw [this]; omega)
              simp only [List.nil_append, Nat.zero_add] at r1 r2 r3
              have hqn : n2 ≤ 140737488355328 := Nat.le_trans (Nat.le_mul_of_pos_right n2 (by omega)) hq
              obtain ⟨N1, N2, N3, N4, N5⟩ := newBlkC hd hk y3 e rest
              refine ⟨_, _, _, r1, N1, Gd.trans N2, ?_⟩
              have hb0 : v2'.length + rest.length = newCap * (sz + 1) := by rw [← r3, List.length_append]
              rw [y2] at N3
              have htv := TV.os (w := (w.drewN 1).alloc (.cells (v2' ++ rest).toArray e)) (I := Im (mk1 m key (some (w.drewN 1).heap.size)) (upd g [(key, B2)])) (off := 0) (n := n2) (cap := newCap) (sz := sz + 1) N3 N4 (by rw [Nat.zero_add]; exact Nat.le_refl _) (by omega) (by omega) (by rw [Nat.zero_add, ← hb0]; exact N5)
              rw [Nat.zero_mul] at htv
              exact .ow htv (.inr N3)
          · rename_i k s1 n
            split at ho
            · rename_i hs1; rw [Nat.beq_eq] at hs1
              subst hs1
              split at ho
              · rename_i n' B1 hc1
                split at ho
                · rename_i B hj
                  have ho' := ho
                  cases ho
                  have hal : g.alive k = true := by
                    unfold contT at hc1; simp only [Nat.beq_refl, if_true] at hc1
                    unfold Mem.alive; split at hc1 <;> first | (rename_i e9; rw [e9]; done) | (rename_i e9; simp [e9]; done) | cases hc1
                  have hn' : n' = n := by
                    unfold contT at hc1; simp only [Nat.beq_refl, if_true] at hc1
                    split at hc1
                    · split at hc1 <;> cases hc1; rfl
                    · cases hc1; rfl
                    · cases hc1
                  subst hn'
                  obtain ⟨l, hl⟩ := alive_lens hal
                  exact append_own h hk hu hu2 hsz hby hby64 hby1 z1 hzs hcx hcell hs hx (fun I' hh => by cases hh with | ow hh _ => exact hh) ⟨l, hl⟩ hc1 hj (hok _ rfl)
                · cases ho
              · cases ho
            · cases ho
          · rename_i k s1 n
            split at ho
            · rename_i hs1; rw [Nat.beq_eq] at hs1
              subst hs1
              split at ho
              · rename_i n' B1 hc1
                split at ho
                · rename_i B hj
                  have ho' := ho
                  cases ho
                  have hal : g.alive k = true := by
                    unfold contT at hc1; simp only [Nat.beq_refl, if_true] at hc1
                    unfold Mem.alive; split at hc1 <;> first | (rename_i e9; rw [e9]; done) | (rename_i e9; simp [e9]; done) | cases hc1
                  have hn' : n' = n := by
                    unfold contT at hc1; simp only [Nat.beq_refl, if_true] at hc1
                    split at hc1
                    · split at hc1 <;> cases hc1; rfl
                    · cases hc1; rfl
                    · cases hc1
                  subst hn'
                  obtain ⟨l, hl⟩ := alive_lens hal
                  exact append_own h hk hu hu2 hsz hby hby64 hby1 z1 hzs hcx hcell hs hx (fun I' hh => hh) ⟨l, hl⟩ hc1 hj (hok _ rfl)
                · cases ho
              · cases ho
            · cases ho
          · cases ho
        · cases ho
      · cases ho
    · cases ho
  · cases ho

theorem wrap_small {x : Int} (h0 : 0 ≤ x) (h1 : x ≤ 1099511627776) : IntKind.i64.wrap x = x := by
  have e : IntKind.i64.wrap x = (if x % 18446744073709551616 ≥ 9223372036854775808 then x % 18446744073709551616 - 18446744073709551616 else x % 18446744073709551616) := by
    simp [IntKind.wrap, IntKind.bits, IntKind.signed]
  rw [e, Int.emod_eq_of_lt h0 (by omega), if_neg (by omega)]

theorem map_zero {z : Value} {s n : Nat} (hl : z.cells.size = s + 1) :
    (Array.range n).map (fun x => z.cells[x % z.cells.size]!) = ((List.range n).map fun i => z.cells.toList[i % (s + 1)]!).toArray := by
  apply Array.ext'
  rw [Array.toList_map, Array.toList_range, hl]
  apply List.map_congr_left; intro i _
  cases z.cells; simp

set_option maxHeartbeats 1000000 in
theorem makeSliceT_ok (h : HR w0 w O m g) {key : Nat} (hk : g key = none) {t : TypeId} {l c : T} {vl vc : Value} {o : Out} (ho : makeSliceT P key t l c = some o) (hok : o.ok)
    (hl : TV w (Im m g) m (lens g) l vl) (hc : TV w (Im m g) m (lens g) c vc) : StepOk P (Instr.makeSlice t vl vc) w0 w O m g o := by
  unfold makeSliceT at ho
  split at ho
  · rename_i e k1 l k2 c hu
    obtain ⟨rfl, -⟩ := hl.v_inv
    obtain ⟨rfl, -⟩ := hc.v_inv
    split at ho
    · rename_i sz zs by_ hsz hz hby
      split at ho
      · rename_i hcc
        rw [Bool.and_eq_true, Nat.beq_eq, Nat.ble_eq] at hcc
        obtain ⟨hzl, hby64⟩ := hcc
        obtain ⟨z, z1, z2⟩ := zeroT_some (w := w) (m := m) (I := Im m g) (L := lens g) hz
        have hzs : z.cells.size = sz + 1 := by rw [← Array.length_toList, ← z2.length, hzl]
        obtain ⟨i, hi, hib⟩ : ∃ i, P.info? e = some i ∧ i.bytes = by_ := by
          unfold bytes? at hby
          cases hi : P.info? e with
          | none => rw [hi] at hby; cases hby
          | some i => rw [hi] at hby; cases hby; exact ⟨i, rfl, rfl⟩
        have main : ∀ (B : Blk), (0 ≤ l ∧ l ≤ c ∧ c ≤ 1099511627776) → BC w (Im m g) m (lens g) B ((List.range (l.toNat * (sz + 1))).map fun i => z.cells.toList[i % (sz + 1)]!) →
            StepOk P (Instr.makeSlice t (.int k1 l) (.int k2 c)) w0 w O m g ⟨some (0 ≤ l ∧ l ≤ c ∧ c ≤ 1099511627776), .ow key (sz + 1) l.toNat, [(key, B)]⟩ := by
          intro B ⟨h0, h1, h2⟩ hB
          have e1 : IntKind.i64.wrap l = l := wrap_small h0 (by omega)
          have e2 : IntKind.i64.wrap c = c := wrap_small (by omega) h2
          have hsplit : c.toNat * (sz + 1) = l.toNat * (sz + 1) + (c.toNat - l.toNat) * (sz + 1) := by rw [← Nat.add_mul]; congr 1; omega
          have e3 : ((List.range (c.toNat * (sz + 1))).map fun i => z.cells.toList[i % (sz + 1)]!) = ((List.range (l.toNat * (sz + 1))).map fun i => z.cells.toList[i % (sz + 1)]!) ++ ((List.range ((c.toNat - l.toNat) * (sz + 1))).map fun i => z.cells.toList[i % (sz + 1)]!) := by
            rw [hsplit, List.range_add, List.map_append]
            congr 1
            rw [List.map_map]
            apply List.map_congr_left; intro i _
            simp only [Function.comp]
            rw [Nat.add_comm, Nat.add_mul_mod_self_right]
          obtain ⟨N1, N2, N3, N4, N5⟩ := newBlkC h hk hB e ((List.range ((c.toNat - l.toNat) * (sz + 1))).map fun i => z.cells.toList[i % (sz + 1)]!)
          rw [← e3] at N1 N2 N5
          refine ⟨.slice (some ⟨w.heap.size, 0, none⟩) l.toNat c.toNat, _, _, ?_, N1, N2, ?_⟩
          · have hbc : (by_ : Int) * c ≤ 2 ^ 48 := by
              have : (by_ : Int) * c ≤ 64 * 1099511627776 := Int.mul_le_mul (by omega) h2 (by omega) (by omega)
              omega
            have hti : (typeInfo e).run P w = .ok i w := by rw [run_typeInfo, hi]
            simp only [Instr.makeSlice, Sem.run_bind, run_underlying, hu, Result.andThen_ok, asInt, asIntOf, Sem.run_pure, hti, hib, e1, e2]
            rw [if_neg (by simp; omega)]
            simp only [Sem.run_bind, run_askRoom, Result.andThen_ok, sz_some hsz, Sem.run_pure]
            by_cases hn0 : c.toNat * (sz + 1) = 0
            · rw [if_pos hn0, hn0]
              have e9 : ∀ f : Nat → Value, Array.map f (Array.range 0) = #[] := fun f => by apply Array.ext'; simp
              simp only [Sem.run_bind, Sem.run_pure, Result.andThen_ok, newRow, run_newObj, e9]
              rfl
            · rw [if_neg hn0]
              simp only [Sem.run_bind, z1, Sem.run_pure, Result.andThen_ok, newRow, run_newObj, map_zero hzs]
              rfl
          · have hlen : ((List.range (l.toNat * (sz + 1))).map fun i => z.cells.toList[i % (sz + 1)]!).length = l.toNat * (sz + 1) := by simp
            rw [hlen] at N3
            have htv := TV.os (w := w.alloc (.cells ((List.range (c.toNat * (sz + 1))).map fun i => z.cells.toList[i % (sz + 1)]!).toArray e)) (I := Im (mk1 m key (some w.heap.size)) (upd g [(key, B)])) (off := 0) (n := l.toNat) (cap := c.toNat) (sz := sz + 1) N3 N4 (by rw [Nat.zero_add]; exact Nat.le_refl _) (by omega) (by omega)
              (by rw [Nat.zero_add]; have N6 := N5; simp only [List.length_map, List.length_range] at N6; rwa [← hsplit] at N6)
            rw [Nat.zero_mul] at htv
            exact .ow htv (.inr N3)
        have hzlen : z.cells.toList.length = sz + 1 := by rw [Array.length_toList, hzs]
        split at ho
        · rename_i k ks xs e0
          split at ho
          · rename_i h00
            cases ho
            refine main _ (hok _ rfl) ?_
            obtain ⟨a1, a2, a3⟩ := ints_inv e0 z2
            have hxl : xs.length = sz + 1 := by rw [← a2, hzlen]
            refine ⟨by simp, by simp [mulN_eq], fun i x hx => ?_⟩
            rw [mulN_eq] at hx
            have hlt : i < l.toNat * (sz + 1) := by have := (List.getElem?_eq_some_iff.1 hx).1; simpa using this
            rw [List.getElem?_replicate_of_lt hlt] at hx
            cases hx
            rw [List.getElem?_map, List.getElem?_range hlt]
            have hm : i % (sz + 1) < xs.length := by rw [hxl]; exact Nat.mod_lt _ (by omega)
            obtain ⟨k', b1, b2⟩ := a3 _ _ (List.getElem?_eq_getElem hm)
            have hx0 : xs[i % (sz + 1)] = 0 := by
              have := List.all_eq_true.1 h00 _ (List.getElem_mem hm)
              simpa using this
            simp only [Option.map_some]
            rw [getElem!_pos _ _ (by rw [hzlen]; exact Nat.mod_lt _ (by omega))]
            rw [List.getElem?_eq_getElem (by rw [hzlen]; exact Nat.mod_lt _ (by omega))] at b2
            rw [Option.some.inj b2, hx0]
            have hkl : (k :: ks).length = sz + 1 := by rw [a1, hxl]
            have : kc (k :: ks) i = k' := by
              unfold kc; rw [hkl, List.getD_eq_getElem?_getD, b1]; rfl
            rw [this]
          · cases ho
        · cases ho
          refine main _ (hok _ rfl) ?_
          have := rep_ok z2 l.toNat
          rw [flatten_rep _ (sz + 1) _ hzlen (by omega)] at this
          exact this
      · cases ho
    · cases ho
  · cases ho

theorem minT_ok {ty : TypeId} {ats : Array TypeId} {x y : T} {vx vy : Value} {o : Out} (h : minT x y = some o) (hx : TV w I m L x vx) (hy : TV w I m L y vy) : PureOk P (Builtin.min_ ats ty #[vx, vy]) w I m L o := by
  unfold minT at h
  split at h
  · split at h
    · rename_i e; subst e
      obtain ⟨rfl, -⟩ := hx.v_inv; obtain ⟨rfl, -⟩ := hy.v_inv
      exact pureV h rfl (by simp [Builtin.min_, Builtin.min2])
    · cases h
  · cases h
theorem maxT_ok {ty : TypeId} {ats : Array TypeId} {x y : T} {vx vy : Value} {o : Out} (h : maxT x y = some o) (hx : TV w I m L x vx) (hy : TV w I m L y vy) : PureOk P (Builtin.max_ ats ty #[vx, vy]) w I m L o := by
  unfold maxT at h
  split at h
  · split at h
    · rename_i e; subst e
      obtain ⟨rfl, -⟩ := hx.v_inv; obtain ⟨rfl, -⟩ := hy.v_inv
      exact pureV h rfl (by simp [Builtin.max_, Builtin.max2])
    · cases h
  · cases h
theorem isZ_ok {t : T} {v : Value} (h : isZ t = true) (hv : TV w I m L t v) : ∃ k, v = .int k 0 := by
  unfold isZ at h
  split at h
  · obtain ⟨rfl, -⟩ := hv.v_inv; exact ⟨_, by rw [eq_of_beq h]⟩
  · cases h
theorem isSl_ok {t : T} {v : Value} (h : isSl t = true) (hv : TV w I m L t v) : ∃ a n c, v = .slice a n c := by
  unfold isSl at h
  split at h
  · cases hv <;> exact ⟨_, _, _, rfl⟩
  · cases hv <;> exact ⟨_, _, _, rfl⟩
  · cases hv <;> exact ⟨_, _, _, rfl⟩
  · cases hv with | ow h _ => cases h <;> exact ⟨_, _, _, rfl⟩
  · obtain ⟨rfl, -⟩ := hv.v_inv; exact ⟨_, _, _, rfl⟩
  · cases h
theorem clipT_ok (h : HR w0 w O m g) {key : Nat} (hk : g key = none) {t : TypeId} {x mx : T} {lo hi : Option T} {vx vm : Value} {vlo vhi : Option Value} {o : Out} (ho : clipT P key t x lo hi mx = some o)
    (hx : TV w (Im m g) m (lens g) x vx) (hlo : OTV w (Im m g) m (lens g) lo vlo) (hhi : OTV w (Im m g) m (lens g) hi vhi) (hm : TV w (Im m g) m (lens g) mx vm) :
    StepOk P (Instr.sliceAt t vx vlo vhi (some vm)) w0 w O m g o := by
  unfold clipT at ho
  split at ho
  · rename_i e hi' hu
    split at ho
    · rename_i s hs
      split at ho
      · rename_i hc
        simp only [Bool.and_eq_true] at hc
        obtain ⟨⟨⟨c1, c2⟩, c3⟩, c4⟩ := hc
        cases ho
        obtain ⟨a, n, c, rfl⟩ := isSl_ok c1 hx
        obtain ⟨km, rfl⟩ := isZ_ok c4 hm
        obtain ⟨kh, rfl⟩ : ∃ kh, vhi = some (.int kh 0) := by
          cases vhi with
          | none => exact hhi.elim
          | some v => obtain ⟨k, rfl⟩ := isZ_ok c3 hhi; exact ⟨k, rfl⟩
        have hl : vlo = none ∨ ∃ k, vlo = some (.int k 0) := by
          cases vlo with
          | none => exact .inl rfl
          | some v =>
            cases lo with
            | none => exact hlo.elim
            | some t => obtain ⟨k, rfl⟩ := isZ_ok (t := t) c2 hlo; exact .inr ⟨k, rfl⟩
        have hb : (Instr.sliceBounds true n c vlo (some (.int kh 0)) (some (.int km 0))).run P w = .ok (0, 0, 0) w := by
          rcases hl with rfl | ⟨k, rfl⟩ <;> simp [Instr.sliceBounds, Instr.sliceBound, asIntOf]
        have hrun : (Instr.sliceAt t (.slice a n c) vlo (some (.int kh 0)) (some (.int km 0))).run P w = .ok (.slice a 0 0) w := by
          simp [Instr.sliceAt, Instr.slice, Sem.run_bind, run_underlying, hu, hb, sz_some hs]
        have hN := h.newB (k := key) (n := none) (b := .cs []) (Below.refl _ w) hk (fun q hq => by cases hq) rfl
        refine ⟨_, w, _, hrun, hN, Goes.new h (k := key) (n := none) (b := .cs []) (Below.refl _ w) hk (fun q hq => by cases hq), ?_⟩
        have hlk : lens (upd g [(key, .cs [])]) key = some (some 0) := by rw [lens_upd, if_pos rfl]; rfl
        exact .ow (.os0 hlk (by omega) (by omega)) (.inr (by rw [hlk]; simp))
      · cases ho
    · cases ho
  · cases ho
theorem spl_len {xs ys : List Int} {o : Nat} (h : o + ys.length ≤ xs.length) : (spl xs o ys).length = xs.length := by
  unfold spl; simp only [List.length_append, List.length_take, List.length_drop]; omega
theorem spl_at {xs ys : List Int} {o i : Nat} (h : o + ys.length ≤ xs.length) : (spl xs o ys)[i]? = if i < o then xs[i]? else if i < o + ys.length then ys[i - o]? else xs[i]? := by
  unfold spl
  rw [List.getElem?_append]
  have hl : (xs.take o).length = o := by rw [List.length_take]; omega
  rw [hl]
  by_cases h1 : i < o
  · rw [if_pos h1, if_pos h1, List.getElem?_take_of_lt h1]
  · rw [if_neg h1, if_neg h1, List.getElem?_append]
    by_cases h2 : i < o + ys.length
    · rw [if_pos (by omega), if_pos h2]
    · rw [if_neg (by omega), if_neg h2, List.getElem?_drop]
      congr 1; omega
theorem copyT_ok (h : HR w0 w O m g) {t t2 ty : TypeId} {s x : T} {vs vx : Value} {o : Out} (ho : copyT P g t s x = some o)
    (hs : TV w (Im m g) m (lens g) s vs) (hx : TV w (Im m g) m (lens g) x vx) : StepOk P (Builtin.copy_ #[t, t2] ty #[vs, vx]) w0 w O m g o := by
  unfold copyT at ho
  split at ho
  · rename_i e hu
    split at ho
    · rename_i sz hsz
      split at ho
      · rename_i n2 ks ys k s1 off n hcx hos
        split at ho
        · rename_i ks1 xs hgk
          split at ho
          · rename_i hc
            simp only [Bool.and_eq_true, decide_eq_true_eq, Nat.beq_eq] at hc
            obtain ⟨⟨rfl, rfl⟩, hkl⟩ := hc
            cases ho
            obtain ⟨a2, cap2, v2, rfl, x1, x2, x3, _, x5⟩ := contT_ok (P := P) h (by omega) hcx hx
            have hl : lens g k = some (some xs.length) := by rw [lens_of hgk]; rfl
            have hs' : TV w (Im m g) m (lens g) (.os k (sz + 1) off n) vs := by
              cases s <;> simp only [osOf] at hos <;> cases hos
              · exact hs
              · cases hs with | ow hh _ => exact hh
            obtain ⟨hz0, hle, h3⟩ := hs'.os_inv hl
            have hmin : Nat.min n2 n = minN n2 n := by
              unfold minN
              split
              · exact Nat.min_eq_left (by assumption)
              · exact Nat.min_eq_right (by omega)
            have hm1 : minN n2 n ≤ n2 := by unfold minN; split <;> omega
            have hm2 : minN n2 n ≤ n := by unfold minN; split <;> omega
            generalize hcn : minN n2 n = c at *
            obtain ⟨hne, y1, y2⟩ := x3
            have hfc : (Builtin.firstCells (sz + 1) c (.slice a2 n2 cap2)).run P w = .ok (v2.take (c * (sz + 1))).toArray w := by
              rcases x5 with x5 | ⟨b5, o5, rfl, hca⟩
              · subst x5
                obtain rfl : c = 0 := by omega
                rw [Nat.zero_mul, List.take_zero]
                cases a2
                · rfl
                · rename_i a0
                  have := loadCells_ok (P := P) (w := w) (a := a0) (vs := []) (0 * (sz + 1)) (by simp) (fun i v hi => by simp at hi)
                  rw [List.take_nil] at this
                  exact this
              · exact loadCells_ok (P := P) (w := w) (a := ⟨b5, o5, none⟩) (vs := v2) (c * (sz + 1)) (by rw [x2]; exact Nat.mul_le_mul_right _ hm1) (fun i v hi => by rw [add_at]; exact hca i v hi)
            have hoff : off * (sz + 1) % ks1.length = 0 := by rw [hkl]; exact Nat.mul_mod_left _ _
            have hyl : (ys.take (mulN c (sz + 1))).length = c * (sz + 1) := by
              rw [mulN_eq, List.length_take, ← y1, x2]
              have := Nat.mul_le_mul_right (sz + 1) hm1
              omega
            have hfit : off * (sz + 1) + (ys.take (mulN c (sz + 1))).length ≤ xs.length := by
              rw [hyl, ← Nat.add_mul]
              exact Nat.le_trans (Nat.mul_le_mul_right _ (by omega)) hle
            have run : ∀ (a1 : Option Addr) (cap1 : Nat) (w' : World), (match a1 with | some a => (storeCells a (v2.take (c * (sz + 1)))).run P w = .ok () w' | none => w' = w) →
                (Builtin.copy_ #[t, t2] ty #[.slice a1 n cap1, .slice a2 n2 cap2]).run P w = .ok (.int .i64 c) w' := by
              intro a1 cap1 w' hw
              cases a1 with
              | none =>
                dsimp only at hw
                subst hw
                simp only [Builtin.copy_, Sem.run_bind, run_underlying, hu, Result.andThen_ok, sz_some hsz, Array.getElem?_toList, List.getElem?_toArray, List.getElem?_cons_zero, List.getElem?_cons_succ, Sem.run_pure, Builtin.lenOf, hmin, hfc]
                rfl
              | some a =>
                dsimp only at hw
                simp only [Builtin.copy_, Sem.run_bind, run_underlying, hu, Result.andThen_ok, sz_some hsz, Array.getElem?_toList, List.getElem?_toArray, List.getElem?_cons_zero, List.getElem?_cons_succ, Sem.run_pure, Builtin.lenOf, hmin, hfc, hw]
                rfl
            rcases h3 with ⟨rfl, a, e3⟩ | ⟨cap, b, hmk, e3, hcc, hr⟩
            · subst e3
              obtain rfl : c = 0 := by omega
              have hsame : upd g [(k, .fl ks1 (spl xs (mulN off (sz + 1)) (ys.take (mulN 0 (sz + 1)))))] = g := by
                funext j
                rw [upd_one]
                by_cases hj : k = j
                · subst hj; rw [if_pos rfl, hgk]; simp [mulN_eq, spl, List.take_append_drop]
                · rw [if_neg hj]
              refine ⟨.int .i64 0, w, m, run a 0 w ?_, ?_, ?_, .v rfl⟩
              · cases a
                · rfl
                · simp [storeCells]
              · rw [hsame]; exact h
              · rw [hsame]; exact Goes.refl h
            · subst e3
              have hvl : (v2.take (c * (sz + 1))).length = c * (sz + 1) := by
                rw [List.length_take, x2]
                have := Nat.mul_le_mul_right (sz + 1) hm1
                omega
              have hB := h.blk k _ hgk
              rw [hmk] at hB
              obtain ⟨b1, b2, b3, b4⟩ := hB
              have hone : ∀ v ∈ v2.take (c * (sz + 1)), v.oneCell' = true := by
                intro v hv
                obtain ⟨i, hi, e⟩ := List.getElem_of_mem (List.mem_of_mem_take hv)
                have := y2 i ys[i] (List.getElem?_eq_getElem (by omega))
                rw [List.getElem?_eq_getElem hi, e] at this
                rw [Option.some.inj this]; rfl
              obtain ⟨w', c1, c2, c3, c4, c5⟩ := setCells_run (P := P) (ts := []) (vs := v2.take (c * (sz + 1))) (b := b) w (off * (sz + 1)) 0 (by
                refine hr.mono ?_
                rw [hvl, Nat.add_zero, ← Nat.add_mul]
                exact Nat.mul_le_mul_right _ (by omega)) b3 hone
              have hfit' : mulN off (sz + 1) + (ys.take (mulN c (sz + 1))).length ≤ xs.length := by rw [mulN_eq]; exact hfit
              have hlen : (Blk.fl ks1 (spl xs (mulN off (sz + 1)) (ys.take (mulN c (sz + 1))))).len? = some xs.length := by simp only [Blk.len?, spl_len hfit']
              refine ⟨.int .i64 c, w', m, run (some ⟨b, off * (sz + 1), none⟩) cap w' c1, h.setB hl hmk c2 hlen ⟨b1, by rw [spl_len hfit']; exact c2.room _ b2, c3, fun i y hy => ?_⟩, Goes.setB h hl hmk c2 hlen, .v rfl⟩
              rw [spl_at hfit', mulN_eq] at hy
              rw [hyl] at hy
              rw [Nat.zero_add]
              have old : ∀ j, xs[j]? = some y → j = i → w.cell? ⟨b, i, none⟩ = some (.int (kc ks1 i) y) := by
                rintro j hj rfl
                have := b4 j y hj
                rwa [Nat.zero_add] at this
              by_cases h1 : i < off * (sz + 1)
              · rw [if_pos h1] at hy
                rw [c4 i (by left; omega)]; exact old i hy rfl
              · rw [if_neg h1] at hy
                by_cases h2 : i < off * (sz + 1) + c * (sz + 1)
                · rw [if_pos h2, mulN_eq, List.getElem?_take_of_lt (by omega)] at hy
                  have hv := y2 _ y hy
                  have hv' : (v2.take (c * (sz + 1)))[i - off * (sz + 1)]? = some (Value.int (kc ks1 (i - off * (sz + 1))) y) := by rw [List.getElem?_take_of_lt (by omega)]; exact hv
                  have := c5 _ _ hv'
                  rw [show off * (sz + 1) + 0 + (i - off * (sz + 1)) = i by omega] at this
                  rw [this, ← kc_mod (i := i - off * (sz + 1)) hoff, show off * (sz + 1) + (i - off * (sz + 1)) = i by omega]
                · rw [if_neg h2] at hy
                  rw [c4 i (by right; rw [hvl]; omega)]; exact old i hy rfl
          · cases ho
        · cases ho
      · cases ho
    · cases ho
  · cases ho
end
end Go.Proofs.Yteinekidpokbpaa.Am
