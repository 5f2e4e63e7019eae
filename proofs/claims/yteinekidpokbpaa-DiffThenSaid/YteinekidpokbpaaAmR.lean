/- Maps of whole numbers: what is told of them is so. -/
import Derived.Test.YteinekidpokbpaaAmH
import Derived.MapKept
namespace Go.Proofs.Yteinekidpokbpaa.Am
set_option linter.unusedVariables false
open Go.RowKit

section
variable {P : Program} {w0 w : World} {O : Env} {m : Nat → Option Nat} {g : Mem}

theorem makeMapT_ok (h : HR w0 w O m g) {key : Nat} (hk : g key = none) {t : TypeId} {r : Option T} {vr : Option Value} (hr : r = none → vr = none) {o : Out} (ho : makeMapT P key t r = some o) : StepOk P (Instr.makeMap t vr) w0 w O m g o := by
  unfold makeMapT at ho
  split at ho
  · rw [hr rfl]
    split at ho
    · rename_i kk vk e
      cases ho
      have hb : Below w.heap.size w (w.alloc (.map #[] 0)) := (Below.refl _ w).alloc (Nat.le_refl _) _
      have hn : ∀ q, some w.heap.size = some q → w.heap.size ≤ q := fun q e => by cases e; exact Nat.le_refl _
      have N := HR.newB (b := .mp kk vk []) (n := some w.heap.size) h hb hk hn ⟨#[], 0, (MapKept.heap_alloc w _).1, rfl, MapKept.stamped_empty 0⟩
      refine ⟨.map (some w.heap.size), _, _, rfl, N, Goes.new h hb hk hn, TV.mp ?_ ?_⟩
      · show lens (upd g [(key, .mp kk vk [])]) key = _
        rw [lens_upd, if_pos rfl]; rfl
      · unfold mk1; rw [if_pos rfl]
    · cases ho
  · cases ho
def kv (e : MapEntry) : Value × Value := (e.key, e.val)
def kvT (kk : IntKind) (vk : MK) (p : Int × Int) : Value × Value := (.int kk p.1, mval vk p.2)
theorem find_none {kk : IntKind} {vk : MK} {a : Int} : ∀ {ms : List MapEntry} {es : List (Int × Int)} {i : Nat}, ms.map kv = es.map (kvT kk vk) → mgetL es a = none →
    Instr.findNow (.int kk) (.int kk a) ms i = some none ∧ ∀ b, mputL es a b = es ++ [(a, b)]
  | ms, [], i, h, hg => by
    cases ms with
    | nil => exact ⟨rfl, fun b => rfl⟩
    | cons e r => simp at h
  | [], p :: es, i, h, hg => by simp at h
  | e :: ms, (x, y) :: es, i, h, hg => by
    simp only [List.map_cons, List.cons.injEq] at h
    obtain ⟨h1, h2⟩ := h
    simp only [kv, kvT, Prod.mk.injEq] at h1
    simp only [mgetL] at hg
    split at hg
    · cases hg
    · rename_i hne
      obtain ⟨r1, r2⟩ := find_none (i := i + 1) h2 hg
      refine ⟨?_, fun b => by simp only [mputL, if_neg hne, r2 b, List.cons_append]⟩
      simp only [Instr.findNow, h1.1, Instr.sameNow, if_pos]
      rw [show (a == x) = false from by simpa using hne]
      exact r1
theorem find_some {kk : IntKind} {vk : MK} {a v : Int} : ∀ {ms : List MapEntry} {es : List (Int × Int)} {i : Nat}, ms.map kv = es.map (kvT kk vk) → mgetL es a = some v →
    ∃ j, Instr.findNow (.int kk) (.int kk a) ms i = some (some (i + j, mval vk v)) ∧ (∃ e, ms[j]? = some e ∧ e.key = .int kk a) ∧
      ∀ b (f : MapEntry → MapEntry), (∀ e, kv (f e) = (.int kk a, mval vk b)) → (ms.modify j f).map kv = (mputL es a b).map (kvT kk vk)
  | ms, [], i, h, hg => by cases hg
  | [], p :: es, i, h, hg => by simp at h
  | e :: ms, (x, y) :: es, i, h, hg => by
    simp only [List.map_cons, List.cons.injEq] at h
    obtain ⟨h1, h2⟩ := h
    have h1' := h1
    simp only [kv, kvT, Prod.mk.injEq] at h1
    simp only [mgetL] at hg
    split at hg
    · rename_i he
      subst he
      cases hg
      refine ⟨0, ?_, ⟨e, rfl, h1.1⟩, fun b f hf => ?_⟩
      · simp only [Instr.findNow, h1.1, Instr.sameNow, if_pos]
        simp [h1.2]
      · simp only [List.modify_zero_cons, List.map_cons, mputL, if_pos, hf, h2, kvT]
    · rename_i hne
      obtain ⟨j, r1, r2, r3⟩ := find_some (i := i + 1) h2 hg
      refine ⟨j + 1, ?_, by simpa using r2, fun b f hf => ?_⟩
      · simp only [Instr.findNow, h1.1, Instr.sameNow, if_pos]
        rw [show (a == x) = false from by simpa using hne]
        simp only [r1, Option.some.injEq, Prod.mk.injEq, and_true]
        omega
      · simp only [List.modify_succ_cons, List.map_cons, mputL, if_neg hne, r3 b f hf, h1']
theorem mget_key {kk : IntKind} {vk : MK} {a : Int} : ∀ {ms : List MapEntry} {es : List (Int × Int)}, ms.map kv = es.map (kvT kk vk) → mgetL es a = none → ∀ x ∈ ms, x.key ≠ .int kk a
  | [], _, _, _, x, hx => by cases hx
  | e :: ms, [], h, _, _, _ => by simp at h
  | e :: ms, (x, y) :: es, h, hg, z, hz => by
    simp only [List.map_cons, List.cons.injEq] at h
    obtain ⟨h1, h2⟩ := h
    simp only [kv, kvT, Prod.mk.injEq] at h1
    simp only [mgetL] at hg
    split at hg
    · cases hg
    · rename_i hne
      rcases List.mem_cons.1 hz with rfl | hz
      · rw [h1.1]; intro e; exact hne (Value.int.inj e).2.symm
      · exact mget_key h2 hg z hz
theorem mpKind_some {k e : TypeId} {kk : IntKind} {vk : MK} (h : mpKind P k e = some (kk, vk)) : P.underlying k = some (.int kk) := by
  unfold mpKind at h
  split at h
  · rename_i h1 _; cases h; exact h1
  · rename_i h1 _; cases h; exact h1
  · rename_i h1 _; cases h; exact h1
  · cases h
theorem mvOf_some {vk : MK} {t : T} {v : Value} {b : Int} {I : Nat → Prop} {L : Nat → Option (Option Nat)} (h : mvOf vk t = some b) (hv : TV w I m L t v) : v = mval vk b := by
  unfold mvOf at h
  split at h
  · split at h
    · rename_i e; cases h; subst e; exact hv.v_inv.1
    · cases h
  · cases h
    cases hv with
    | agg h =>
      rename_i vs
      cases vs with
      | mk l => cases h; rfl
  · cases h; exact hv.v_inv.1
  · rename_i f
    cases h
    rw [hv.v_inv.1]
    show _ = fnV (((f + 1 : Nat) : Int).toNat)
    rw [Int.toNat_natCast]
    rfl
  · rename_i f
    cases h
    cases hv with
    | fn ha hc =>
      rename_i as cs
      cases as with
      | mk l => cases cs with
        | mk l2 =>
          cases ha; cases hc
          show _ = fnV (((f + 1 : Nat) : Int).toNat)
          rw [Int.toNat_natCast]
          rfl
  · cases h
theorem run_setMap {b : Nat} {ms : Array MapEntry} {c : Nat} (o : Obj) (hb : w.heap[b]? = some (.map ms c)) : (setObj b o).run P w = .ok () { w with heap := w.heap.setIfInBounds b o } := MapKept.run_setObj_map o hb
theorem only_map {b : Nat} {ms ms' : Array MapEntry} {c c' : Nat} (hb : w.heap[b]? = some (.map ms c)) : OnlyB w { w with heap := w.heap.setIfInBounds b (.map ms' c') } b := by
  obtain ⟨h1, h2⟩ := MapKept.heap_set (o' := .map ms' c') hb
  refine ⟨rfl, rfl, rfl, by simp, h2, fun l ⟨o, e1, e2⟩ => ⟨_, h1, ?_⟩⟩
  rw [hb] at e1; cases e1
  exact e2
theorem mapUpdT_ok (h : HR w0 w O m g) {t : TypeId} {x k v : T} {vx vkey vv : Value} {o : Out} (ho : mapUpdT P g t x k v = some o) (hx : TV w (Im m g) m (lens g) x vx) (hk : TV w (Im m g) m (lens g) k vkey) (hv : TV w (Im m g) m (lens g) v vv) :
    ∃ w', (Instr.mapUpdate t vx vkey vv).run P w = .ok () w' ∧ HR w0 w' O m (upd g o.up) ∧ Goes w w' (Im m g) (Im m (upd g o.up)) m m (lens g) (lens (upd g o.up)) ∧ o.t = .dead := by
  unfold mapUpdT at ho
  split at ho
  · rename_i kt e q kq a hu
    split at ho
    · rename_i kk vk kk' vk' es hmk hgq
      split at ho
      · rename_i hc
        obtain ⟨rfl, rfl, rfl⟩ := hc
        split at ho
        · rename_i b hb
          cases ho
          have hl : lens g q = some (some 0) := lens_of hgq
          obtain ⟨n, hm, rfl⟩ := hx.mp_inv hl
          obtain rfl := hk.v_inv.1
          obtain rfl := mvOf_some hb hv
          have hB := h.blk q _ hgq
          rw [hm] at hB
          obtain ⟨ms, c, h1, h2, hst⟩ := hB
          have hkt := mpKind_some hmk
          have fin : ∀ ms' c', ms'.toList.map kv = (mputL es a b).map (kvT kq vk) → MapKept.Stamped ms' c' →
              HR w0 { w with heap := w.heap.setIfInBounds n (.map ms' c') } O m (upd g [(q, .mp kq vk (mputL es a b))]) ∧
              Goes w { w with heap := w.heap.setIfInBounds n (.map ms' c') } (Im m g) (Im m (upd g [(q, .mp kq vk (mputL es a b))])) m m (lens g) (lens (upd g [(q, .mp kq vk (mputL es a b))])) := fun ms' c' e hs =>
            ⟨h.setB hl hm (only_map h1) rfl ⟨ms', c', (MapKept.heap_set h1).1, e, hs⟩, Goes.setB h hl hm (only_map h1) rfl⟩
          have hrun : (Instr.mapUpdate t (.map (some n)) (.int kq a) (mval vk b)).run P w = ((do
              match ← Instr.findKey kt (.int kq a) ms.toList with
              | some (i, _) => do
                let key ← Instr.keyThatStays (((ms[i]?).map (·.key)).getD (.int kq a)) (.int kq a)
                setObj n (.map (ms.modify i fun e => { e with key, val := mval vk b }) c)
              | none => setObj n (.map (ms.push { key := .int kq a, val := mval vk b, born := c }) (c + 1)) : Sem Unit)).run P w := by
            unfold Instr.mapUpdate
            have hut : (underlying t).run P w = .ok (.map kt e) w := by simp [run_underlying, hu]
            simp only [Sem.run_bind, hut, Result.andThen_ok, MapKept.run_getObj_map h1, MapKept.run_checkKey hkt (k := .int kq a) rfl]
            rfl
          cases hg : mgetL es a with
          | none =>
            obtain ⟨r1, r2⟩ := find_none (i := 0) h2 hg
            have hs2 : MapKept.Stamped (ms.push { key := .int kq a, val := mval vk b, born := c }) (c + 1) := MapKept.stamped_push hst (mget_key h2 hg)
            refine ⟨_, ?_, (fin (ms.push { key := .int kq a, val := mval vk b, born := c }) (c + 1) ?_ hs2).1, (fin _ _ ?_ hs2).2, rfl⟩
            · rw [hrun]
              simp only [Sem.run_bind, MapKept.run_findKey hkt r1, Result.andThen_ok, run_setMap _ h1]
            all_goals (rw [r2 b]; simp only [Array.toList_push, List.map_append, List.map_cons, List.map_nil]; rw [show ms.toList.map kv = es.map (kvT kq vk) from h2]; rfl)
          | some v0 =>
            obtain ⟨j, r1, ⟨e0, r2, r3⟩, r4⟩ := find_some (i := 0) h2 hg
            rw [Nat.zero_add] at r1
            have hs2 : MapKept.Stamped (ms.modify j fun e => { e with key := .int kq a, val := mval vk b }) c := MapKept.stamped_modify hst j _ (fun e _ => rfl) (fun e _ he => by
              rw [← Array.getElem?_toList, r2] at he; cases he; exact r3.symm)
            have hj : (ms[j]?).map (·.key) = some (.int kq a) := by rw [← Array.getElem?_toList, r2]; simp [r3]
            refine ⟨_, ?_, (fin (ms.modify j fun e => { e with key := .int kq a, val := mval vk b }) c ?_ hs2).1, (fin _ _ ?_ hs2).2, rfl⟩
            · rw [hrun]
              simp only [Sem.run_bind, MapKept.run_findKey hkt r1, Result.andThen_ok, hj, Option.getD_some]
              have : (Instr.keyThatStays (.int kq a) (.int kq a)).run P w = .ok (.int kq a) w := by simp [Instr.keyThatStays, Instr.sameBits]
              simp only [this, Result.andThen_ok, run_setMap _ h1]
            all_goals (rw [Array.toList_modify]; exact r4 b _ fun e => rfl)
        · cases ho
      · cases ho
    · cases ho
  · cases ho
theorem zMv_ok {e : TypeId} {vk : MK} (h : zMv P e vk = true) : (zeroValue e).run P w = .ok (mval vk 0) w := by
  unfold zMv at h
  split at h
  · rename_i i hi
    split at h
    · rename_i q' z q hz
      simp only [Bool.and_eq_true, decide_eq_true_eq, beq_iff_eq] at h
      obtain ⟨rfl, rfl⟩ := h
      simp [zeroValue, run_typeInfo, hi, hz, mval]
    · rename_i hz
      simp [zeroValue, run_typeInfo, hi, hz, mval]
    · rename_i hz
      simp [zeroValue, run_typeInfo, hi, hz, mval, fnV]
    · cases h
  · cases h
theorem lookT_ok (h : HR w0 w O m g) {t : TypeId} {x k : T} {vx vkey : Value} {ok : Bool} {o : Out} (ho : lookT P g t x k ok = some o) (hx : TV w (Im m g) m (lens g) x vx) (hk : TV w (Im m g) m (lens g) k vkey) :
    PureOk P (Instr.lookup t vx vkey ok) w (Im m g) m (lens g) o := by
  unfold lookT at ho
  split at ho
  · rename_i kt e q kq a hu
    split at ho
    · rename_i kk vk kk' vk' es hmk hgq
      split at ho
      · rename_i hc
        obtain ⟨rfl, rfl, rfl, hz⟩ := hc
        cases ho
        have hl : lens g q = some (some 0) := lens_of hgq
        obtain ⟨n, hm, rfl⟩ := hx.mp_inv hl
        obtain rfl := hk.v_inv.1
        have hB := h.blk q _ hgq
        rw [hm] at hB
        obtain ⟨ms, c, h1, h2, hst⟩ := hB
        have hkt := mpKind_some hmk
        have hut : (underlying t).run P w = .ok (.map kt e) w := by simp [run_underlying, hu]
        have hrun : (Instr.lookup t (.map (some n)) (.int kq a) ok).run P w = .ok (if ok then .tuple #[mval vk ((mgetL es a).getD 0), .bool (mgetL es a).isSome] else mval vk ((mgetL es a).getD 0)) w := by
          unfold Instr.lookup
          simp only [Sem.run_bind, hut, Result.andThen_ok, MapKept.run_getObj_map h1, Sem.run_pure, MapKept.run_checkKey hkt (k := .int kq a) rfl]
          cases hg : mgetL es a with
          | none =>
            obtain ⟨r1, -⟩ := find_none (i := 0) h2 hg
            simp only [Sem.run_bind, MapKept.run_findKey hkt r1, Result.andThen_ok, zMv_ok hz, Sem.run_pure]
            rfl
          | some v0 =>
            obtain ⟨j, r1, -, -⟩ := find_some (i := 0) h2 hg
            simp only [Sem.run_bind, MapKept.run_findKey hkt r1, Result.andThen_ok, Sem.run_pure]
            rfl
        have hT : ∀ b, TV w (Im m g) m (lens g) (mvT vk b) (mval vk b) := fun b => by
          cases vk with
          | none => exact .agg .nil
          | some q => exact .v rfl
          | fn =>
            show TV w (Im m g) m (lens g) (.v (fnV b.toNat)) (fnV b.toNat)
            cases b.toNat <;> exact .v rfl
        refine ⟨_, hrun, rfl, ?_⟩
        cases ok
        · exact hT _
        · exact .tup (.cons (hT _) (.cons (.v rfl) .nil))
      · cases ho
    · cases ho
  · cases ho
end
end Go.Proofs.Yteinekidpokbpaa.Am
