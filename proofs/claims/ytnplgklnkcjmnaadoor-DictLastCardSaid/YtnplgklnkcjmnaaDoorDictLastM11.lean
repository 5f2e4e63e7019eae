/- Texts put together: DcL, DcM, DcN, DcS, DcQ. -/
import Derived.Test.YtnplgklnkcjmnaaDoorDictLastM10
namespace Go.Proofs.YtnplgklnkcjmnaaDoor.DcT
open Go.RowKit Go.Proofs.YtnplgklnkcjmnaaDoor.Am Go.Proofs.YtnplgklnkcjmnaaDoor Go.Proofs.YtnplgklnkcjmnaaDoor.PrT
set_option linter.unusedVariables false
set_option linter.unusedSimpArgs false


section
variable {v m : Nat} {k p : Int} {ks vs ks' vs' : List Int}
theorem op_enc (hk : KV v k) (h : TabV k m ks vs) (hf : fitsB k p m = true) : opE v k k p m (encT v m ks vs) = 0 ∧ opK v k k p m (encT v m ks vs) = ks ∧ opV v k k p m (encT v m ks vs) = vs := by
  have hm := fitsK hf
  have hc : cfB k k p m = true := by unfold cfB; rw [hf]; simp
  obtain ⟨e1, e2, e3⟩ := op_yes (v := v) (w := encT v m ks vs) hc
  obtain ⟨d1, d2, d3⟩ := h.dec hk (by omega) (by omega)
  rw [Int.toNat_natCast] at e1 e2 e3
  obtain ⟨g1, g2, g3⟩ := d_yes d1
  exact ⟨e3.trans g3, e1.trans (g1.trans d2), e2.trans (g2.trans d3)⟩
theorem enc_inj (hk : KV v k) (h : TabV k m ks vs) (h' : TabV k m ks' vs') (hm0 : 0 < m) (hm : m ≤ 256) (e : encT v m ks vs = encT v m ks' vs') : ks = ks' ∧ vs = vs' := by
  obtain ⟨d1, d2, d3⟩ := h.dec hk hm0 hm
  obtain ⟨g1, g2, g3⟩ := h'.dec hk hm0 hm
  rw [e] at d2 d3
  exact ⟨d2.symm.trans g2, d3.symm.trans g3⟩
theorem laid_nil (n : Nat) : laid sP n [] = List.replicate n (0, 0) := rfl
theorem flat_zero (v n : Nat) (hv : v = 1 ∨ v = 2) : flat v (List.replicate n (0, 0)) = List.replicate (n * v) 0 := by
  induction n with
  | zero => simp [flat]
  | succ n ih =>
    rw [List.replicate_succ, flat_cons, ih, Nat.succ_mul]
    rcases hv with rfl | rfl <;> rfl
theorem enc_nil (v m : Nat) (hv : v = 1 ∨ v = 2) : encT v m [] [] = List.replicate (1 + 2 * m * v) 0 := by
  unfold encT tabT
  rw [show rsK v [] [] = [] from rfl, laid_nil, flat_zero v _ hv, Nat.add_comm 1, List.replicate_succ]; rfl
theorem ap_enc (hk : KV v k) (h : TabV k m ks vs) (hf : fitsB k p m = true) (code key val : Int) : apL v k k p m (encT v m ks vs) code key val = encT v m (tabD k m ks vs code key val).1 (tabD k m ks vs code key val).2.1 ∧ apR v k k p m (encT v m ks vs) code key val = (tabD k m ks vs code key val).2.2.1 ∧ apV v k k p m (encT v m ks vs) code key val = (tabD k m ks vs code key val).2.2.2 := by
  obtain ⟨e1, e2, e3⟩ := op_enc hk h hf
  obtain ⟨y1, y2, y3⟩ := ap_yes (code := code) (key := key) (val := val) e1
  rw [e2, e3, Int.toNat_natCast] at y1
  rw [e2, e3] at y2 y3
  exact ⟨y1, y2, y3⟩
end
theorem up_enc {m : Nat} {p : Int} {ks vs : List Int} (h : TabV 3 m ks vs) (hf : fitsB 3 p m = true) (l : List R) (hl : ∀ r ∈ l, r.1 ≤ 4611686018427387904) :
    (upS m (ks, vs) l = none → updE 3 p m (encT 2 m ks vs) l = 11 ∧ updL 3 p m (encT 2 m ks vs) l = []) ∧
    (∀ s, upS m (ks, vs) l = some s → updE 3 p m (encT 2 m ks vs) l = 0 ∧ updL 3 p m (encT 2 m ks vs) l = encT 2 m s.1 s.2) := by
  obtain ⟨e1, e2, e3⟩ := op_enc kv2 h hf
  have hok : ¬ ∃ r ∈ l, r.1 > 4611686018427387904 := fun ⟨r, hr, hb⟩ => by have := hl r hr; omega
  have hE : updE 3 p m (encT 2 m ks vs) l = if upS m (ks, vs) l = none then 11 else 0 := by
    unfold updE; rw [e1, if_neg (fun q => q rfl), if_neg hok, e2, e3]
  constructor
  · intro hn
    rw [hn, if_pos rfl] at hE
    exact ⟨hE, by unfold updL; rw [hE, if_neg (by decide)]⟩
  · intro s hs
    rw [hs, if_neg (by simp)] at hE
    refine ⟨hE, ?_⟩
    unfold updL updS
    rw [hE, if_pos rfl, e2, e3, hs, Int.toNat_natCast]; rfl
theorem tb00 : TabV 3 1 [] [] := tabV_nil 3 1
theorem aw_f : fitsB 3 1 ((1 : Nat) : Int) = true := by decide
theorem aw_z : encT 2 1 [] [] = [0, 0, 0, 0, 0] := enc_nil 2 1 (.inr rfl)
theorem aw_t1 : tabD 3 1 [] [] 11 5 1 = ([5], [1], 0, 0) := by decide
theorem aw_t2 : tabD 3 1 [5] [1] 11 5 2 = ([5], [2], 0, 1) := by decide
theorem aw_t3 : tabD 3 1 [5] [1] 11 6 1 = ([5], [1], 11, 0) := by decide
theorem aw_t4 : tabD 3 1 [5] [2] 7 5 0 = ([], [], 0, 2) := by decide
theorem recs_two (a b c d : Int) : recs 2 2 [a, b, c, d] = [(a, b), (c, d)] := rfl
theorem aw_u1 : updE 3 1 1 [0, 0, 0, 0, 0] (recs 2 2 [5, 1, 5, 2]) = 0 ∧ updL 3 1 1 [0, 0, 0, 0, 0] (recs 2 2 [5, 1, 5, 2]) = encT 2 1 [5] [2] := by
  have := (up_enc tb00 aw_f [(5, 1), (5, 2)] (by decide)).2 ([5], [2]) (by decide)
  rw [aw_z] at this; exact this
theorem aw_u2 : updE 3 1 1 [0, 0, 0, 0, 0] (recs 2 2 [5, 1, 6, 1]) = 11 ∧ updL 3 1 1 [0, 0, 0, 0, 0] (recs 2 2 [5, 1, 6, 1]) = [] := by
  have := (up_enc tb00 aw_f [(5, 1), (6, 1)] (by decide)).1 (by decide)
  rw [aw_z] at this; exact this
theorem tb52 : TabV 3 1 [5] [2] := by
  have h1 := tabD_v tb00 (key := 5) (v := 2) (code := 11) ⟨by decide, by decide⟩ ⟨by decide, by decide⟩
  rw [show tabD 3 ((1 : Nat) : Int) [] [] 11 5 2 = ([5], [2], 0, 0) by decide] at h1
  exact h1
theorem aw_o1 : opE 2 3 3 1 1 (encT 2 1 [5] [2]) = 0 ∧ opK 2 3 3 1 1 (encT 2 1 [5] [2]) = [5] ∧ opV 2 3 3 1 1 (encT 2 1 [5] [2]) = [2] := op_enc kv2 tb52 aw_f
theorem aw_a1 : apL 2 3 3 1 1 (encT 2 1 [5] [2]) 7 5 0 = [0, 0, 0, 0, 0] ∧ apR 2 3 3 1 1 (encT 2 1 [5] [2]) 7 5 0 = 0 ∧ apV 2 3 3 1 1 (encT 2 1 [5] [2]) 7 5 0 = 2 := by
  have h := ap_enc kv2 tb52 aw_f 7 5 0
  rw [show ((1 : Nat) : Int) = 1 from rfl, aw_t4] at h
  dsimp only at h
  rw [aw_z] at h
  exact h
theorem aw_o2 : opE 2 3 3 1 1 [1, 0, 0, 0, 0] = 2 ∧ opK 2 3 3 1 1 [1, 0, 0, 0, 0] = [] ∧ opV 2 3 3 1 1 [1, 0, 0, 0, 0] = [] := by
  have hu : AllU [1, 0, 0, 0, 0] := by intro x hx; simp at hx; rcases hx with rfl | rfl <;> exact ⟨by decide, by decide⟩
  rcases op_facts kv2 3 1 1 hu with ⟨-, -, -, hT, hE, hO⟩ | ⟨h1, h2, h3, -⟩
  · exfalso
    have h9 := tb00.lst kv2 (by omega) (by omega)
    have hd : tabT 2 1 [] [] = [0, 0, 0, 0] := by have := aw_z; unfold encT at this; exact (List.cons.inj this).2
    rw [hd] at h9
    unfold okD at hO
    have := (of_decide_eq_true hO).2.2.2.1
    rw [show List.drop 1 [(1 : Int), 0, 0, 0, 0] = [0, 0, 0, 0] from rfl, h9] at this
    revert this; decide
  · refine ⟨?_, h2, h3⟩
    rcases h1 with h | h
    · exact h
    · exfalso
      have hc : cfB 3 3 1 1 = true := by decide
      obtain ⟨-, -, e3⟩ := op_yes (v := 2) (w := [1, 0, 0, 0, 0]) hc
      rw [h] at e3
      unfold dE at e3
      split at e3 <;> cases e3
theorem aw_o3 (w : List Int) : opE 2 3 2 1 1 w = 5 := (op_no (v := 2) (w := w) (by decide)).2.2
theorem allU_52 : AllU (encT 2 1 [5] [2]) := tb52.enc_u kv2 (by omega)
theorem len_52 : (encT 2 1 [5] [2]).length = 5 := tb52.enc_len kv2
theorem aw_pr : flat 2 (prD [5] [2]) = [5, 2] := rfl
theorem aw_all : ∃ W : List Int, (AllU W ∧ W.length = 5) ∧ (updE 3 1 1 [0, 0, 0, 0, 0] (recs 2 2 [5, 1, 5, 2]) = 0 ∧ updL 3 1 1 [0, 0, 0, 0, 0] (recs 2 2 [5, 1, 5, 2]) = W) ∧
    (opE 2 3 3 1 1 W = 0 ∧ opK 2 3 3 1 1 W = [5] ∧ opV 2 3 3 1 1 W = [2]) ∧ (apL 2 3 3 1 1 W 7 5 0 = [0, 0, 0, 0, 0] ∧ apR 2 3 3 1 1 W 7 5 0 = 0 ∧ apV 2 3 3 1 1 W 7 5 0 = 2) :=
  ⟨_, ⟨allU_52, len_52⟩, aw_u1, aw_o1, aw_a1⟩
theorem ctxAw12_eqOk : ∀ t, hasN [38] t = true → Tryd.prog.stoodInHeld t = false := HeldOk.mem ⟨by kernel_rfl, trivial⟩
noncomputable def ctxAw12 (P : Program) (heq : ∀ t, hasN [38] t = true → P.stoodInHeld t = false) : Ctx := ctx P glM [eUpdate, ePairs, eApply, eZero12, eRRecs, Go.Proofs.YtnplgklnkcjmnaaDoor.eWords] [38] heq [] (fun _ h => by cases h)
theorem ctxAw12_good : (ctxAw12 Tryd.prog ctxAw12_eqOk).good := ctx_good (by kernel_rfl) (AllOk.mem ⟨eUpdate_ok, ePairs_ok, eApply_ok, entry_lift eZero12_ok, entry_lift eRRecs_ok, entry_lift Go.Proofs.YtnplgklnkcjmnaaDoor.eWords_ok, trivial⟩) glM_two
attribute [local irreducible] updE updL apL apR apV opE opK opV encT prD
set_option maxHeartbeats 2000000 in
set_option maxRecDepth 100000 in
theorem awake12_pure : Pure Tryd.prog glM 6 [] (.v (.bool true)) := by
  have hz : AllU [0, 0, 0, 0, 0] := by intro x hx; simp at hx; unfold U64; omega
  have h1 : AllU [(5 : Int), 1, 5, 2] := by intro x hx; simp at hx; unfold U64; omega
  have h2 : AllU [(5 : Int), 1, 6, 1] := by intro x hx; simp at hx; unfold U64; omega
  have h3 : AllU [(1 : Int), 0, 0, 0, 0] := by intro x hx; simp at hx; unfold U64; omega
  have u5 : U64 5 := ⟨by decide, by decide⟩
  have u0 : U64 0 := ⟨by decide, by decide⟩
  have e0 : List.replicate (1 + 4 * Int.toNat 1) (0 : Int) = [0, 0, 0, 0, 0] := rfl
  obtain ⟨W, ⟨allU_52, len_52⟩, aw_u1, aw_o1, aw_a1⟩ := aw_all
  refine pure_of (C := ctxAw12 Tryd.prog ctxAw12_eqOk) ctxAw12_good Tryd.func6 (c := bodyOf Tryd.f6) (by rfl) (Nat.le_of_ble_eq_true (by rfl)) 4 0 [0, 1, 2, 3, 5, 6, 7, 8, 9, 10, 12, 15] ?_
  conv => whnf
  repeat (refine And.intro (by decide) ?_; conv => whnf)
  rw [e0]
  refine And.intro ⟨hz, h1, by decide, by decide⟩ ?_
  conv => whnf
  rw [aw_u1.1, aw_u1.2]
  conv => whnf
  repeat (refine And.intro (by decide) ?_; conv => whnf)
  try rw [e0]
  refine And.intro ⟨hz, h2, by decide, by decide⟩ ?_
  conv => whnf
  rw [aw_u2.1, aw_u2.2]
  conv => whnf
  refine And.intro ⟨allU_52, by rw [len_52]; decide⟩ ?_
  conv => whnf
  rw [aw_o1.1, aw_o1.2.1, aw_o1.2.2]
  conv => whnf
  refine And.intro ⟨allU_52, by rw [len_52]; decide, u5, u0⟩ ?_
  conv => whnf
  rw [aw_a1.1, aw_a1.2.1, aw_a1.2.2]
  conv => whnf
  refine And.intro ⟨h3, by decide⟩ ?_
  conv => whnf
  rw [aw_o2.1, aw_o2.2.1, aw_o2.2.2]
  conv => whnf
  refine And.intro ⟨allU_52, by rw [len_52]; decide, u0, u0⟩ ?_
  conv => whnf
  rw [aw_o3]
  conv => whnf
  rw [show flat 2 (prD [5] [2]) = [5, 2] by unfold prD; rfl]
  conv => whnf
  repeat (refine And.intro (by decide) ?_; conv => whnf)
  rfl
noncomputable def eAwk12 : Entry := ⟨6, 10, fun l => match l with | [] => some (none, .v (.bool true), []) | _ => none⟩
theorem eAwk12_ok : eAwk12.ok Tryd.prog glM := ⟨Am.enters_of Tryd.func6 (by kernel_rfl) (by kernel_rfl), by
  intro args c t bs h hc
  simp only [eAwk12] at h
  split at h <;> cases h
  exact awake12_pure⟩
end Go.Proofs.YtnplgklnkcjmnaaDoor.DcT
namespace Go.Proofs.YtnplgklnkcjmnaaDoor.DcT
open Go.RowKit Go.Proofs.YtnplgklnkcjmnaaDoor.Am Go.Proofs.YtnplgklnkcjmnaaDoor Go.Proofs.YtnplgklnkcjmnaaDoor.PrT
set_option linter.unusedVariables false
set_option linter.unusedSimpArgs false


theorem tabD_look {m : Int} {ks vs : List Int} {code key val : Int} (h7 : code ≠ 7) (h11 : code ≠ 11) : (tabD 3 m ks vs code key val).1 = ks ∧ (tabD 3 m ks vs code key val).2.1 = vs := by
  have hv : valB 3 = true := rfl
  unfold tabD
  split
  · exact ⟨rfl, rfl⟩
  · split
    · exact ⟨rfl, rfl⟩
    · unfold plcD
      rw [if_neg h7]
      split
      · split <;> exact ⟨rfl, rfl⟩
      · rw [if_neg (fun q => by rw [hv] at q; cases q.2)]
        split
        · split <;> exact ⟨rfl, rfl⟩
        · rw [if_neg (fun q => by rw [hv] at q; cases q.2), if_neg (fun q => h11 q.1)]
          exact ⟨rfl, rfl⟩
attribute [local irreducible] updE updL apL apR apV opE opK opV encT prD tabD stK rmD keyD hereK atK insK
end Go.Proofs.YtnplgklnkcjmnaaDoor.DcT
namespace Go.Proofs.YtnplgklnkcjmnaaDoor.DcT
open Go.RowKit Go.Proofs.YtnplgklnkcjmnaaDoor.Am Go.Proofs.YtnplgklnkcjmnaaDoor Go.Proofs.YtnplgklnkcjmnaaDoor.PrT
set_option linter.unusedVariables false
set_option linter.unusedSimpArgs false


/-- Raw pairs. -/
def prL (raw : List Int) (c : Nat) : List R := (List.range c).map fun i => (keyD (raw.getD (i * 2) 0), ipick (raw.getD (i * 2 + 1) 0) 1000)
theorem prL_len (raw : List Int) (c : Nat) : (prL raw c).length = c := by simp [prL]
theorem prL_succ (raw : List Int) (c : Nat) : prL raw (c + 1) = prL raw c ++ [(keyD (raw.getD (c * 2) 0), ipick (raw.getD (c * 2 + 1) 0) 1000)] := by simp [prL, List.range_succ]
theorem prL_u (raw : List Int) (c : Nat) : ∀ r ∈ prL raw c, (0 ≤ r.1 ∧ r.1 ≤ 4611686018427387904) ∧ U64 r.1 ∧ U64 r.2 := by
  intro r hr
  unfold prL at hr
  obtain ⟨i, _, rfl⟩ := List.mem_map.1 hr
  have h1 := keyD_f (raw.getD (i * 2) 0)
  have h2 := ipick_bounds (raw.getD (i * 2 + 1) 0) (n := 1000) (by omega)
  dsimp only
  unfold U64
  omega
theorem allU_fl2 {l : List R} (h : ∀ r ∈ l, U64 r.1 ∧ U64 r.2) : AllU (flat 2 l) := allU_flat h
attribute [local irreducible] updE updL apL apR apV opE opK opV encT prD tabD stK rmD keyD hereK atK insK prL recs
end Go.Proofs.YtnplgklnkcjmnaaDoor.DcT
namespace Go.Proofs.YtnplgklnkcjmnaaDoor.DcT
open Go.RowKit Go.Proofs.YtnplgklnkcjmnaaDoor.Am Go.Proofs.YtnplgklnkcjmnaaDoor Go.Proofs.YtnplgklnkcjmnaaDoor.PrT
set_option linter.unusedVariables false
set_option linter.unusedSimpArgs false
section
variable {m : Nat} {ks vs ks' vs' : List Int}
/-- The words hang on what is there alone. -/
theorem enc_ext (h : TabV 3 m ks vs) (h' : TabV 3 m ks' vs') (hm : ∀ r, r ∈ rsK 2 ks vs ↔ r ∈ rsK 2 ks' vs') : encT 2 m ks vs = encT 2 m ks' vs' := by
  have e : rsK 2 ks vs = rsK 2 ks' vs' := sorted_ext (f := fun r => r.1) (h.sorted kv2) (h'.sorted kv2) hm
  have hl : ks.length = ks'.length := by rw [← rsK_len 2 ks vs, e, rsK_len]
  unfold encT tabT
  rw [e, hl]
theorem rs_here (h : TabV 3 m ks vs) (x : Int) : hereK 3 ks x = true ↔ ∃ y, (x + 1, y) ∈ rsK 2 ks vs := by
  rw [here_iff h kv2]
  constructor
  · rintro ⟨i, hi, rfl⟩; exact ⟨vs.getD i 0, (rsK_mem _ _ _ _).2 ⟨i, hi, rfl⟩⟩
  · rintro ⟨y, hy⟩
    obtain ⟨i, hi, e⟩ := (rsK_mem _ _ _ _).1 hy
    have := congrArg Prod.fst e
    exact ⟨i, hi, by simp only at this; omega⟩
theorem rs_val (h : TabV 3 m ks vs) {x : Int} (hh : hereK 3 ks x = true) : (x + 1, vs.getD (atK 3 ks x) 0) ∈ rsK 2 ks vs := by
  obtain ⟨h1, h2⟩ := hereK_t hh
  exact (rsK_mem _ _ _ _).2 ⟨_, h1, by rw [h2]; rfl⟩
theorem rs_fun (h : TabV 3 m ks vs) {x y z : Int} (h1 : (x, y) ∈ rsK 2 ks vs) (h2 : (x, z) ∈ rsK 2 ks vs) : y = z := by
  obtain ⟨i, hi, e⟩ := (rsK_mem _ _ _ _).1 h1
  obtain ⟨j, hj, f⟩ := (rsK_mem _ _ _ _).1 h2
  have e1 := congrArg Prod.fst e
  have f1 := congrArg Prod.fst f
  have e2 := congrArg Prod.snd e
  have f2 := congrArg Prod.snd f
  simp only at e1 f1 e2 f2
  have : i = j := h.k_inj kv2 hi hj (by omega)
  subst this
  rw [if_neg (by decide)] at e2 f2
  rw [e2, f2]
/-- A put where there is room. -/
theorem putF (h : TabV 3 m ks vs) (hm0 : 0 < m) (hm : m ≤ 256) {x val : Int} (hx : 0 ≤ x ∧ x ≤ 4611686018427387904) (hv : U64 val) (hl : ks.length < m) :
    ∃ ks' vs' old, tabD 3 m ks vs 11 x val = (ks', vs', 0, old) ∧ TabV 3 m ks' vs' ∧ (ks.length ≤ ks'.length ∧ ks'.length ≤ ks.length + 1 ∧ (hereK 3 ks x = true → ks'.length = ks.length)) ∧ (∀ r, r ∈ rsK 2 ks' vs' ↔ r = (x + 1, val) ∨ (r ∈ rsK 2 ks vs ∧ r.1 ≠ x + 1)) ∧
      (∀ o : Option Int, (∀ y, (x + 1, y) ∈ rsK 2 ks vs ↔ o = some y) → old = o.getD 0) := by
  cases hh : hereK 3 ks x
  · obtain ⟨e, hT, -⟩ := put_new h hm0 hm hx hv hh (by omega)
    have hil := insK_len (w := x) (atK_le 3 ks x)
    refine ⟨_, _, _, e, hT, ⟨by omega, by omega, fun q => by cases q⟩, mem_ins h kv2 hh (fun q => by cases q) _ (fun _ => rfl), fun o ho => ?_⟩
    cases o with
    | none => rfl
    | some y => exact absurd ((rs_here h x).2 ⟨y, (ho y).2 rfl⟩) (by rw [hh]; exact Bool.false_ne_true)
  · obtain ⟨e, hT, -⟩ := put_here h hm0 hm hx hv hh
    refine ⟨_, _, _, e, hT, ⟨by omega, by omega, fun _ => rfl⟩, mem_set h kv2 rfl hh, fun o ho => ?_⟩
    have := (ho _).1 (rs_val h hh)
    rw [this]; rfl
/-- A key that is there, taken out. -/
theorem delF (h : TabV 3 m ks vs) (hm0 : 0 < m) (hm : m ≤ 256) {x y val : Int} (hx : 0 ≤ x ∧ x ≤ 4611686018427387904) (hv : U64 val) (hy : (x + 1, y) ∈ rsK 2 ks vs) :
    ∃ ks' vs', tabD 3 m ks vs 7 x val = (ks', vs', 0, y) ∧ TabV 3 m ks' vs' ∧ ks'.length + 1 = ks.length ∧ (∀ r, r ∈ rsK 2 ks' vs' ↔ (r ∈ rsK 2 ks vs ∧ r.1 ≠ x + 1)) := by
  have hh := (rs_here h x).2 ⟨y, hy⟩
  obtain ⟨e, hT, -⟩ := del_here h hm0 hm hx hv hh
  obtain ⟨h1, h2⟩ := hereK_t hh
  rw [rs_fun h (rs_val h hh) hy] at e
  refine ⟨_, _, e, hT, ?_, mem_del h kv2 hh _ (fun _ => rfl)⟩
  have := delK_len h1
  omega
/-- What is told of a key. -/
theorem getF (h : TabV 3 m ks vs) {x val : Int} (hx : x ≤ 4611686018427387904) (o : Option Int) (ho : ∀ y, (x + 1, y) ∈ rsK 2 ks vs ↔ o = some y) :
    tabD 3 m ks vs 10 x val = (ks, vs, (if o = none then 12 else 0), o.getD 0) := by
  cases hh : hereK 3 ks x
  · rw [get_no h hx hh]
    cases o with
    | none => rfl
    | some y => exact absurd ((rs_here h x).2 ⟨y, (ho y).2 rfl⟩) (by rw [hh]; exact Bool.false_ne_true)
  · rw [get_here h hx hh]
    have := (ho _).1 (rs_val h hh)
    rw [this]; rfl
theorem rs_nil (r : R) : ¬ r ∈ rsK 2 [] [] := by intro h; cases h
theorem putO_of {s : List Int × List Int} {ks' vs' : List Int} {x val old : Int} (e : tabD 3 m s.1 s.2 11 x val = (ks', vs', 0, old)) : putO m s (x, val) = some (ks', vs') := by unfold putO; dsimp only; rw [e]; rfl
end
/-! ### the last one of a key -/
def lsO (l : List R) (x : Int) : Option Int := l.foldl (fun o r => if r.1 = x then some r.2 else o) none
theorem lsO_snoc (l : List R) (r : R) (x : Int) : lsO (l ++ [r]) x = if r.1 = x then some r.2 else lsO l x := by unfold lsO; rw [List.foldl_append]; rfl
theorem lsO_take {l : List R} {j : Nat} (h : j < l.length) (x : Int) : lsO (l.take (j + 1)) x = if (gR l j).1 = x then some (gR l j).2 else lsO (l.take j) x := by
  rw [List.take_succ_eq_append_getElem h, lsO_snoc]
  unfold gR
  rw [List.getD_eq_getElem?_getD, List.getElem?_eq_getElem h]; rfl
theorem keyD_nq (n : Int) (h : 12 ≤ keyD n) : 4611686018427387900 ≤ keyD n := by
  have := ipick_bounds n (n := 16) (by omega)
  unfold keyD at *
  split at h <;> split <;> omega
end Go.Proofs.YtnplgklnkcjmnaaDoor.DcT
namespace Go.Proofs.YtnplgklnkcjmnaaDoor.DcT
open Go.RowKit Go.Proofs.YtnplgklnkcjmnaaDoor.Am Go.Proofs.YtnplgklnkcjmnaaDoor Go.Proofs.YtnplgklnkcjmnaaDoor.PrT
set_option linter.unusedVariables false
set_option linter.unusedSimpArgs false


theorem ctxLs12_eqOk : ∀ t, hasN [38] t = true → Tryd.prog.stoodInHeld t = false := HeldOk.mem ⟨by kernel_rfl, trivial⟩
noncomputable def ctxLs12 (P : Program) (heq : ∀ t, hasN [38] t = true → P.stoodInHeld t = false) : Ctx := ctx P glM [eAwk12, ePair12, eKey12, ePick12, eZero12, eApply, eUpdate, Go.Proofs.YtnplgklnkcjmnaaDoor.eWords] [38] heq [] (fun _ h => by cases h)
theorem ctxLs12_good : (ctxLs12 Tryd.prog ctxLs12_eqOk).good := ctx_good (by kernel_rfl) (AllOk.mem ⟨eAwk12_ok, entry_lift ePair12_ok, entry_lift eKey12_ok, entry_lift ePick12_ok, entry_lift eZero12_ok, eApply_ok, eUpdate_ok, entry_lift Go.Proofs.YtnplgklnkcjmnaaDoor.eWords_ok, trivial⟩) glM_two
attribute [local irreducible] updE updL apL apR apV opE opK opV encT prD tabD keyD hereK atK insK prL recs upS lsO rsK
set_option maxHeartbeats 4000000 in
set_option maxRecDepth 100000 in
theorem last_pure (c1 : Nat) (raw : List Int) (k : Int) (hraw : AllI raw) (hk : I64 k) : Pure Tryd.prog glM 4 [.fl [.i64, .i64] c1 raw, .v (.int .i64 k)] (.v (.bool true)) := by
  refine pure_wf fun hww => ?_
  obtain ⟨⟨w1, w2⟩, -⟩ := hww
  simp only [List.length_cons, List.length_nil, Nat.zero_add, Nat.mul_one] at w1
  have hf : fitsB 3 1 ((20 : Nat) : Int) = true := by decide
  have hz0 : encT 2 20 [] [] = List.replicate (1 + 4 * 20) 0 := enc_nil 2 20 (.inr rfl)
  have hzu : AllU (List.replicate (1 + 4 * 20) 0) := by rw [← hz0]; exact (tabV_nil 3 20).enc_u kv2 (by omega)
  refine pure_of (C := ctxLs12 Tryd.prog ctxLs12_eqOk) ctxLs12_good Tryd.func4 (c := bodyOf Tryd.f4) (by rfl) (Nat.le_of_ble_eq_true (by rfl)) 4 0 [0, 1, 4, 5, 6, 7, 8, 9, 10, 11, 12, 13, 14, 15, 16, 17, 19, 20, 21, 23, 24, 36, 47, 57, 82, 103, 113, 114, 115, 116, 123, 132, 154] ?_
  conv => whnf
  repeat (refine And.intro (by decide) ?_; conv => whnf)
  refine TW.weak ctxLs12_good.glq ⟨⟨[0, 1, 5, 6, 7, 8, 9], [(24, 24)], [112]⟩, rfl, rfl, rfl⟩ ?_
  refine TW.nilOwn 8 5000 2 (.fl [.u64, .u64] []) rfl rfl (.inr ⟨_, _, rfl⟩) (by decide) ?_
  have hap := fun (ks' vs' : List Int) (h : TabV 3 20 ks' vs') (code key val : Int) => ap_enc kv2 h hf code key val
  have hop := fun (ks' vs' : List Int) (h : TabV 3 20 ks' vs') => (op_enc kv2 h hf).1
  have hUN := fun (l : List R) (h : ∀ r ∈ l, r.1 ≤ 4611686018427387904) => up_enc (tabV_nil 3 20) hf l h
  rw [hz0] at hUN
  refine TW.loopF ctxLs12_good 0 (base := 0) (lv := [0, 1, 4, 5, 6, 7, 8, 9, 10, 11, 12, 13, 14, 15, 16, 17, 19, 20, 21, 23, 24, 36, 47, 57, 82, 103, 113, 114, 115, 116, 123, 132, 154]) [7, 8, 9] [5000] [(5000, 5000)] (fun x : Nat × List Int => [.fl [.u64] (1 + 2 * 20 * 2) x.2, .ow 5000 2 x.1, .v (.int .i64 x.1)]) (fun x => [.fl [.u64, .u64] (flat 2 (prL raw x.1))])
    (fun x => (x.1 ≤ c1 ∧ x.1 ≤ 20) ∧ ∃ ks vs, TabV 3 20 ks vs ∧ x.2 = encT 2 20 ks vs ∧ ks.length ≤ x.1 ∧ upS 20 ([], []) (prL raw x.1) = some (ks, vs) ∧ ∀ r, r ∈ rsK 2 ks vs ↔ lsO (prL raw x.1) (r.1 - 1) = some r.2) (fun x => c1 - x.1) ?_
  conv => whnf
  refine ⟨⟨(0, encT 2 20 [] []), ⟨rfl, by rw [hz0]; rfl, by unfold prL; rfl⟩, ⟨by omega, by omega⟩, [], [], tabV_nil 3 20, rfl, Nat.le_refl _, (by unfold prL; exact upS_nil _ _), fun r => ⟨fun h => absurd h (rs_nil r), fun h => (by unfold prL lsO at h; cases h)⟩⟩, fun ⟨j, X⟩ ⟨⟨hj, hj2⟩, ks, vs, hT, hX, hkl, hS, hM⟩ => ?_⟩
  replace hj : j ≤ c1 := hj
  replace hj2 : j ≤ 20 := hj2
  replace hX : X = encT 2 20 ks vs := hX
  replace hkl : ks.length ≤ j := hkl
  replace hS : upS 20 ([], []) (prL raw j) = some (ks, vs) := hS
  replace hM : ∀ r, r ∈ rsK 2 ks vs ↔ lsO (prL raw j) (r.1 - 1) = some r.2 := hM
  subst hX
  have hwu := hT.enc_u kv2 (by omega)
  have hwl := hT.enc_len kv2
  have hpl := prL_len raw j
  conv => whnf
  by_cases hgo : j < c1 ∧ j < 20
  · have i1 : I64 (raw.getD (j * 2) 0) := hraw _ (by rw [List.getD_eq_getElem?_getD, List.getElem?_eq_getElem (by omega)]; exact List.getElem_mem (by omega))
    have i2 : I64 (raw.getD (j * 2 + 1) 0) := hraw _ (by rw [List.getD_eq_getElem?_getD, List.getElem?_eq_getElem (by omega)]; exact List.getElem_mem (by omega))
    have E0 : raw.getD (0 + (j : Int).toNat * (1 + 1) + 0) 0 = raw.getD (j * 2) 0 := by rw [show 0 + (j : Int).toNat * (1 + 1) + 0 = j * 2 by omega]
    have E1 : raw.getD (0 + (j : Int).toNat * (1 + 1) + (0 + 1)) 0 = raw.getD (j * 2 + 1) 0 := by rw [show 0 + (j : Int).toNat * (1 + 1) + (0 + 1) = j * 2 + 1 by omega]
    have kb := keyD_f (raw.getD (j * 2) 0)
    have vb := ipick_bounds (raw.getD (j * 2 + 1) 0) (n := 1000) (by omega)
    have hPs := prL_succ raw j
    refine ifB_t (show decide ((((j, encT 2 20 ks vs) : Nat × List Int).1 : Int) < c1) = true from decide_eq_true (by dsimp only; omega)) ?_
    conv => whnf
    refine ifB_t (show (bif true then decide ((((j, encT 2 20 ks vs) : Nat × List Int).1 : Int) < 20) else false) = true from decide_eq_true (by dsimp only; omega)) ?_
    conv => whnf
    repeat (refine And.intro (by first | omega | (dsimp only; omega)) ?_; conv => whnf)
    rw [show (((j, encT 2 20 ks vs) : Nat × List Int).1) = j from rfl, E0, E1]
    refine And.intro ⟨i1, i2⟩ ?_
    conv => whnf
    generalize keyD (raw.getD (j * 2) 0) = ky at *
    generalize ipick (raw.getD (j * 2 + 1) 0) 1000 = vl at *
    refine TW.loopD ctxLs12_good 0 (base := 0) (lv := [0, 1, 4, 5, 6, 7, 8, 9, 10, 11, 12, 13, 14, 15, 16, 17, 19, 20, 21, 23, 24, 36, 47, 57, 82, 103, 113, 114, 115, 116, 123, 132, 154]) [11, 12] [] [] (fun x : Nat × Int => [.v (.int .u64 x.2), .v (.int .i64 x.1)]) (fun _ => []) (fun x => x.1 ≤ j ∧ x.2 = (lsO ((prL raw j).take x.1) ky).getD 0) (fun x => j - x.1) ?_
    conv => whnf
    refine ⟨⟨(0, 0), ⟨rfl, rfl, rfl⟩, Nat.zero_le _, by unfold lsO; rfl⟩, fun ⟨t, was⟩ ⟨ht, hw⟩ => ?_⟩
    replace ht : t ≤ j := ht
    replace hw : was = (lsO ((prL raw j).take t) ky).getD 0 := hw
    conv => whnf
    refine ifB_dec (fun g => ?_) (fun g => ?_)
    · replace g : (t : Int) < j := g
      have F0 : (flat 2 (prL raw j)).getD (0 + addN 0 (t : Int).toNat * (1 + 1)) 0 = (gR (prL raw j) t).1 := by
        rw [addN_eq, show 0 + (0 + (t : Int).toNat) * (1 + 1) = t * 2 by omega, flat_key (.inr rfl) _ (by omega)]; rfl
      have F1 : (flat 2 (prL raw j)).getD (0 + 1 + addN 0 (t : Int).toNat * (1 + 1)) 0 = (gR (prL raw j) t).2 := by
        rw [addN_eq, show 0 + 1 + (0 + (t : Int).toNat) * (1 + 1) = t * 2 + 1 by omega, flat_val _ (by omega)]
      have hls := lsO_take (l := prL raw j) (j := t) (by omega) ky
      have hws := wsucc (j := t) (n := 20) (by omega) (by omega)
      conv => whnf
      repeat (refine And.intro (by first | omega | (dsimp only; omega)) ?_; conv => whnf)
      rw [show ((j, encT 2 20 ks vs) : Nat × List Int).1 = j from rfl, show ((t, was) : Nat × Int).1 = t from rfl, F0]
      refine ifB_eq (x := (gR (prL raw j) t).1) (y := ky) (fun ge => ?_) (fun ge => ?_)
      · rw [if_pos ge] at hls
        conv => whnf
        repeat (refine And.intro (by first | omega | (dsimp only; omega)) ?_; conv => whnf)
        rw [F1, hws]
        exact ⟨(t + 1, (gR (prL raw j) t).2), [], ⟨rfl, rfl, rfl⟩, ⟨(by omega : t + 1 ≤ j), by dsimp only; rw [hls]; rfl⟩, by dsimp only; omega⟩
      · rw [if_neg ge] at hls
        conv => whnf
        rw [hws]
        exact ⟨(t + 1, was), [], ⟨rfl, rfl, rfl⟩, ⟨(by omega : t + 1 ≤ j), by dsimp only; rw [hls, hw]⟩, by dsimp only; omega⟩
    · replace g : ¬ (t : Int) < j := g
      have htj : t = j := by omega
      rw [htj, List.take_of_length_le (by omega)] at hw
      obtain ⟨ks', vs', old, hd, hT', ⟨q1, q2, -⟩, hM', hold⟩ := putF hT (by omega) (by omega) kb (val := vl) (by unfold U64; omega) (by omega)
      have hwas : old = was := by rw [hw]; exact hold _ (fun y => by have := hM (ky + 1, y); simp only [Int.add_sub_cancel] at this; exact this)
      have hel := hT'.enc_len kv2
      obtain ⟨y1, y2, y3⟩ := hap ks vs hT 11 ky vl
      rw [hd] at y1 y2 y3
      dsimp only at y1 y2 y3
      conv => whnf
      repeat (refine And.intro (by first | omega | (dsimp only; omega)) ?_; conv => whnf)
      have uk : U64 ky := by unfold U64; omega
      have uv : U64 vl := by unfold U64; omega
      have G0 : (([0, 0].set (0 + 0 * (1 + 1) + 0) ky).set (0 + 0 * (1 + 1) + (0 + 1)) vl).getD (0 + 0 * (1 + 1)) 0 = ky := rfl
      have G1 : (([0, 0].set (0 + 0 * (1 + 1) + 0) ky).set (0 + 0 * (1 + 1) + (0 + 1)) vl).getD (0 + 1 + 0 * (1 + 1)) 0 = vl := rfl
      have hop' := hop ks vs hT
      refine And.intro ⟨hwu, by omega, uk, uv⟩ ?_
      conv => whnf
      rw [G0, G1, show (((j, encT 2 20 ks vs) : Nat × List Int).2) = encT 2 20 ks vs from rfl, show (20 : Int) = ((20 : Nat) : Int) from rfl, hop', y1, y2, y3, hwas, hel]
      conv => whnf
      refine ifB_f (by simp) ?_
      conv => whnf
      refine And.intro (by omega) ?_
      conv => whnf
      rw [wsucc (j := j) (n := 20) (by omega) (by omega)]
      have hS' : upS 20 ([], []) (prL raw (j + 1)) = some (ks', vs') := by rw [hPs, upS_snoc, hS]; exact putO_of (s := (ks, vs)) hd
      have hM2 : ∀ r, r ∈ rsK 2 ks' vs' ↔ lsO (prL raw (j + 1)) (r.1 - 1) = some r.2 := fun r => by
        rw [hM' r, hPs, lsO_snoc]
        dsimp only
        by_cases e : ky = r.1 - 1
        · rw [if_pos e]
          constructor
          · rintro (h | ⟨-, h⟩)
            · rw [h]
            · omega
          · intro h
            have := Option.some.inj h
            exact .inl (by obtain ⟨r1, r2⟩ := r; dsimp only at *; rw [this, e]; congr 1; omega)
        · rw [if_neg e, ← hM r]
          exact ⟨fun h => h.elim (fun h => absurd (by rw [h]; dsimp only; omega) e) (fun h => h.1), fun h => .inr ⟨h, by omega⟩⟩
      refine ⟨(j + 1, encT 2 20 ks' vs'), [(348, 5000)], [284], ⟨rfl, rfl, ?_⟩, ⟨⟨(by omega : j + 1 ≤ c1), (by omega : j + 1 ≤ 20)⟩, ks', vs', hT', rfl, (by omega : ks'.length ≤ j + 1), hS', hM2⟩, by dsimp only; omega⟩
      show _ = (5000, Blk.fl [.u64, .u64] (flat 2 (prL raw (j + 1)))) :: _
      rw [hPs, flat_append]; rfl
  · have hLu := prL_u raw j
    have hLf : AllU (flat 2 (prL raw j)) := allU_fl2 fun r hr => (hLu r hr).2
    have hLr : recs j 2 (flat 2 (prL raw j)) = prL raw j := recs_flat (.inr rfl) (prL_len raw j) (fun q => by cases q)
    obtain ⟨n1, n2⟩ := hUN (prL raw j) (fun r hr => (hLu r hr).1.2)
    obtain ⟨m1, m2⟩ := n2 (ks, vs) hS
    have hop' := hop ks vs hT
    have kb := ipick_bounds k (n := 16) (by omega)
    have hk2 : I64 (IntKind.i64.wrap (ipick k 16 + 1)) := by rw [wrap64 (by omega) (by omega)]; unfold I64; omega
    have hk3 : I64 (IntKind.i64.wrap (Int.tdiv k 2)) := by
      have hkd := hk
      unfold I64 at hkd
      have : -9223372036854775808 ≤ Int.tdiv k 2 ∧ Int.tdiv k 2 ≤ 9223372036854775807 := by
        rcases Int.le_total 0 k with h | h
        · rw [Int.tdiv_eq_ediv_of_nonneg h]; omega
        · rw [← Int.neg_neg k, Int.neg_tdiv, Int.tdiv_eq_ediv_of_nonneg (by omega)]; omega
      rw [wrap64 (by omega) (by omega)]; unfold I64; omega
    by_cases hc : j < c1
    · refine ifB_t (show decide ((((j, encT 2 20 ks vs) : Nat × List Int).1 : Int) < c1) = true from decide_eq_true (by dsimp only; omega)) ?_
      conv => whnf
      refine ifB_f (show (bif true then decide ((((j, encT 2 20 ks vs) : Nat × List Int).1 : Int) < 20) else false) = false from decide_eq_false (by dsimp only; omega)) ?_
      conv => whnf
      repeat (refine And.intro (by first | omega | decide) ?_; conv => whnf)
      refine And.intro ⟨hzu, hLf, by decide, by dsimp only; omega⟩ ?_
      conv => whnf
      rw [show (20 : Int) = ((20 : Nat) : Int) from rfl, Int.toNat_natCast, show recs ((j, encT 2 20 ks vs) : Nat × List Int).1 2 (flat 2 (prL raw ((j, encT 2 20 ks vs) : Nat × List Int).1)) = prL raw j from hLr, m1, m2]
      conv => whnf
      refine ifB_f (by simp) ?_
      conv => whnf
      repeat (refine And.intro (by first | omega | decide | exact ⟨hk, by decide, by decide⟩ | exact hk | exact hk2 | exact hk3) ?_; conv => whnf)
      refine TW.loopD ctxLs12_good 0 (base := 0) (lv := [0, 1, 4, 5, 6, 7, 8, 9, 10, 11, 12, 13, 14, 15, 16, 17, 19, 20, 21, 23, 24, 36, 47, 57, 82, 103, 113, 114, 115, 116, 123, 132, 154]) [115] [] [] (fun u : Nat => [.v (.int .i64 u)]) (fun _ => []) (fun u => u ≤ 3) (fun u => 3 - u) ?_
      conv => whnf
      refine ⟨⟨0, ⟨rfl, rfl, rfl⟩, by omega⟩, fun u hu => ?_⟩
      replace hu : u ≤ 3 := hu
      conv => whnf
      refine ifB_dec (fun g => ?_) (fun g => ?_)
      · replace g : (u : Int) < 3 := g
        have HK : 0 ≤ [keyD k, keyD (IntKind.i64.wrap (ipick k 16 + 1)), keyD (IntKind.i64.wrap (k.tdiv 2))].getD (0 + addN 0 (u : Int).toNat * (0 + 1)) 0 ∧ [keyD k, keyD (IntKind.i64.wrap (ipick k 16 + 1)), keyD (IntKind.i64.wrap (k.tdiv 2))].getD (0 + addN 0 (u : Int).toNat * (0 + 1)) 0 ≤ 4611686018427387904 := by
          rw [addN_eq, show 0 + (0 + (u : Int).toNat) * (0 + 1) = u by omega]
          have : u = 0 ∨ u = 1 ∨ u = 2 := by omega
          rcases this with rfl | rfl | rfl <;> exact keyD_f _
        conv => whnf
        repeat (refine And.intro (by omega) ?_; conv => whnf)
        generalize [keyD k, keyD (IntKind.i64.wrap (ipick k 16 + 1)), keyD (IntKind.i64.wrap (k.tdiv 2))].getD (0 + addN 0 (u : Int).toNat * (0 + 1)) 0 = ky at *
        refine TW.loopD ctxLs12_good 0 (base := 0) (lv := [0, 1, 4, 5, 6, 7, 8, 9, 10, 11, 12, 13, 14, 15, 16, 17, 19, 20, 21, 23, 24, 36, 47, 57, 82, 103, 113, 114, 115, 116, 123, 132, 154]) [21] [80] [(80, 80)] (fun x : Nat × Int × Int => [.v (.int .i64 x.1)]) (fun x => [.cs [.v (.int .i64 x.2.1), .v (.int .u64 x.2.2)]]) (fun x => x.1 ≤ j ∧ x.2.1 = (if lsO ((prL raw j).take x.1) ky = none then 12 else 0) ∧ x.2.2 = (lsO ((prL raw j).take x.1) ky).getD 0) (fun x => j - x.1) ?_
        conv => whnf
        refine ⟨⟨(0, 12, 0), ⟨rfl, rfl, rfl⟩, Nat.zero_le _, by unfold lsO; rfl, by unfold lsO; rfl⟩, fun ⟨t, we, wv⟩ ⟨ht, hwe, hwv⟩ => ?_⟩
        replace ht : t ≤ j := ht
        replace hwe : we = (if lsO ((prL raw j).take t) ky = none then 12 else 0) := hwe
        replace hwv : wv = (lsO ((prL raw j).take t) ky).getD 0 := hwv
        conv => whnf
        refine ifB_dec (fun g => ?_) (fun g => ?_)
        · replace g : (t : Int) < j := g
          have F0 : (flat 2 (prL raw j)).getD (0 + addN 0 (t : Int).toNat * (1 + 1)) 0 = (gR (prL raw j) t).1 := by
            rw [addN_eq, show 0 + (0 + (t : Int).toNat) * (1 + 1) = t * 2 by omega, flat_key (.inr rfl) _ (by omega)]; rfl
          have F1 : (flat 2 (prL raw j)).getD (0 + 1 + addN 0 (t : Int).toNat * (1 + 1)) 0 = (gR (prL raw j) t).2 := by
            rw [addN_eq, show 0 + 1 + (0 + (t : Int).toNat) * (1 + 1) = t * 2 + 1 by omega, flat_val _ (by omega)]
          have hls := lsO_take (l := prL raw j) (j := t) (by omega) ky
          have hws := wsucc (j := t) (n := 20) (by omega) (by omega)
          conv => whnf
          repeat (refine And.intro (by first | omega | (dsimp only; omega)) ?_; conv => whnf)
          rw [show ((j, encT 2 20 ks vs) : Nat × List Int).1 = j from rfl, show ((t, we, wv) : Nat × Int × Int).1 = t from rfl, F0]
          refine ifB_eq (x := (gR (prL raw j) t).1) (y := ky) (fun ge => ?_) (fun ge => ?_)
          · rw [if_pos ge] at hls
            conv => whnf
            repeat (refine And.intro (by first | omega | (dsimp only; omega)) ?_; conv => whnf)
            rw [F1, hws]
            exact ⟨(t + 1, 0, (gR (prL raw j) t).2), [(80, 80)], ⟨rfl, rfl, rfl⟩, ⟨(by omega : t + 1 ≤ j), by dsimp only; rw [hls]; rfl, by dsimp only; rw [hls]; rfl⟩, by dsimp only; omega⟩
          · rw [if_neg ge] at hls
            conv => whnf
            rw [hws]
            exact ⟨(t + 1, we, wv), [(80, 80)], ⟨rfl, rfl, rfl⟩, ⟨(by omega : t + 1 ≤ j), by dsimp only; rw [hls, hwe], by dsimp only; rw [hls, hwv]⟩, by dsimp only; omega⟩
        · replace g : ¬ (t : Int) < j := g
          have htj : t = j := by omega
          rw [htj, List.take_of_length_le (by omega)] at hwe hwv
          have hg := getF hT (val := 0) HK.2 (lsO (prL raw j) ky) (fun y => by have := hM (ky + 1, y); simp only [Int.add_sub_cancel] at this; exact this)
          rw [← hwe, ← hwv] at hg
          obtain ⟨y1, y2, y3⟩ := hap ks vs hT 10 ky 0
          rw [hg] at y1 y2 y3
          dsimp only at y1 y2 y3
          conv => whnf
          refine And.intro ⟨hwu, by omega, by unfold U64; omega, by unfold U64; omega⟩ ?_
          conv => whnf
          rw [show (((j, encT 2 20 ks vs) : Nat × List Int).2) = encT 2 20 ks vs from rfl, hop', y1, y2, y3]
          conv => whnf
          refine ifB_f (by simp) ?_
          conv => whnf
          rw [wsucc (j := u) (n := 3) (by omega) (by omega)]
          exact ⟨u + 1, [], ⟨rfl, rfl, rfl⟩, (by omega : u + 1 ≤ 3), by dsimp only; omega⟩
      · conv => whnf
    · refine ifB_f (show decide ((((j, encT 2 20 ks vs) : Nat × List Int).1 : Int) < c1) = false from decide_eq_false (by dsimp only; omega)) ?_
      conv => whnf
      repeat (refine And.intro (by first | omega | decide) ?_; conv => whnf)
      refine And.intro ⟨hzu, hLf, by decide, by dsimp only; omega⟩ ?_
      conv => whnf
      rw [show (20 : Int) = ((20 : Nat) : Int) from rfl, Int.toNat_natCast, show recs ((j, encT 2 20 ks vs) : Nat × List Int).1 2 (flat 2 (prL raw ((j, encT 2 20 ks vs) : Nat × List Int).1)) = prL raw j from hLr, m1, m2]
      conv => whnf
      refine ifB_f (by simp) ?_
      conv => whnf
      repeat (refine And.intro (by first | omega | decide | exact ⟨hk, by decide, by decide⟩ | exact hk | exact hk2 | exact hk3) ?_; conv => whnf)
      refine TW.loopD ctxLs12_good 0 (base := 0) (lv := [0, 1, 4, 5, 6, 7, 8, 9, 10, 11, 12, 13, 14, 15, 16, 17, 19, 20, 21, 23, 24, 36, 47, 57, 82, 103, 113, 114, 115, 116, 123, 132, 154]) [115] [] [] (fun u : Nat => [.v (.int .i64 u)]) (fun _ => []) (fun u => u ≤ 3) (fun u => 3 - u) ?_
      conv => whnf
      refine ⟨⟨0, ⟨rfl, rfl, rfl⟩, by omega⟩, fun u hu => ?_⟩
      replace hu : u ≤ 3 := hu
      conv => whnf
      refine ifB_dec (fun g => ?_) (fun g => ?_)
      · replace g : (u : Int) < 3 := g
        have HK : 0 ≤ [keyD k, keyD (IntKind.i64.wrap (ipick k 16 + 1)), keyD (IntKind.i64.wrap (k.tdiv 2))].getD (0 + addN 0 (u : Int).toNat * (0 + 1)) 0 ∧ [keyD k, keyD (IntKind.i64.wrap (ipick k 16 + 1)), keyD (IntKind.i64.wrap (k.tdiv 2))].getD (0 + addN 0 (u : Int).toNat * (0 + 1)) 0 ≤ 4611686018427387904 := by
          rw [addN_eq, show 0 + (0 + (u : Int).toNat) * (0 + 1) = u by omega]
          have : u = 0 ∨ u = 1 ∨ u = 2 := by omega
          rcases this with rfl | rfl | rfl <;> exact keyD_f _
        conv => whnf
        repeat (refine And.intro (by omega) ?_; conv => whnf)
        generalize [keyD k, keyD (IntKind.i64.wrap (ipick k 16 + 1)), keyD (IntKind.i64.wrap (k.tdiv 2))].getD (0 + addN 0 (u : Int).toNat * (0 + 1)) 0 = ky at *
        refine TW.loopD ctxLs12_good 0 (base := 0) (lv := [0, 1, 4, 5, 6, 7, 8, 9, 10, 11, 12, 13, 14, 15, 16, 17, 19, 20, 21, 23, 24, 36, 47, 57, 82, 103, 113, 114, 115, 116, 123, 132, 154]) [21] [80] [(80, 80)] (fun x : Nat × Int × Int => [.v (.int .i64 x.1)]) (fun x => [.cs [.v (.int .i64 x.2.1), .v (.int .u64 x.2.2)]]) (fun x => x.1 ≤ j ∧ x.2.1 = (if lsO ((prL raw j).take x.1) ky = none then 12 else 0) ∧ x.2.2 = (lsO ((prL raw j).take x.1) ky).getD 0) (fun x => j - x.1) ?_
        conv => whnf
        refine ⟨⟨(0, 12, 0), ⟨rfl, rfl, rfl⟩, Nat.zero_le _, by unfold lsO; rfl, by unfold lsO; rfl⟩, fun ⟨t, we, wv⟩ ⟨ht, hwe, hwv⟩ => ?_⟩
        replace ht : t ≤ j := ht
        replace hwe : we = (if lsO ((prL raw j).take t) ky = none then 12 else 0) := hwe
        replace hwv : wv = (lsO ((prL raw j).take t) ky).getD 0 := hwv
        conv => whnf
        refine ifB_dec (fun g => ?_) (fun g => ?_)
        · replace g : (t : Int) < j := g
          have F0 : (flat 2 (prL raw j)).getD (0 + addN 0 (t : Int).toNat * (1 + 1)) 0 = (gR (prL raw j) t).1 := by
            rw [addN_eq, show 0 + (0 + (t : Int).toNat) * (1 + 1) = t * 2 by omega, flat_key (.inr rfl) _ (by omega)]; rfl
          have F1 : (flat 2 (prL raw j)).getD (0 + 1 + addN 0 (t : Int).toNat * (1 + 1)) 0 = (gR (prL raw j) t).2 := by
            rw [addN_eq, show 0 + 1 + (0 + (t : Int).toNat) * (1 + 1) = t * 2 + 1 by omega, flat_val _ (by omega)]
          have hls := lsO_take (l := prL raw j) (j := t) (by omega) ky
          have hws := wsucc (j := t) (n := 20) (by omega) (by omega)
          conv => whnf
          repeat (refine And.intro (by first | omega | (dsimp only; omega)) ?_; conv => whnf)
          rw [show ((j, encT 2 20 ks vs) : Nat × List Int).1 = j from rfl, show ((t, we, wv) : Nat × Int × Int).1 = t from rfl, F0]
          refine ifB_eq (x := (gR (prL raw j) t).1) (y := ky) (fun ge => ?_) (fun ge => ?_)
          · rw [if_pos ge] at hls
            conv => whnf
            repeat (refine And.intro (by first | omega | (dsimp only; omega)) ?_; conv => whnf)
            rw [F1, hws]
            exact ⟨(t + 1, 0, (gR (prL raw j) t).2), [(80, 80)], ⟨rfl, rfl, rfl⟩, ⟨(by omega : t + 1 ≤ j), by dsimp only; rw [hls]; rfl, by dsimp only; rw [hls]; rfl⟩, by dsimp only; omega⟩
          · rw [if_neg ge] at hls
            conv => whnf
            rw [hws]
            exact ⟨(t + 1, we, wv), [(80, 80)], ⟨rfl, rfl, rfl⟩, ⟨(by omega : t + 1 ≤ j), by dsimp only; rw [hls, hwe], by dsimp only; rw [hls, hwv]⟩, by dsimp only; omega⟩
        · replace g : ¬ (t : Int) < j := g
          have htj : t = j := by omega
          rw [htj, List.take_of_length_le (by omega)] at hwe hwv
          have hg := getF hT (val := 0) HK.2 (lsO (prL raw j) ky) (fun y => by have := hM (ky + 1, y); simp only [Int.add_sub_cancel] at this; exact this)
          rw [← hwe, ← hwv] at hg
          obtain ⟨y1, y2, y3⟩ := hap ks vs hT 10 ky 0
          rw [hg] at y1 y2 y3
          dsimp only at y1 y2 y3
          conv => whnf
          refine And.intro ⟨hwu, by omega, by unfold U64; omega, by unfold U64; omega⟩ ?_
          conv => whnf
          rw [show (((j, encT 2 20 ks vs) : Nat × List Int).2) = encT 2 20 ks vs from rfl, hop', y1, y2, y3]
          conv => whnf
          refine ifB_f (by simp) ?_
          conv => whnf
          rw [wsucc (j := u) (n := 3) (by omega) (by omega)]
          exact ⟨u + 1, [], ⟨rfl, rfl, rfl⟩, (by omega : u + 1 ≤ 3), by dsimp only; omega⟩
      · conv => whnf
end Go.Proofs.YtnplgklnkcjmnaaDoor.DcT
