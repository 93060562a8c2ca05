/- WALK, or plain laws for it: theorem f<k> says what function k returns. Conditions: none but those ahead of each theorem. -/
import Derived.Test.YtklhdnjhgbglhaaGreatYH4
set_option linter.unusedVariables false
set_option linter.unusedSimpArgs false
/- The invariant of houses: plain laws. -/
open Go Go.Vm Go.Proofs
def oneV (v : Ver) : Prop := (0 ≤ v.key ∧ v.key ≤ 4) ∧ (1 ≤ v.born ∧ v.born ≤ 40) ∧ (v.died = 0 ∨ v.born + 1 ≤ v.died ∧ v.died ≤ 40) ∧ rowP v.row
def vR (a b : Ver) : Prop := a.key < b.key ∨ a.key = b.key ∧ a.born < b.born ∧ a.died ≠ 0 ∧ a.died ≤ b.born
def verQ (vs : List Ver) : Prop := (∀ v ∈ vs, oneV v) ∧ vs.Pairwise vR
theorem vR_tr {a b c : Ver} (h : vR a b) (h2 : vR b c) : vR a c := by unfold vR at *; omega
theorem verQ_at {vs : List Ver} (h : verQ vs) : ∀ i, i < vs.length → vOkAt vs i := by
  intro i hi
  have h1 := h.1 vs[i]! (by rw [getElem!_pos vs i hi]; exact List.getElem_mem _)
  refine ⟨h1.1, h1.2.1, h1.2.2.1, h1.2.2.2, fun ⟨h0, h2⟩ => ?_⟩
  have h3 := List.pairwise_iff_getElem.1 h.2 (i - 1) i (by omega) hi (by omega)
  rw [← getElem!_pos vs i hi, ← getElem!_pos vs (i - 1) (by omega)] at h3
  unfold vR at h3
  omega
theorem verQ_of {vs : List Ver} (h : ∀ i, i < vs.length → vOkAt vs i) : verQ vs := by
  refine ⟨fun v hv => ?_, List.pairwise_iff_getElem.2 fun i j hi hj hij => ?_⟩
  · obtain ⟨i, hi, rfl⟩ := List.mem_iff_getElem.1 hv
    have := h i hi
    rw [← getElem!_pos vs i hi]
    exact ⟨this.1, this.2.1, this.2.2.1, this.2.2.2.1⟩
  · have key : ∀ d, i + d + 1 < vs.length → vR vs[i]! vs[i + d + 1]! := by
      intro d
      induction d with
      | zero =>
        intro hd
        have h5 := (h (i + 1) hd).2.2.2.2
        rw [show i + 1 - 1 = i by omega] at h5
        show vR vs[i]! vs[i + 1]!
        unfold vR
        omega
      | succ d ih =>
        intro hd
        have h5 := (h (i + d + 1 + 1) hd).2.2.2.2
        rw [show i + d + 1 + 1 - 1 = i + d + 1 by omega] at h5
        have h6 : vR vs[i + d + 1]! vs[i + d + 1 + 1]! := by unfold vR; omega
        exact vR_tr (ih (by omega)) h6
    have := key (j - i - 1) (by omega)
    rw [show i + (j - i - 1) + 1 = j by omega, getElem!_pos vs i hi, getElem!_pos vs j hj] at this
    exact this
theorem verP_iff {vs : List Ver} : verP vs ↔ vs.length ≤ 60 ∧ verQ vs := ⟨fun h => ⟨h.1, verQ_of h.2⟩, fun h => ⟨h.1, verQ_at h.2⟩⟩
theorem endV_key (w : Wr) (t : Int) (v : Ver) : (endV w t v).key = v.key ∧ (endV w t v).born = v.born ∧ (endV w t v).row = v.row ∧ ((v.key = w.key ∧ v.died = 0 ∧ (endV w t v).died = t) ∨ (¬ (v.key = w.key ∧ v.died = 0) ∧ (endV w t v).died = v.died)) := by
  by_cases h : v.key = w.key ∧ v.died = 0
  · rw [endV_pos h.1 h.2]; exact ⟨rfl, rfl, rfl, .inl ⟨h.1, h.2, rfl⟩⟩
  · rw [endV_neg h]; exact ⟨rfl, rfl, rfl, .inr ⟨h, rfl⟩⟩
theorem wrt_mem {w : Wr} {t : Int} : ∀ {vs : List Ver} {d : Bool} {x : Ver}, x ∈ wrtL w t vs d → (∃ u ∈ vs, x = endV w t u) ∨ (x = newV w t ∧ d = false)
  | [], d, x, h => by
    cases d
    · exact .inr ⟨by simpa [wrtL] using h, rfl⟩
    · simp [wrtL] at h
  | v :: vs, d, x, h => by
    rw [wrtL, List.mem_append, List.mem_cons] at h
    rcases h with h | rfl | h
    · split at h
      · rename_i h1; exact .inr ⟨by simpa using h, h1.2⟩
      · simp at h
    · exact .inl ⟨v, by simp, rfl⟩
    · rcases wrt_mem h with ⟨u, hu, e⟩ | ⟨e, hd⟩
      · exact .inl ⟨u, by simp [hu], e⟩
      · exact .inr ⟨e, by simp at hd; exact hd.1⟩
def old (w : Wr) (t : Int) (v : Ver) : Prop := v.key = w.key → v.born < t ∧ v.died < t
theorem endV_R {w : Wr} {t : Int} {a b : Ver} (h : vR a b) (ha : oneV a) (hb : oneV b) (oa : old w t a) (ob : old w t b) : vR (endV w t a) (endV w t b) := by
  obtain ⟨a1, a2, a3, a4⟩ := endV_key w t a
  obtain ⟨b1, b2, b3, b4⟩ := endV_key w t b
  unfold vR old oneV at *
  rw [a1, a2, b1, b2]
  omega
theorem wrt_ord {w : Wr} {t : Int} : ∀ {vs : List Ver} {d : Bool}, (∀ v ∈ vs, oneV v) → (∀ v ∈ vs, old w t v) → vs.Pairwise vR → 1 ≤ t → (wrtL w t vs d).Pairwise vR
  | [], d, _, _, _, _ => by cases d <;> simp [wrtL]
  | v :: vs, d, h1, h2, h3, ht => by
    obtain ⟨h4, h5⟩ := List.pairwise_cons.1 h3
    have ih := wrt_ord (d := d || decide (w.key < v.key)) (fun x hx => h1 x (by simp [hx])) (fun x hx => h2 x (by simp [hx])) h5 ht
    have hv := h1 v (by simp)
    have ov := h2 v (by simp)
    obtain ⟨v1, v2, v3, v4⟩ := endV_key w t v
    have hc : (endV w t v :: wrtL w t vs (d || decide (w.key < v.key))).Pairwise vR := by
      refine List.pairwise_cons.2 ⟨fun x hx => ?_, ih⟩
      rcases wrt_mem hx with ⟨u, hu, rfl⟩ | ⟨rfl, hd⟩
      · exact endV_R (h4 u hu) hv (h1 u (by simp [hu])) ov (h2 u (by simp [hu]))
      · simp only [Bool.or_eq_false_iff, decide_eq_false_iff_not] at hd
        have hd2 := hd.2
        unfold oneV at hv
        unfold old at ov
        unfold vR newV
        dsimp only
        rw [v1, v2]
        omega
    rw [wrtL]
    split
    · rename_i hk
      refine List.pairwise_cons.2 ⟨fun x hx => .inl ?_, hc⟩
      rcases List.mem_cons.1 hx with rfl | hx
      · show w.key < _
        rw [v1]; exact hk.1
      · rcases wrt_mem hx with ⟨u, hu, rfl⟩ | ⟨rfl, hd⟩
        · obtain ⟨u1, _⟩ := endV_key w t u
          show w.key < _
          have := h4 u hu
          unfold vR at this
          rw [u1]; omega
        · have := hk.1
          simp only [Bool.or_eq_false_iff, decide_eq_false_iff_not] at hd
          exact absurd this hd.2
    · exact hc
theorem wrt_one {w : Wr} {t : Int} {vs : List Ver} {d : Bool} (h1 : ∀ v ∈ vs, oneV v) (h2 : ∀ v ∈ vs, old w t v) (ht : 1 ≤ t) (ht2 : t ≤ 40) (hk : 0 ≤ w.key ∧ w.key ≤ 4) (hr : rowP w.row) : ∀ x ∈ wrtL w t vs d, oneV x := by
  intro x hx
  rcases wrt_mem hx with ⟨u, hu, rfl⟩ | ⟨rfl, _⟩
  · obtain ⟨u1, u2, u3, u4⟩ := endV_key w t u
    have h := h1 u hu
    have o := h2 u hu
    unfold oneV old at *
    rw [u1, u2, u3]
    obtain ⟨q1, q2, q3, q4⟩ := h
    refine ⟨q1, q2, ?_, q4⟩
    omega
  · exact ⟨hk, ⟨ht, ht2⟩, .inl rfl, hr⟩
theorem wrt_le {w : Wr} {t : Int} {vs : List Ver} {d : Bool} (h : ∀ v ∈ vs, v.born ≤ t ∧ v.died ≤ t) (ht : 1 ≤ t) : ∀ x ∈ wrtL w t vs d, x.born ≤ t ∧ x.died ≤ t := by
  intro x hx
  rcases wrt_mem hx with ⟨u, hu, rfl⟩ | ⟨rfl, _⟩
  · obtain ⟨u1, u2, u3, u4⟩ := endV_key w t u
    have := h u hu
    rw [u2]; omega
  · show t ≤ t ∧ (0 : Int) ≤ t
    omega
theorem wrt_old {w w2 : Wr} {t : Int} {vs : List Ver} {d : Bool} (h : ∀ v ∈ vs, old w2 t v) (hk : w.key ≠ w2.key) : ∀ x ∈ wrtL w t vs d, old w2 t x := by
  intro x hx
  rcases wrt_mem hx with ⟨u, hu, rfl⟩ | ⟨rfl, _⟩
  · obtain ⟨u1, u2, u3, u4⟩ := endV_key w t u
    have := h u hu
    unfold old at *
    rw [u1, u2]; omega
  · exact fun e => absurd e hk
def wrtAll (ws : List Wr) (t : Int) (vs : List Ver) : List Ver := ws.foldl (fun l w => wrtL w t l w.gone) vs
theorem wrtAll_ok {t : Int} (ht : 1 ≤ t) (ht2 : t ≤ 40) : ∀ {ws : List Wr} {vs : List Ver}, verQ vs → (∀ v ∈ vs, v.born ≤ t ∧ v.died ≤ t) → (∀ w ∈ ws, ∀ v ∈ vs, old w t v) → (∀ w ∈ ws, (0 ≤ w.key ∧ w.key ≤ 4) ∧ rowP w.row) → ws.Pairwise (fun a b => a.key < b.key) →
    verQ (wrtAll ws t vs) ∧ ∀ v ∈ wrtAll ws t vs, v.born ≤ t ∧ v.died ≤ t
  | [], vs, h1, h2, _, _, _ => ⟨h1, h2⟩
  | w :: ws, vs, h1, h2, h3, h4, h5 => by
    obtain ⟨h6, h7⟩ := List.pairwise_cons.1 h5
    have o := h3 w (by simp)
    have hw := h4 w (by simp)
    exact wrtAll_ok ht ht2 (ws := ws) (vs := wrtL w t vs w.gone) ⟨wrt_one h1.1 o ht ht2 hw.1 hw.2, wrt_ord h1.1 o h1.2 ht⟩ (wrt_le h2 ht) (fun w2 hw2 => wrt_old (h3 w2 (by simp [hw2])) (by have := h6 w2 hw2; omega)) (fun w2 hw2 => h4 w2 (by simp [hw2])) h7
theorem lastV_ge : ∀ (vs : List Ver) (k a : Int), a ≤ lastV vs k a ∧ ∀ v ∈ vs, v.key = k → v.born ≤ lastV vs k a ∧ v.died ≤ lastV vs k a
  | [], k, a => ⟨Int.le_refl _, by simp⟩
  | v :: vs, k, a => by
    have e : lastV (v :: vs) k a = lastV vs k (if v.key = k then max (max a v.born) v.died else a) := rfl
    obtain ⟨h1, h2⟩ := lastV_ge vs k (if v.key = k then max (max a v.born) v.died else a)
    rw [e]
    have h3 : a ≤ (if v.key = k then max (max a v.born) v.died else a) := by split <;> omega
    refine ⟨Int.le_trans h3 h1, fun x hx hk => ?_⟩
    rcases List.mem_cons.1 hx with rfl | hx
    · rw [if_pos hk] at h1 ⊢; omega
    · exact h2 x hx hk
theorem lastV_le {t : Int} : ∀ {vs : List Ver} {k a : Int}, a ≤ t → (∀ v ∈ vs, v.born ≤ t ∧ v.died ≤ t) → lastV vs k a ≤ t
  | [], k, a, h, _ => h
  | v :: vs, k, a, h, h2 => by
    show lastV vs k (if v.key = k then max (max a v.born) v.died else a) ≤ t
    have := h2 v (by simp)
    exact lastV_le (by split <;> omega) fun x hx => h2 x (by simp [hx])
theorem turnV_at {t : Int} {vs : List Ver} (h0 : 0 ≤ t) (h : ∀ v ∈ vs, v.born ≤ t ∧ v.died ≤ t) : ∀ n, turnV vs n ≤ t
  | 0 => h0
  | n + 1 => by have := turnV_at h0 h n; have := lastV_le (k := n) (a := 0) h0 h; show max _ _ ≤ t; omega
theorem turnV_ge {vs : List Ver} : ∀ (n k : Nat), k < n → lastV vs k 0 ≤ turnV vs n
  | n + 1, k, h => by
    show _ ≤ max (turnV vs n) (lastV vs n 0)
    rcases Nat.lt_or_ge k n with h1 | h1
    · have := turnV_ge (vs := vs) n k h1; omega
    · obtain rfl : k = n := by omega
      omega
theorem turn_all {vs : List Ver} {c : Int} (h : verQ vs) (ht : turnV vs 5 ≤ c) : ∀ v ∈ vs, v.born ≤ c ∧ v.died ≤ c := by
  intro v hv
  have h1 := h.1 v hv
  have hk : v.key = (v.key.toNat : Int) := by have := h1.1; omega
  have h2 := turnV_ge (vs := vs) 5 v.key.toNat (by have := h1.1; omega)
  have h3 := (lastV_ge vs (v.key.toNat : Int) 0).2 v hv hk
  omega
