/- WALK, or plain laws for it: theorem f<k> says what function k returns. Conditions: none but those ahead of each theorem. -/
import Derived.Test.YtklhdnjhgbglhaaGreatYP6
set_option linter.unusedVariables false
set_option linter.unusedSimpArgs false
/- A list without what is left out, and without doubles: plain laws. -/
open Go Go.Vm Go.Proofs
theorem idxL_spec {α : Type} [Inhabited α] (P : α → Prop) [DecidablePred P] : ∀ (xs : List α) (i : Int), 0 ≤ i → (idxL P xs i = -1 ∧ ∀ x ∈ xs, ¬ P x) ∨ ∃ p : Nat, p < xs.length ∧ idxL P xs i = i + p ∧ P xs[p]! ∧ ∀ x ∈ xs.take p, ¬ P x
  | [], i, _ => .inl ⟨rfl, fun x hx => by simp at hx⟩
  | x :: xs, i, hi => by
    rw [idxL]
    by_cases h : P x
    · rw [if_pos h]
      exact .inr ⟨0, by simp, by simp, h, fun y hy => by simp at hy⟩
    · rw [if_neg h]
      rcases idxL_spec P xs (i + 1) (by omega) with ⟨h1, h2⟩ | ⟨p, h1, h2, h3, h4⟩
      · refine .inl ⟨h1, fun y hy => ?_⟩
        rcases List.mem_cons.1 hy with rfl | hy
        · exact h
        · exact h2 y hy
      · refine .inr ⟨p + 1, by simp; omega, by rw [h2]; omega, h3, fun y hy => ?_⟩
        rw [List.take_succ_cons] at hy
        rcases List.mem_cons.1 hy with rfl | hy
        · exact h
        · exact h4 y hy
def neL (who : Int) (xs : List Int) : List Int := xs.filter fun x => decide (x ≠ who)
theorem neL_mem {who x : Int} {xs : List Int} : x ∈ neL who xs ↔ x ∈ xs ∧ x ≠ who := by unfold neL; rw [List.mem_filter, decide_eq_true_eq]
theorem neL_same {who : Int} {xs : List Int} (h : ∀ x ∈ xs, ¬ x = who) : neL who xs = xs := by
  unfold neL
  rw [List.filter_eq_self]
  intro x hx
  exact decide_eq_true (h x hx)
theorem neL_app (who : Int) (xs ys : List Int) : neL who (xs ++ ys) = neL who xs ++ neL who ys := List.filter_append ..
theorem neL_one {who x : Int} (h : ¬ x = who) : neL who [x] = [x] := neL_same fun y hy => by rw [List.mem_singleton.1 hy]; exact h
theorem neL_none {who x : Int} (h : x = who) : neL who [x] = [] := by
  unfold neL
  rw [List.filter_cons, if_neg (by simpa using h)]
  rfl
structure delI (who : Int) (xs ys : List Int) (i j : Nat) : Prop where
  lt : i < j
  le : j ≤ xs.length
  len : ys.length = xs.length
  tk : ys.take i = neL who (xs.take j)
  dr : ys.drop j = xs.drop j
theorem drop_get {xs ys : List Int} {j : Nat} (h : ys.drop j = xs.drop j) (hj : j < xs.length) (hl : ys.length = xs.length) : ys[j]! = xs[j]! := by
  rw [List.drop_eq_getElem_cons (by omega), List.drop_eq_getElem_cons hj] at h
  rw [getElem!_pos ys j (by omega), getElem!_pos xs j hj]
  exact (List.cons.inj h).1
theorem drop_next {xs ys : List Int} {j : Nat} (h : ys.drop j = xs.drop j) : ys.drop (j + 1) = xs.drop (j + 1) := by
  rw [← List.drop_drop, ← List.drop_drop, h]
theorem delI.keep {who : Int} {xs ys : List Int} {i j : Nat} (d : delI who xs ys i j) (hj : j < xs.length) (hn : ¬ ys[j]! = who) : delI who xs (ys.set i ys[j]!) (i + 1) (j + 1) := by
  obtain ⟨h1, h2, h3, h4, h5⟩ := d
  have e := drop_get h5 hj h3
  refine ⟨by omega, by omega, by rw [List.length_set]; exact h3, ?_, ?_⟩
  · rw [take_next _ i (by rw [List.length_set]; omega), take_next xs j hj, neL_app, ← h4, List.take_set_of_le (Nat.le_refl _), get_set _ _ _ (by omega), neL_one (by rw [← e]; exact hn), e]
  · rw [List.drop_set_of_lt (by omega)]
    exact drop_next h5
theorem delI.skip {who : Int} {xs ys : List Int} {i j : Nat} (d : delI who xs ys i j) (hj : j < xs.length) (hn : ys[j]! = who) : delI who xs ys i (j + 1) := by
  obtain ⟨h1, h2, h3, h4, h5⟩ := d
  have e := drop_get h5 hj h3
  refine ⟨by omega, by omega, h3, ?_, drop_next h5⟩
  rw [take_next xs j hj, neL_app, ← h4, neL_none (by rw [← e]; exact hn), List.append_nil]
theorem delI.start {who : Int} {xs : List Int} {p : Nat} (hp : p < xs.length) (h : xs[p]! = who) (hn : ∀ x ∈ xs.take p, ¬ x = who) : delI who xs xs p (p + 1) := by
  refine ⟨by omega, by omega, rfl, ?_, rfl⟩
  rw [take_next xs p hp, neL_app, neL_same hn, neL_none h, List.append_nil]
theorem delI.done {who : Int} {xs ys : List Int} {i : Nat} (d : delI who xs ys i xs.length) : ys.take i = neL who xs := by rw [d.tk, List.take_length]
def risL (xs : List Int) : Prop := ∀ p q, p < q → q < xs.length → xs[p]! ≤ xs[q]!
def siL (xs : List Int) (k : Nat) : Prop := ∀ u v, u < v → v < k → xs[u]! < xs[v]!
theorem siL.next {xs : List Int} {k : Nat} (h : siL xs k) (hk : 1 ≤ k) (hl : k < xs.length) (hu : risL xs) (hn : ¬ xs[k]! = xs[k - 1]!) : siL xs (k + 1) := by
  intro u v h1 h2
  by_cases hv : v = k
  · subst hv
    have h3 := hu (v - 1) v (by omega) hl
    by_cases hu' : u = v - 1
    · rw [hu']; omega
    · have := h u (v - 1) (by omega) (by omega); omega
  · exact h u v h1 (by omega)
theorem siL.pw {xs : List Int} (h : siL xs xs.length) : xs.Pairwise (· < ·) := List.pairwise_iff_getElem.2 fun i j hi hj hij => by
  have := h i j hij hj
  rwa [getElem!_pos xs i hi, getElem!_pos xs j hj] at this
structure cmpI (xs ys : List Int) (k q : Nat) : Prop where
  k1 : 1 ≤ k
  kq : k < q
  le : q ≤ xs.length
  len : ys.length = xs.length
  dr : ∀ j, q ≤ j + 1 → j < xs.length → ys[j]! = xs[j]!
  si : siL ys k
  last : ys[k - 1]! = xs[q - 1]!
  mem : ∀ x, (∃ j, j < k ∧ ys[j]! = x) ↔ ∃ j, j < q ∧ xs[j]! = x
theorem cmpI.start {xs : List Int} {k : Nat} (h : siL xs k) (hk : 1 ≤ k) (hl : k < xs.length) (he : xs[k]! = xs[k - 1]!) : cmpI xs xs k (k + 1) := by
  refine ⟨hk, by omega, by omega, rfl, fun j _ _ => rfl, h, by rw [show k + 1 - 1 = k by omega, he], fun x => ⟨fun ⟨j, h1, h2⟩ => ⟨j, by omega, h2⟩, fun ⟨j, h1, h2⟩ => ?_⟩⟩
  by_cases hj : j = k
  · subst hj; exact ⟨j - 1, by omega, by rw [← he]; exact h2⟩
  · exact ⟨j, by omega, h2⟩
theorem set_ne {α : Type} [Inhabited α] (ys : List α) (i j : Nat) (v : α) (h : i ≠ j) : (ys.set i v)[j]! = ys[j]! := by
  by_cases hj : j < ys.length
  · rw [getElem!_pos _ j (by simpa using hj), List.getElem_set_ne h, getElem!_pos ys j hj]
  · rw [getElem!_neg _ j (by simpa using hj), getElem!_neg _ j hj]
theorem cmpI.put {xs ys : List Int} {k q : Nat} (c : cmpI xs ys k q) (hu : risL xs) (hq : q < xs.length) (hn : ¬ ys[q]! = ys[q - 1]!) : cmpI xs (ys.set k ys[q]!) (k + 1) (q + 1) := by
  obtain ⟨h1, h2, h3, h4, h5, h6, h7, h8⟩ := c
  have e1 := h5 q (by omega) hq
  have e2 := h5 (q - 1) (by omega) (by omega)
  have e3 := hu (q - 1) q (by omega) hq
  have g : (ys.set k ys[q]!)[k]! = ys[q]! := get_set _ _ _ (by omega)
  refine ⟨by omega, by omega, by omega, by rw [List.length_set]; exact h4, fun j hj hl => by rw [set_ne _ _ _ _ (by omega)]; exact h5 j (by omega) hl, fun u v hu' hv => ?_, by rw [show k + 1 - 1 = k by omega, g, show q + 1 - 1 = q by omega]; exact e1, fun x => ⟨?_, ?_⟩⟩
  · by_cases hvk : v = k
    · subst hvk
      rw [g, set_ne _ _ _ _ (by omega)]
      by_cases hx : u = v - 1
      · rw [hx, h7]; omega
      · have := h6 u (v - 1) (by omega) (by omega)
        omega
    · rw [set_ne _ _ _ _ (by omega), set_ne _ _ _ _ (by omega)]
      exact h6 u v hu' (by omega)
  · rintro ⟨j, hj, e⟩
    by_cases hjk : j = k
    · subst hjk
      rw [g] at e
      exact ⟨q, by omega, by rw [← e1]; exact e⟩
    · rw [set_ne _ _ _ _ (by omega)] at e
      obtain ⟨j', h9, h10⟩ := (h8 x).1 ⟨j, by omega, e⟩
      exact ⟨j', by omega, h10⟩
  · rintro ⟨j, hj, e⟩
    by_cases hjq : j = q
    · subst hjq
      exact ⟨k, by omega, by rw [g, e1]; exact e⟩
    · obtain ⟨j', h9, h10⟩ := (h8 x).2 ⟨j, by omega, e⟩
      exact ⟨j', by omega, by rw [set_ne _ _ _ _ (by omega)]; exact h10⟩
theorem cmpI.skip {xs ys : List Int} {k q : Nat} (c : cmpI xs ys k q) (hq : q < xs.length) (hn : ys[q]! = ys[q - 1]!) : cmpI xs ys k (q + 1) := by
  obtain ⟨h1, h2, h3, h4, h5, h6, h7, h8⟩ := c
  have e1 := h5 q (by omega) hq
  have e2 := h5 (q - 1) (by omega) (by omega)
  refine ⟨h1, by omega, by omega, h4, fun j hj hl => h5 j (by omega) hl, h6, by rw [h7, show q + 1 - 1 = q by omega, ← e1, hn, e2], fun x => ?_⟩
  rw [h8 x]
  constructor
  · rintro ⟨j, hj, e⟩; exact ⟨j, by omega, e⟩
  · rintro ⟨j, hj, e⟩
    by_cases hjq : j = q
    · subst hjq
      exact ⟨j - 1, by omega, by rw [← e2, ← hn, e1]; exact e⟩
    · exact ⟨j, by omega, e⟩
theorem take_at {xs : List Int} {k j : Nat} (h : j < k) (hk : k ≤ xs.length) : (xs.take k)[j]! = xs[j]! := by
  rw [getElem!_pos _ j (by simp; omega), getElem!_pos xs j (by omega), List.getElem_take]
theorem cmpI.done {xs ys : List Int} {k : Nat} (c : cmpI xs ys k xs.length) : (ys.take k).Pairwise (· < ·) ∧ ∀ x, x ∈ ys.take k ↔ x ∈ xs := by
  obtain ⟨h1, h2, h3, h4, h5, h6, h7, h8⟩ := c
  have hl : (ys.take k).length = k := by simp; omega
  refine ⟨siL.pw fun u v hu hv => ?_, fun x => ?_⟩
  · rw [hl] at hv
    rw [take_at (by omega) (by omega), take_at hv (by omega)]
    exact h6 u v hu hv
  · have e : (x ∈ ys.take k) ↔ ∃ j, j < k ∧ ys[j]! = x := by
      rw [List.mem_iff_getElem]
      constructor
      · rintro ⟨j, hj, e⟩
        rw [hl] at hj
        exact ⟨j, hj, by rw [← take_at hj (by omega), getElem!_pos _ j (by omega)]; exact e⟩
      · rintro ⟨j, hj, e⟩
        exact ⟨j, by omega, by rw [← getElem!_pos _ j (by omega), take_at hj (by omega)]; exact e⟩
    have e2 : (x ∈ xs) ↔ ∃ j, j < xs.length ∧ xs[j]! = x := by
      rw [List.mem_iff_getElem]
      constructor
      · rintro ⟨j, hj, e⟩; exact ⟨j, hj, by rw [getElem!_pos _ j hj]; exact e⟩
      · rintro ⟨j, hj, e⟩; exact ⟨j, hj, by rw [← getElem!_pos _ j hj]; exact e⟩
    rw [e, e2, h8 x]
