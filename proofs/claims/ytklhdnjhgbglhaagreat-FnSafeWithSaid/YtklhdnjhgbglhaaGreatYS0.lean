/- WALK, or plain laws for it: theorem f<k> says what function k returns. Conditions: none but those ahead of each theorem. -/
import Derived.Test.YtklhdnjhgbglhaaGreatYF6
set_option linter.unusedVariables false
set_option linter.unusedSimpArgs false
/- The plain lists of the stable sort. -/
open Go Go.Vm Go.Proofs
set_option linter.unusedSectionVars false
section
variable {β : Type} [Inhabited β]
def mkL (n : Nat) (f : Nat → β) : List β := (List.range n).map f
theorem mkL_length (n : Nat) (f : Nat → β) : (mkL n f).length = n := by simp [mkL]
theorem mkL_at {n : Nat} (f : Nat → β) {p : Nat} (h : p < n) : (mkL n f)[p]! = f p := by
  rw [getElem!_pos _ p (by rw [mkL_length]; exact h)]; simp [mkL]
theorem ext_at {l l' : List β} (hl : l.length = l'.length) (h : ∀ p, p < l.length → l[p]! = l'[p]!) : l = l' := by
  refine List.ext_getElem hl fun i h1 h2 => ?_
  have := h i h1
  rwa [getElem!_pos l i h1, getElem!_pos l' i h2] at this
theorem mkL_ext {n : Nat} {f g : Nat → β} (h : ∀ p, p < n → f p = g p) : mkL n f = mkL n g := ext_at (by simp [mkL_length]) fun p hp => by
  rw [mkL_length] at hp
  rw [mkL_at f hp, mkL_at g hp, h p hp]
theorem mkL_self (l : List β) : mkL l.length (fun p => l[p]!) = l := ext_at (mkL_length _ _) fun p hp => mkL_at _ (by rwa [mkL_length] at hp)
def sw2 (l : List β) (i j : Nat) : List β := (l.set i l[j]!).set j l[i]!
theorem sw2_length (l : List β) (i j : Nat) : (sw2 l i j).length = l.length := by simp [sw2]
theorem sw2_at {l : List β} {i j p : Nat} (hp : p < l.length) : (sw2 l i j)[p]! = if p = j then l[i]! else if p = i then l[j]! else l[p]! := by
  rw [getElem!_pos _ p (by rw [sw2_length]; exact hp)]
  unfold sw2
  rw [List.getElem_set, List.getElem_set]
  by_cases h1 : j = p
  · rw [if_pos h1, if_pos h1.symm]
  · rw [if_neg h1, if_neg (Ne.symm h1)]
    by_cases h2 : i = p
    · rw [if_pos h2, if_pos h2.symm]
    · rw [if_neg h2, if_neg (Ne.symm h2), getElem!_pos l p hp]
theorem sw2_mkL {n i j : Nat} (f g : Nat → β) (hi : i < n) (hj : j < n) (h : ∀ p, p < n → g p = if p = j then f i else if p = i then f j else f p) : sw2 (mkL n f) i j = mkL n g := ext_at (by rw [sw2_length, mkL_length, mkL_length]) fun p hp => by
  rw [sw2_length, mkL_length] at hp
  rw [sw2_at (by rw [mkL_length]; exact hp), mkL_at f hi, mkL_at f hj, mkL_at f hp, mkL_at g hp, h p hp]
theorem sw2_perm {l : List β} {i j : Nat} (hi : i < l.length) (hj : j < l.length) : (sw2 l i j).Perm l := by
  unfold sw2
  rw [getElem!_pos l i hi, getElem!_pos l j hj]
  exact List.set_set_perm hi hj
structure PIn (a b : Nat) (l r : List β) : Prop where
  out : ∀ p, p < a ∨ b ≤ p → r[p]! = l[p]!
  mem : ∀ p, a ≤ p → p < b → ∃ k, a ≤ k ∧ k < b ∧ r[p]! = l[k]!
  perm : r.Perm l
theorem PIn.refl (a b : Nat) (l : List β) : PIn a b l l := ⟨fun _ _ => rfl, fun p h1 h2 => ⟨p, h1, h2, rfl⟩, .refl _⟩
theorem PIn.length {a b : Nat} {l r : List β} (h : PIn a b l r) : r.length = l.length := h.perm.length_eq
theorem PIn.trans {a b : Nat} {l r s : List β} (h : PIn a b l r) (k : PIn a b r s) : PIn a b l s :=
  ⟨fun p hp => (k.out p hp).trans (h.out p hp), fun p h1 h2 => by
    obtain ⟨k1, q1, q2, q3⟩ := k.mem p h1 h2
    obtain ⟨k2, q4, q5, q6⟩ := h.mem k1 q1 q2
    exact ⟨k2, q4, q5, q3.trans q6⟩, k.perm.trans h.perm⟩
theorem PIn.mono {a b a' b' : Nat} {l r : List β} (h : PIn a b l r) (ha : a' ≤ a) (hb : b ≤ b') : PIn a' b' l r :=
  ⟨fun p hp => h.out p (by omega), fun p h1 h2 => by
    by_cases hp : a ≤ p ∧ p < b
    · obtain ⟨k, q1, q2, q3⟩ := h.mem p hp.1 hp.2
      exact ⟨k, by omega, by omega, q3⟩
    · exact ⟨p, h1, h2, h.out p (by omega)⟩, h.perm⟩
theorem PIn.sw2 {a b i j : Nat} {l : List β} (hi : a ≤ i ∧ i < b) (hj : a ≤ j ∧ j < b) (hb : b ≤ l.length) : PIn a b l (sw2 l i j) :=
  ⟨fun p hp => by
    by_cases hl : p < l.length
    · rw [sw2_at hl, if_neg (by omega), if_neg (by omega)]
    · rw [getElem!_neg _ p (by rw [sw2_length]; exact hl), getElem!_neg _ p hl],
   fun p h1 h2 => by
    rw [sw2_at (by omega)]
    split
    · exact ⟨i, hi.1, hi.2, rfl⟩
    · split
      · exact ⟨j, hj.1, hj.2, rfl⟩
      · exact ⟨p, h1, h2, rfl⟩, sw2_perm (by omega) (by omega)⟩
def dnF (l : List β) (i j p : Nat) : β := if p < j ∨ i < p then l[p]! else if p = j then l[i]! else l[p - 1]!
def upF (l : List β) (i j p : Nat) : β := if p < i ∨ j < p then l[p]! else if p = j then l[i]! else l[p + 1]!
def dn (l : List β) (i j : Nat) : List β := mkL l.length (dnF l i j)
def up (l : List β) (i j : Nat) : List β := mkL l.length (upF l i j)
theorem dn_self (l : List β) (i : Nat) : dn l i i = l := by
  conv => rhs; rw [← mkL_self l]
  refine mkL_ext fun p _ => ?_
  unfold dnF
  split
  · rfl
  · split
    · rename_i h; rw [h]
    · omega
theorem up_self (l : List β) (i : Nat) : up l i i = l := by
  conv => rhs; rw [← mkL_self l]
  refine mkL_ext fun p _ => ?_
  unfold upF
  split
  · rfl
  · split
    · rename_i h; rw [h]
    · omega
theorem dn_step {l : List β} {i j : Nat} (h0 : 0 < j) (hj : j ≤ i) (hi : i < l.length) : sw2 (dn l i j) j (j - 1) = dn l i (j - 1) := by
  refine sw2_mkL _ _ (by omega) (by omega) fun p hp => ?_
  unfold dnF
  by_cases h1 : p = j - 1
  · subst h1
    rw [if_neg (by omega), if_pos rfl, if_pos rfl, if_neg (by omega), if_pos rfl]
  · by_cases h2 : p = j
    · subst h2
      simp only [if_neg h1]
      rw [if_neg (by omega), if_pos trivial, if_pos (by omega)]
    · simp only [if_neg h1, if_neg h2]
      by_cases h3 : p < j - 1 ∨ i < p
      · rw [if_pos h3, if_pos (by omega)]
      · rw [if_neg h3, if_neg (by omega)]
theorem up_step {l : List β} {i j : Nat} (hj : i ≤ j) (hi : j + 1 < l.length) : sw2 (up l i j) j (j + 1) = up l i (j + 1) := by
  refine sw2_mkL _ _ (by omega) (by omega) fun p hp => ?_
  unfold upF
  by_cases h1 : p = j + 1
  · subst h1
    rw [if_neg (by omega), if_pos rfl, if_pos rfl, if_neg (by omega), if_pos rfl]
  · by_cases h2 : p = j
    · subst h2
      simp only [if_neg h1]
      rw [if_neg (by omega), if_pos trivial, if_pos (by omega)]
    · simp only [if_neg h1, if_neg h2]
      by_cases h3 : p < i ∨ j + 1 < p
      · rw [if_pos h3, if_pos (by omega)]
      · rw [if_neg h3, if_neg (by omega)]
theorem PIn.dn {a b i : Nat} {l : List β} (hi : i < b) (hb : b ≤ l.length) : ∀ d j, j + d = i → a ≤ j → PIn a b l (dn l i j) := by
  intro d
  induction d with
  | zero => intro j h1 h2; rw [show j = i by omega, dn_self]; exact .refl _ _ _
  | succ d ih =>
    intro j h1 h2
    have h3 := ih (j + 1) (by omega) (by omega)
    have h4 := dn_step (l := l) (i := i) (j := j + 1) (by omega) (by omega) (by omega)
    rw [Nat.add_sub_cancel] at h4
    rw [← h4]
    exact h3.trans (PIn.sw2 ⟨by omega, by omega⟩ ⟨by omega, by omega⟩ (by rw [h3.length]; exact hb))
theorem PIn.up {a b i : Nat} {l : List β} (hi : a ≤ i) (hb : b ≤ l.length) : ∀ d, i + d < b → PIn a b l (up l i (i + d)) := by
  intro d
  induction d with
  | zero => intro _; rw [Nat.add_zero, up_self]; exact .refl _ _ _
  | succ d ih =>
    intro h1
    have h3 := ih (by omega)
    rw [← Nat.add_assoc, ← up_step (l := l) (i := i) (j := i + d) (by omega) (by omega)]
    exact h3.trans (PIn.sw2 ⟨by omega, by omega⟩ ⟨by omega, by omega⟩ (by rw [h3.length]; exact hb))
def swrF (l : List β) (a b k p : Nat) : β := if a ≤ p ∧ p < a + k then l[p - a + b]! else if b ≤ p ∧ p < b + k then l[p - b + a]! else l[p]!
def swr (l : List β) (a b k : Nat) : List β := mkL l.length (swrF l a b k)
theorem swr_zero (l : List β) (a b : Nat) : swr l a b 0 = l := by
  conv => rhs; rw [← mkL_self l]
  refine mkL_ext fun p _ => ?_
  unfold swrF
  rw [if_neg (by omega), if_neg (by omega)]
theorem swr_step {l : List β} {a b k n : Nat} (hab : a + n ≤ b) (hk : k < n) (hb : b + n ≤ l.length) : sw2 (swr l a b k) (a + k) (b + k) = swr l a b (k + 1) := by
  refine sw2_mkL _ _ (by omega) (by omega) fun p hp => ?_
  unfold swrF
  by_cases h1 : p = b + k
  · rw [if_pos h1, if_neg (by omega), if_pos (by omega), if_neg (by omega), if_neg (by omega)]
    congr 1; omega
  · rw [if_neg h1]
    by_cases h2 : p = a + k
    · rw [if_pos h2, if_pos (by omega), if_neg (by omega), if_neg (by omega)]
      congr 1; omega
    · rw [if_neg h2]
      by_cases h3 : a ≤ p ∧ p < a + k
      · rw [if_pos h3, if_pos (by omega)]
      · rw [if_neg h3, if_neg (by omega)]
        by_cases h4 : b ≤ p ∧ p < b + k
        · rw [if_pos h4, if_pos (by omega)]
        · rw [if_neg h4, if_neg (by omega)]
theorem PIn.swr {a b n lo hi : Nat} {l : List β} (hab : a + n ≤ b) (hlo : lo ≤ a) (hhi : b + n ≤ hi) (hl : hi ≤ l.length) : ∀ k, k ≤ n → PIn lo hi l (swr l a b k) := by
  intro k
  induction k with
  | zero => intro _; rw [swr_zero]; exact .refl _ _ _
  | succ k ih =>
    intro hk
    have h3 := ih (by omega)
    rw [← swr_step hab (by omega : k < n) (by omega)]
    exact h3.trans (PIn.sw2 ⟨by omega, by omega⟩ ⟨by omega, by omega⟩ (by rw [h3.length]; exact hl))
def rotF (l : List β) (a m b p : Nat) : β := if p < a ∨ b ≤ p then l[p]! else if p + m < a + b then l[p + m - a]! else l[p + m - b]!
def rot (l : List β) (a m b : Nat) : List β := mkL l.length (rotF l a m b)
theorem swr_at {l : List β} {a b k p : Nat} (hp : p < l.length) : (swr l a b k)[p]! = swrF l a b k p := mkL_at _ hp
theorem rot_gt {l : List β} {m i j : Nat} (hij : j < i) (hi : i ≤ m) (hb : m + j ≤ l.length) : rot (swr l (m - i) m j) (m - (i - j)) m (m + j) = rot l (m - i) m (m + j) := by
  unfold rot
  rw [show (swr l (m - i) m j).length = l.length from mkL_length _ _]
  refine mkL_ext fun p hp => ?_
  unfold rotF
  by_cases h1 : p < m - i ∨ m + j ≤ p
  · rw [if_pos (by omega), if_pos h1, swr_at hp]
    unfold swrF
    rw [if_neg (by omega), if_neg (by omega)]
  · rw [if_neg h1]
    by_cases h2 : p < m - (i - j)
    · rw [if_pos (by omega), swr_at hp, if_pos (by omega)]
      unfold swrF
      rw [if_pos (by omega)]
      congr 1; omega
    · rw [if_neg (by omega)]
      by_cases h3 : p + m < m - (i - j) + (m + j)
      · rw [if_pos h3, if_neg (by omega), swr_at (by omega)]
        unfold swrF
        rw [if_neg (by omega), if_pos (by omega)]
        congr 1; omega
      · rw [if_neg h3, if_neg (by omega), swr_at (by omega)]
        unfold swrF
        rw [if_neg (by omega), if_neg (by omega)]
theorem rot_lt {l : List β} {m i j : Nat} (hij : i < j) (hi : i ≤ m) (hb : m + j ≤ l.length) : rot (swr l (m - i) (m + j - i) i) (m - i) m (m + (j - i)) = rot l (m - i) m (m + j) := by
  unfold rot
  rw [show (swr l (m - i) (m + j - i) i).length = l.length from mkL_length _ _]
  refine mkL_ext fun p hp => ?_
  unfold rotF
  by_cases h1 : p < m - i ∨ m + j ≤ p
  · rw [if_pos (by omega), if_pos h1, swr_at hp]
    unfold swrF
    rw [if_neg (by omega), if_neg (by omega)]
  · rw [if_neg h1]
    by_cases h2 : m + (j - i) ≤ p
    · rw [if_pos (by omega), swr_at hp, if_neg (by omega)]
      unfold swrF
      rw [if_neg (by omega), if_pos (by omega)]
      congr 1; omega
    · rw [if_neg (by omega), if_pos (by omega : p + m < m - i + (m + j))]
      by_cases h3 : p + m < m - i + (m + (j - i))
      · rw [if_pos h3, swr_at (by omega)]
        unfold swrF
        rw [if_neg (by omega), if_neg (by omega)]
      · rw [if_neg h3, swr_at (by omega)]
        unfold swrF
        rw [if_pos (by omega)]
        congr 1; omega
theorem rot_eq {l : List β} {m i : Nat} (hi : i ≤ m) : swr l (m - i) m i = rot l (m - i) m (m + i) := by
  refine mkL_ext fun p hp => ?_
  unfold swrF rotF
  by_cases h1 : p < m - i ∨ m + i ≤ p
  · rw [if_pos h1, if_neg (by omega), if_neg (by omega)]
  · rw [if_neg h1]
    by_cases h2 : p + m < m - i + (m + i)
    · rw [if_pos h2, if_pos (by omega)]
      congr 1; omega
    · rw [if_neg h2, if_neg (by omega), if_pos (by omega)]
      congr 1; omega
end
section
variable {β : Type} [Inhabited β]
theorem rot_at {l : List β} {a m b p : Nat} (hp : p < l.length) : (rot l a m b)[p]! = rotF l a m b p := mkL_at _ hp
theorem rot_length (l : List β) (a m b : Nat) : (rot l a m b).length = l.length := mkL_length _ _
theorem swr_length (l : List β) (a b k : Nat) : (swr l a b k).length = l.length := mkL_length _ _
theorem PIn.rot {lo hi m : Nat} : ∀ (s i j : Nat) (l : List β), i + j ≤ s → 0 < i → 0 < j → i ≤ m → lo ≤ m - i → m + j ≤ hi → hi ≤ l.length → PIn lo hi l (rot l (m - i) m (m + j)) := by
  intro s
  induction s with
  | zero => intro i j l h1 h2; omega
  | succ s ih =>
    intro i j l h1 h2 h3 h4 h5 h6 h7
    rcases Nat.lt_trichotomy i j with h | h | h
    · rw [← rot_lt h h4 (by omega)]
      have hp := PIn.swr (l := l) (a := m - i) (b := m + j - i) (n := i) (lo := lo) (hi := hi) (by omega) h5 (by omega) h7 i (Nat.le_refl _)
      exact hp.trans (ih i (j - i) _ (by omega) h2 (by omega) h4 h5 (by omega) (by rw [swr_length]; exact h7))
    · subst h
      rw [← rot_eq h4]
      exact PIn.swr (by omega) h5 h6 h7 i (Nat.le_refl _)
    · rw [← rot_gt h h4 (by omega)]
      have hp := PIn.swr (l := l) (a := m - i) (b := m) (n := j) (lo := lo) (hi := hi) (by omega) h5 (by omega) h7 j (Nat.le_refl _)
      exact hp.trans (ih (i - j) j _ (by omega) (by omega) h3 (by omega) (by omega) h6 (by rw [swr_length]; exact h7))
def Asc (lt : β → β → Prop) (a b : Nat) (l : List β) : Prop := ∀ p q, a ≤ p → p < q → q < b → lt l[p]! l[q]!
variable {lt : β → β → Prop}
theorem Asc.le (ht : ∀ x y z, lt x y → lt y z → lt x z) {a b : Nat} {l : List β} (h : Asc lt a b l) {p q : Nat} {x : β} (hp : a ≤ p) (hpq : p ≤ q) (hq : q < b) (hx : lt l[q]! x) : lt l[p]! x := by
  rcases Nat.lt_or_ge p q with h1 | h1
  · exact ht _ _ _ (h p q hp h1 hq) hx
  · obtain rfl : p = q := by omega
    exact hx
theorem Asc.ge (ht : ∀ x y z, lt x y → lt y z → lt x z) {a b : Nat} {l : List β} (h : Asc lt a b l) {p q : Nat} {x : β} (hp : a ≤ p) (hpq : p ≤ q) (hq : q < b) (hx : lt x l[p]!) : lt x l[q]! := by
  rcases Nat.lt_or_ge p q with h1 | h1
  · exact ht _ _ _ hx (h p q hp h1 hq)
  · obtain rfl : p = q := by omega
    exact hx
theorem Asc.same {a b : Nat} {l r : List β} (h : Asc lt a b l) (hs : ∀ p, a ≤ p → p < b → r[p]! = l[p]!) : Asc lt a b r := fun p q h1 h2 h3 => by
  rw [hs p h1 (by omega), hs q (by omega) h3]; exact h p q h1 h2 h3
theorem asc_dn {a m i : Nat} {l : List β} (h : Asc lt a m l) (hi : a ≤ i) (him : i ≤ m) (hm : m < l.length) (h1 : ∀ k, a ≤ k → k < i → lt l[k]! l[m]!) (h2 : ∀ k, i ≤ k → k < m → lt l[m]! l[k]!) : Asc lt a (m + 1) (dn l m i) := by
  intro p q hp hpq hq
  unfold dn
  rw [mkL_at _ (by omega), mkL_at _ (by omega)]
  unfold dnF
  by_cases c1 : p < i
  · rw [if_pos (.inl c1)]
    by_cases c2 : q < i
    · rw [if_pos (.inl c2)]; exact h p q hp hpq (by omega)
    · rw [if_neg (by omega)]
      by_cases c3 : q = i
      · rw [if_pos c3]; exact h1 p hp c1
      · rw [if_neg c3]; exact h p (q - 1) hp (by omega) (by omega)
  · rw [if_neg (by omega), if_neg (by omega : ¬ (q < i ∨ m < q)), if_neg (by omega : ¬ q = i)]
    by_cases c3 : p = i
    · rw [if_pos c3]; exact h2 (q - 1) (by omega) (by omega)
    · rw [if_neg c3]; exact h (p - 1) (q - 1) (by omega) (by omega) (by omega)
theorem asc_up {a b i : Nat} {l : List β} (h : Asc lt (a + 1) b l) (hi : a + 1 ≤ i) (hib : i ≤ b) (hb : b ≤ l.length) (h1 : ∀ k, a + 1 ≤ k → k < i → lt l[k]! l[a]!) (h2 : ∀ k, i ≤ k → k < b → lt l[a]! l[k]!) : Asc lt a b (up l a (i - 1)) := by
  intro p q hp hpq hq
  unfold up
  rw [mkL_at _ (by omega), mkL_at _ (by omega)]
  unfold upF
  by_cases c1 : i - 1 < q
  · rw [if_pos (.inr c1 : q < a ∨ i - 1 < q)]
    by_cases c2 : i - 1 < p
    · rw [if_pos (.inr c2)]; exact h p q (by omega) hpq hq
    · rw [if_neg (by omega)]
      by_cases c3 : p = i - 1
      · rw [if_pos c3]; exact h2 q (by omega) hq
      · rw [if_neg c3]; exact h (p + 1) q (by omega) (by omega) hq
  · rw [if_neg (by omega : ¬ (q < a ∨ i - 1 < q)), if_neg (by omega), if_neg (by omega : ¬ p = i - 1)]
    by_cases c3 : q = i - 1
    · rw [if_pos c3]; exact h1 (p + 1) (by omega) (by omega)
    · rw [if_neg c3]; exact h (p + 1) (q + 1) (by omega) (by omega) (by omega)
def Dec (cf : β → β → Int) (lt : β → β → Prop) (a m b : Nat) (l : List β) : Prop := ∀ p q, a ≤ p → p < m → m ≤ q → q < b → (cf l[q]! l[p]! < 0 → lt l[q]! l[p]!) ∧ (¬ cf l[q]! l[p]! < 0 → lt l[p]! l[q]!)
structure SmPre (cf : β → β → Int) (lt : β → β → Prop) (a m b : Nat) (l : List β) : Prop where
  left : Asc lt a m l
  right : Asc lt m b l
  dec : Dec cf lt a m b l
theorem sm_glue {cf : β → β → Int} (ht : ∀ x y z, lt x y → lt y z → lt x z) {a m b start mid en : Nat} {l : List β} (h : SmPre cf lt a m b l) (ha : a ≤ start) (hsm : start ≤ m) (hme : m ≤ en) (heb : en ≤ b) (hb : b ≤ l.length) (hmid : start + en = mid + m)
    (h1 : a < start → en < b → lt l[start - 1]! l[en]!) (h2 : start < m → m < en → lt l[en - 1]! l[start]!) :
    SmPre cf lt a start mid (rot l start m en) ∧ SmPre cf lt mid en b (rot l start m en) ∧ ∀ p q, a ≤ p → p < mid → mid ≤ q → q < b → lt (rot l start m en)[p]! (rot l start m en)[q]! := by
  obtain ⟨hl, hr, hd⟩ := h
  have at1 : ∀ p, p < start → (rot l start m en)[p]! = l[p]! := fun p hp => by
    by_cases hpl : p < l.length
    · rw [rot_at hpl, rotF, if_pos (.inl hp)]
    · rw [getElem!_neg _ p (by rw [rot_length]; exact hpl), getElem!_neg _ p hpl]
  have at2 : ∀ p, start ≤ p → p < mid → (rot l start m en)[p]! = l[p + m - start]! := fun p h1 h2 => by
    rw [rot_at (by omega), rotF, if_neg (by omega), if_pos (by omega)]
  have at3 : ∀ p, mid ≤ p → p < en → (rot l start m en)[p]! = l[p + m - en]! := fun p h1 h2 => by
    rw [rot_at (by omega), rotF, if_neg (by omega), if_neg (by omega)]
  have at4 : ∀ p, en ≤ p → (rot l start m en)[p]! = l[p]! := fun p hp => by
    by_cases hpl : p < l.length
    · rw [rot_at hpl, rotF, if_pos (.inr hp)]
    · rw [getElem!_neg _ p (by rw [rot_length]; exact hpl), getElem!_neg _ p hpl]
  refine ⟨⟨fun p q q1 q2 q3 => ?_, fun p q q1 q2 q3 => ?_, fun p q q1 q2 q3 q4 => ?_⟩, ⟨fun p q q1 q2 q3 => ?_, fun p q q1 q2 q3 => ?_, fun p q q1 q2 q3 q4 => ?_⟩, fun p q q1 q2 q3 q4 => ?_⟩
  · rw [at1 p (by omega), at1 q q3]; exact hl p q q1 q2 (by omega)
  · rw [at2 p q1 (by omega), at2 q (by omega) q3]; exact hr _ _ (by omega) (by omega) (by omega)
  · rw [at1 p q2, at2 q q3 q4]; exact hd _ _ q1 (by omega) (by omega) (by omega)
  · rw [at3 p q1 (by omega), at3 q (by omega) q3]; exact hl _ _ (by omega) (by omega) (by omega)
  · rw [at4 p q1, at4 q (by omega)]; exact hr _ _ (by omega) q2 q3
  · rw [at3 p q1 q2, at4 q q3]; exact hd _ _ (by omega) (by omega) (by omega) q4
  · by_cases c1 : p < start
    · rw [at1 p c1]
      by_cases c2 : q < en
      · rw [at3 q q3 c2]; exact hl _ _ q1 (by omega) (by omega)
      · rw [at4 q (by omega)]
        exact hl.le ht q1 (by omega : p ≤ start - 1) (by omega) (hr.ge ht (by omega : m ≤ en) (by omega) q4 (h1 (by omega) (by omega)))
    · rw [at2 p (by omega) q2]
      by_cases c2 : q < en
      · rw [at3 q q3 c2]
        exact hr.le ht (by omega) (by omega : p + m - start ≤ en - 1) (by omega) (hl.ge ht ha (by omega : start ≤ q + m - en) (by omega) (h2 (by omega) (by omega)))
      · rw [at4 q (by omega)]; exact hr _ _ (by omega) (by omega) q4
theorem asc_halves {a mid b : Nat} {l r s : List β} (hm : a ≤ mid) (hmb : mid ≤ b) (hlr : ∀ p q, a ≤ p → p < mid → mid ≤ q → q < b → lt l[p]! l[q]!) (p1 : PIn a mid l r) (a1 : Asc lt a mid r) (p2 : PIn mid b r s) (a2 : Asc lt mid b s) : Asc lt a b s := by
  intro p q hp hpq hq
  by_cases c1 : q < mid
  · rw [p2.out p (by omega), p2.out q (by omega)]; exact a1 p q hp hpq c1
  · by_cases c2 : mid ≤ p
    · exact a2 p q c2 hpq hq
    · rw [p2.out p (by omega)]
      obtain ⟨k1, e1, e2, e3⟩ := p1.mem p hp (by omega)
      obtain ⟨k2, e4, e5, e6⟩ := p2.mem q (by omega) hq
      rw [e3, e6, p1.out k2 (by omega)]
      exact hlr k1 k2 e1 e2 e4 e5
end
theorem rot_triv1 {β : Type} [Inhabited β] (l : List β) (m b : Nat) : rot l m m b = l := by
  conv => rhs; rw [← mkL_self l]
  refine mkL_ext fun p _ => ?_
  unfold rotF
  split
  · rfl
  · rw [if_pos (by omega)]; congr 1; omega
theorem rot_triv2 {β : Type} [Inhabited β] (l : List β) (a m : Nat) : rot l a m m = l := by
  conv => rhs; rw [← mkL_self l]
  refine mkL_ext fun p _ => ?_
  unfold rotF
  split
  · rfl
  · rw [if_neg (by omega)]; congr 1; omega
theorem SmPre.same {β : Type} [Inhabited β] {cf : β → β → Int} {lt : β → β → Prop} {a m b : Nat} {l r : List β} (h : SmPre cf lt a m b l) (hm : a ≤ m) (hb : m ≤ b) (hs : ∀ p, a ≤ p → p < b → r[p]! = l[p]!) : SmPre cf lt a m b r :=
  ⟨h.left.same fun p h1 h2 => hs p h1 (by omega), h.right.same fun p h1 h2 => hs p (by omega) h2, fun p q h1 h2 h3 h4 => by
    rw [hs p h1 (by omega), hs q (by omega) h4]; exact h.dec p q h1 h2 h3 h4⟩
