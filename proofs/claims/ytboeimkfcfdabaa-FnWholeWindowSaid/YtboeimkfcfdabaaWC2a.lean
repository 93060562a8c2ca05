/- WALK of functions of the seat, or plain laws for it: each theorem f<k> says what function k returns, for every world and all arguments that stand for the values named. Conditions: none but those ahead of each theorem. -/
import Derived.Test.YtboeimkfcfdabaaWC1
open Go Go.Vm Go.Proofs
set_option maxRecDepth 100000
set_option maxHeartbeats 8000000
set_option linter.unusedSimpArgs false
set_option linter.unusedVariables false
def ins {β : Type} (ys : List β) (k : Nat) (x : β) : List β := ys.take k ++ x :: ys.drop k
theorem ins_length {β : Type} (ys : List β) (k : Nat) (x : β) : (ins ys k x).length = ys.length + 1 := by simp [ins]; omega
theorem ins_at {β : Type} [Inhabited β] {ys : List β} {k p : Nat} {x : β} (hk : k ≤ ys.length) (hp : p < ys.length + 1) : (ins ys k x)[p]! = if p < k then ys[p]! else if p = k then x else ys[p - 1]! := by
  unfold ins
  rw [List.getElem!_eq_getElem?_getD, List.getElem?_append, List.length_take, Nat.min_eq_left hk]
  by_cases h1 : p < k
  · rw [if_pos h1, if_pos h1, List.getElem?_take, if_pos h1, List.getElem!_eq_getElem?_getD]
  · rw [if_neg h1, if_neg h1]
    by_cases h2 : p = k
    · subst h2; simp
    · rw [if_neg h2, List.getElem?_cons, if_neg (by omega), List.getElem?_drop, List.getElem!_eq_getElem?_getD]
      congr 2
      omega
theorem asc_ins {β : Type} [Inhabited β] {lt : β → β → Prop} {i k : Nat} {ys : List β} {x : β} (hl : ys.length = i) (hk : k ≤ i) (h : Asc lt 0 i ys) (h1 : ∀ j, j < k → lt ys[j]! x) (h2 : ∀ j, k ≤ j → j < i → lt x ys[j]!) : Asc lt 0 (i + 1) (ins ys k x) := by
  intro p q _ hpq hq
  rw [ins_at (by omega) (by omega), ins_at (by omega) (by omega)]
  by_cases a1 : p < k
  · rw [if_pos a1]
    by_cases b1 : q < k
    · rw [if_pos b1]; exact h p q (Nat.zero_le _) hpq (by omega)
    · rw [if_neg b1]
      by_cases b2 : q = k
      · rw [if_pos b2]; exact h1 p a1
      · rw [if_neg b2]; exact h p (q - 1) (Nat.zero_le _) (by omega) (by omega)
  · rw [if_neg a1, if_neg (show ¬ q < k by omega), if_neg (show ¬ q = k by omega)]
    by_cases a2 : p = k
    · rw [if_pos a2]; exact h2 (q - 1) (by omega) (by omega)
    · rw [if_neg a2]; exact h (p - 1) (q - 1) (Nat.zero_le _) (by omega) (by omega)
theorem tagL_take {ws : List (List Val)} {i : Nat} (hi : i < ws.length) : (tagL ws).take (i + 1) = (tagL ws).take i ++ [(i, ws[i]!)] := by
  rw [take_next _ _ (by rw [tagL_length]; exact hi)]
  congr 2
  unfold tagL
  rw [mkL_at _ hi]
theorem tag_lt {ws : List (List Val)} {i : Nat} {z : Nat × List Val} (h : z ∈ (tagL ws).take i) : z.1 < i := by
  obtain ⟨m, hm, rfl⟩ := List.mem_iff_getElem.1 h
  rw [List.getElem_take]
  rw [List.length_take] at hm
  have : m < ws.length := by rw [tagL_length] at hm; omega
  rw [← getElem!_pos (tagL ws) m (by rw [tagL_length]; exact this)]
  unfold tagL
  rw [mkL_at _ this]
  dsimp only
  omega
theorem ins_ok {ws : List (List Val)} {ys : List (Nat × List Val)} {i k : Nat} (hi : i < ws.length) (hl : ys.length = i) (hp : ys.Perm ((tagL ws).take i)) (ha : Asc zlt 0 i ys) (hk : k ≤ i) (h0 : k = 0 ∨ rowCmp ys[k - 1]!.2 ws[i]! ≤ 0) (h1 : ∀ j, k ≤ j → j < i → 0 < rowCmp ys[j]!.2 ws[i]!) :
    (ins ys k (i, ws[i]!)).Perm ((tagL ws).take (i + 1)) ∧ Asc zlt 0 (i + 1) (ins ys k (i, ws[i]!)) := by
  have ht : ∀ j, j < i → ys[j]!.1 < i := fun j hj => by
    have : ys[j]! ∈ ys := by rw [getElem!_pos ys j (by omega)]; exact List.getElem_mem _
    exact tag_lt (hp.mem_iff.1 this)
  refine ⟨?_, asc_ins hl hk ha (fun j hj => ?_) (fun j h2 h3 => ?_)⟩
  · rw [tagL_take hi]
    unfold ins
    refine List.perm_middle.trans ?_
    rw [List.take_append_drop]
    exact (List.Perm.cons _ hp).trans (List.perm_append_singleton _ _).symm
  · have h2 : rowCmp ys[j]!.2 ws[i]! ≤ 0 := by
      rcases h0 with h0 | h0
      · omega
      · by_cases hjk : j = k - 1
        · rw [hjk]; exact h0
        · have : rowCmp ys[j]!.2 ys[k - 1]!.2 ≤ 0 := by
            rcases ha j (k - 1) (Nat.zero_le _) (by omega) (by omega) with h | ⟨h, _⟩ <;> omega
          exact rowCmp_ok.tr _ _ _ this h0
    by_cases h3 : rowCmp ys[j]!.2 ws[i]! = 0
    · exact .inr ⟨h3, ht j (by omega)⟩
    · exact .inl (by dsimp only; omega)
  · have h4 := h1 j h2 h3
    have h5 := rowCmp_ok.anti ys[j]!.2 ws[i]!
    exact .inl (by dsimp only; omega)
/-- In one way only. -/
theorem asc_uniq {lt : Nat × List Val → Nat × List Val → Prop} (ht : ∀ x y z, lt x y → lt y z → lt x z) (hirr : ∀ x, ¬ lt x x) : ∀ (n : Nat) (ys zs : List (Nat × List Val)), ys.length = n → ys.Perm zs → Asc lt 0 n ys → Asc lt 0 n zs → ys = zs
  | 0, ys, zs, hl, hp, _, _ => by
    obtain rfl := List.eq_nil_of_length_eq_zero hl
    exact hp.nil_eq
  | n + 1, [], zs, hl, hp, _, _ => by cases hl
  | n + 1, y :: ys, [], hl, hp, _, _ => by have := hp.length_eq; simp at this
  | n + 1, y :: ys, z :: zs, hl, hp, h1, h2 => by
    have hl1 : ys.length = n := by simpa using hl
    have hl2 : zs.length = n := by have := hp.length_eq; simp at this; omega
    have first : ∀ (u : Nat × List Val) (us : List (Nat × List Val)), us.length = n → Asc lt 0 (n + 1) (u :: us) → ∀ v ∈ us, lt u v := fun u us hu ha v hv => by
      obtain ⟨m, hm, rfl⟩ := List.mem_iff_getElem.1 hv
      have := ha 0 (m + 1) (Nat.zero_le _) (by omega) (by omega)
      rw [getElem!_pos (u :: us) 0 (by simp), getElem!_pos (u :: us) (m + 1) (by simp; omega)] at this
      simpa using this
    have hyz : y = z := by
      have m1 : y ∈ z :: zs := hp.mem_iff.1 (by simp)
      have m2 : z ∈ y :: ys := hp.mem_iff.2 (by simp)
      rcases List.mem_cons.1 m1 with h | h
      · exact h
      · rcases List.mem_cons.1 m2 with h' | h'
        · exact h'.symm
        · exact absurd (ht _ _ _ (first z zs hl2 h2 y h) (first y ys hl1 h1 z h')) (hirr z)
    subst hyz
    have tl : ∀ us : List (Nat × List Val), us.length = n → Asc lt 0 (n + 1) (y :: us) → Asc lt 0 n us := fun us hu ha p q _ hpq hq => by
      have := ha (p + 1) (q + 1) (Nat.zero_le _) (by omega) (by omega)
      rw [getElem!_pos (y :: us) (p + 1) (by simp; omega), getElem!_pos (y :: us) (q + 1) (by simp; omega)] at this
      rw [getElem!_pos us p (by omega), getElem!_pos us q (by omega)]
      simpa using this
    rw [asc_uniq ht hirr n ys zs hl1 ((List.perm_cons y).1 hp) (tl ys hl1 h1) (tl zs hl2 h2)]
theorem WinR.uniq {ws : List (List Val)} {ys zs : List (Nat × List Val)} (h : WinR ws ys) (h2 : WinR ws zs) : ys = zs := by
  rcases h with ⟨h, p1, a1⟩ | ⟨h, rfl⟩
  · rcases h2 with ⟨_, p2, a2⟩ | ⟨h', _⟩
    · exact asc_uniq zlt_tr zlt_irr ws.length ys zs (by rw [p1.length_eq, tagL_length]) (p1.trans p2.symm) a1 a2
    · exact absurd h h'
  · rcases h2 with ⟨h', _, _⟩ | ⟨_, rfl⟩
    · exact absurd h' h
    · rfl
