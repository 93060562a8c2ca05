/- WALK of functions of the seat, or plain laws for it: each theorem f<k> says what function k returns, for every world and all arguments that stand for the values named. Conditions: none but those ahead of each theorem. -/
import Derived.Test.YtboeimkfcfdabaaWC2
open Go Go.Vm Go.Proofs
set_option maxRecDepth 100000
set_option maxHeartbeats 8000000
set_option linter.unusedSimpArgs false
set_option linter.unusedVariables false
theorem hasFroL_vA (xs : List Val) : hasFro.hasFroL (xs.map vA) = false := by
  induction xs with
  | nil => rfl
  | cons x xs ih => simp only [List.map_cons, hasFro.hasFroL, ih, vA, hasFro]; rfl
theorem hasFroL_rO (xs : List (List Val)) : hasFro.hasFroL (xs.map rO) = false := by
  induction xs with
  | nil => rfl
  | cons x xs ih => simp only [List.map_cons, hasFro.hasFroL, ih, rO, hasFro, hasFroL_vA]; rfl
theorem szL_mem {α : Type} {f : α → Int → Int} (hf : SzOk f) : ∀ (xs : List α) (l : Int), 0 ≤ l → 0 ≤ szL f xs l → ∀ x ∈ xs, ∃ l', 0 ≤ l' ∧ l' ≤ l ∧ 0 ≤ f x l'
  | [], l, _, _, x, hx => by cases hx
  | y :: xs, l, hl, h, x, hx => by
    rw [szL] at h
    split at h
    · omega
    · rename_i h1
      rcases List.mem_cons.1 hx with rfl | hx
      · exact ⟨l, hl, Int.le_refl _, by omega⟩
      · have := hf y l hl
        obtain ⟨l', a, b, c⟩ := szL_mem hf xs (f y l) (by omega) h x hx
        exact ⟨l', a, by omega, c⟩
theorem szS_mem {α : Type} {f : α → Int → Int} (hf : SzOk f) {xs : List α} {l : Int} (h : 0 ≤ szS f xs l) : xs.length ≤ l ∧ ∀ x ∈ xs, ∃ l', 0 ≤ l' ∧ l' ≤ l ∧ 0 ≤ f x l' := by
  unfold szS at h
  split at h
  · omega
  · refine ⟨by omega, fun x hx => ?_⟩
    obtain ⟨l', h1, h2, h3⟩ := szL_mem hf xs _ (by omega) h x hx
    exact ⟨l', h1, by omega, h3⟩
theorem sz_smR {xs : List (List Val)} (h : 0 ≤ szS szr xs 1048576) : xs.length ≤ 1048576 ∧ ∀ r ∈ xs, r.length ≤ 1048576 := by
  obtain ⟨h1, h2⟩ := szS_mem szr_ok h
  refine ⟨by omega, fun r hr => ?_⟩
  obtain ⟨l', h3, h4, h5⟩ := h2 r hr
  obtain ⟨h6, _⟩ := szS_mem szv_ok (show 0 ≤ szS szv r l' from h5)
  omega
theorem rT_snd (ys : List (Nat × List Val)) : ys.map rT = (ys.map Prod.snd).map rO := by rw [List.map_map]; rfl
theorem WinR.sub {ws : List (List Val)} {ys : List (Nat × List Val)} (h : WinR ws ys) : (ys.map Prod.snd).length ≤ ws.length ∧ ∀ r ∈ ys.map Prod.snd, r ∈ ws := by
  rcases h with ⟨_, hp, _⟩ | ⟨_, rfl⟩
  · refine ⟨by rw [List.length_map, hp.length_eq, tagL_length]; exact Nat.le_refl _, fun r hr => ?_⟩
    obtain ⟨z, hz, rfl⟩ := List.mem_map.1 hr
    exact tagL_mem (hp.mem_iff.1 hz)
  · exact ⟨by simp, by simp⟩
