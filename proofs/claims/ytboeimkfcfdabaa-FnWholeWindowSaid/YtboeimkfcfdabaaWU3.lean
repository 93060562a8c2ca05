/- WALK of functions of the seat, or plain laws for it: each theorem f<k> says what function k returns, for every world and all arguments that stand for the values named. Conditions: none but those ahead of each theorem. -/
import Derived.Test.YtboeimkfcfdabaaWU2
open Go Go.Vm Go.Proofs
set_option maxRecDepth 100000
set_option maxHeartbeats 2000000
set_option linter.unusedSimpArgs false
set_option linter.unusedVariables false
theorem nSum_perm {l l' : List (List Val)} (h : l.Perm l') : nSum l = nSum l' := by
  induction h with
  | nil => rfl
  | cons x _ ih => simp only [nSum, List.map_cons, List.sum_cons] at *; omega
  | swap x y l => simp only [nSum, List.map_cons, List.sum_cons] at *; omega
  | trans _ _ ih1 ih2 => exact ih1.trans ih2
/-- The sum at a row of which the group has none behind. -/
theorem fold_sum {r : List Val} : ∀ (l : List (List Val)) (a : Spt), (∀ s ∈ l, vEq s[0]! r[0]! → vCmp s[1]! r[1]! ≤ 0) → (l.foldl (wStepI r) a).s = a.s + nSum (l.filter fun s => decide (vEq s[0]! r[0]!))
  | [], a, _ => by simp [nSum_nil]
  | s :: l, a, h => by
    rw [List.foldl_cons, fold_sum l _ fun x hx => h x (by simp [hx])]
    unfold wStepI
    by_cases g : vEq s[0]! r[0]!
    · rw [if_pos g, if_pos (h s (by simp) g), List.filter_cons_of_pos (by simpa using g)]
      simp only [nSum, List.map_cons, List.sum_cons]
      omega
    · rw [if_neg g, List.filter_cons_of_neg (by simpa using g)]
theorem spot_last {zs : List (List Val)} (hs : SortedR zs) (hw : ∀ r ∈ zs, winP r) (hl : zs.length ≤ 50) {k : Nat} (hk : k < zs.length) (hf : ∀ j, k < j → j < zs.length → ¬ vEq zs[j]![0]! zs[k]![0]!) : (wSpot zs zs[k]!).s = nSum (zs.filter fun s => decide (vEq s[0]! zs[k]![0]!)) := by
  rw [wSpot_I hw hl, fold_sum zs _ fun s hm hv => ?_]
  · show 0 + _ = _
    omega
  · obtain ⟨j, hj, rfl⟩ := List.getElem_of_mem hm
    rw [← getElem!_pos zs j hj] at hv ⊢
    rcases Nat.lt_or_ge k j with h | h
    · exact absurd hv (hf j h hj)
    · exact (rowCmp_le.1 (hs.le h hk)).2 (vCmp_zero.2 hv)
/-- What is known of so many numbers of this sum. -/
def knG (k : Kn) (m : Nat) (S : Int) : Prop := (m = 0 ∧ k = noK ∧ S = 0) ∨ (1 ≤ m ∧ knP k ∧ k.many = m ∧ k.lo.k = 1 ∧ k.sum = S)
theorem knP_no : knP noK := .inl ⟨rfl, rfl, rfl, rfl, rfl, rfl, rfl, rfl, rfl⟩
theorem knP_one {v : Val} (h : valP v) (h1 : v.k = 1) : knP ⟨1, v.n, v, v⟩ := by
  have hb : -9999 ≤ v.n ∧ v.n ≤ 9999 := by
    unfold valP at h
    rcases h with h | h | h | h <;> omega
  refine .inr ⟨by show ¬ (1 : Int) = 0; omega, ⟨by show (1 : Int) ≤ 1; omega, by show (1 : Int) ≤ 100; omega⟩, ⟨by show -(9999 * (1 : Int)) ≤ v.n; omega, by show v.n ≤ 9999 * (1 : Int); omega⟩, h, h, rfl, by show ¬ v.k = 0; omega, by show vCmp v v ≤ 0; rw [vCmp_self]; omega, .inl h1⟩
theorem vCmp_flip {v w : Val} (h : ¬ vCmp v w < 0) : vCmp w v ≤ 0 := by
  rw [vCmp_ok.anti]; omega
theorem knG_step {k : Kn} {m : Nat} {S : Int} (h : knG k m S) (hm : m < 100) {v : Val} (hv : valP v) (hk : v.k = 1 ∨ v.k = 0) : ∃ m', m' ≤ m + 1 ∧ knG (knBoth k (knOf v)) m' (S + v.n) := by
  rcases hk with hk | hk
  · have ho : knOf v = ⟨1, v.n, v, v⟩ := by
      unfold knOf
      rw [if_neg fun h => by rcases h with h | h; exact h hv; omega, if_pos hk]
    have hp := knP_one hv hk
    rw [ho]
    rcases h with ⟨rfl, rfl, rfl⟩ | ⟨h1, h2, h3, h4, h5⟩
    · refine ⟨1, by omega, .inr ⟨by omega, ?_⟩⟩
      have : knBoth noK ⟨1, v.n, v, v⟩ = ⟨1, v.n, v, v⟩ := by
        unfold knBoth
        rw [if_neg fun h => by rcases h with h | h; exact h knP_no; exact h hp, if_pos (show noK.many = 0 from rfl)]
      rw [this]
      exact ⟨hp, rfl, hk, by show v.n = 0 + v.n; omega⟩
    · refine ⟨m + 1, by omega, .inr ⟨by omega, ?_⟩⟩
      have hq : knQ k := by
        rcases h2 with ⟨h, _⟩ | ⟨_, h⟩
        · omega
        · exact h
      obtain ⟨q1, q2, q3, q4, q5, q6, q7, q8⟩ := hq
      have hb : -9999 ≤ v.n ∧ v.n ≤ 9999 := by
        unfold valP at hv
        rcases hv with h | h | h | h <;> omega
      have : knBoth k ⟨1, v.n, v, v⟩ = ⟨k.many + 1, k.sum + v.n, if vCmp v k.lo < 0 then v else k.lo, if 0 < vCmp v k.hi then v else k.hi⟩ := by
        unfold knBoth
        rw [if_neg fun h => by rcases h with h | h; exact h h2; exact h hp, if_neg (by omega), if_neg (by show ¬ (1 : Int) = 0; omega), if_neg]
        rintro (h | h)
        · exact h (by rw [h4]; exact hk.symm)
        · have h : 100 < k.many + 1 := h
          omega
      rw [this]
      have e1 : (if vCmp v k.lo < 0 then v else k.lo).k = 1 := by split <;> assumption
      have e2 : (if 0 < vCmp v k.hi then v else k.hi).k = 1 := by
        split
        · exact hk
        · omega
      refine ⟨.inr ⟨by show ¬ k.many + 1 = 0; omega, ⟨by show 1 ≤ k.many + 1; omega, by show k.many + 1 ≤ 100; omega⟩, ⟨by show -(9999 * (k.many + 1)) ≤ k.sum + v.n; omega, by show k.sum + v.n ≤ 9999 * (k.many + 1); omega⟩, ?_, ?_, ?_, ?_, ?_, .inl e1⟩, by show k.many + 1 = ((m + 1 : Nat) : Int); omega, e1, by show k.sum + v.n = S + v.n; omega⟩
      · show valP (if _ then _ else _)
        split <;> assumption
      · show valP (if _ then _ else _)
        split <;> assumption
      · show (if vCmp v k.lo < 0 then v else k.lo).k = (if 0 < vCmp v k.hi then v else k.hi).k
        rw [e1, e2]
      · show ¬ (if vCmp v k.lo < 0 then v else k.lo).k = 0
        omega
      · show vCmp (if vCmp v k.lo < 0 then v else k.lo) (if 0 < vCmp v k.hi then v else k.hi) ≤ 0
        split
        · split
          · rw [vCmp_self]; omega
          · omega
        · rename_i g
          split
          · exact vCmp_flip g
          · exact q7
  · have ho : knOf v = noK := by
      unfold knOf
      rw [if_pos (.inr hk)]
    have hn : v.n = 0 := by
      unfold valP at hv
      rcases hv with h | h | h | h <;> omega
    rw [ho, hn, Int.add_zero]
    refine ⟨m, by omega, ?_⟩
    rcases h with ⟨rfl, rfl, rfl⟩ | ⟨h1, h2, h3, h4, h5⟩
    · refine .inl ⟨rfl, ?_, rfl⟩
      unfold knBoth
      rw [if_neg fun h => by rcases h with h | h <;> exact h knP_no, if_pos (show noK.many = 0 from rfl)]
    · refine .inr ⟨h1, ?_⟩
      have : knBoth k noK = k := by
        unfold knBoth
        rw [if_neg fun h => by rcases h with h | h; exact h h2; exact h knP_no, if_neg (by omega), if_pos (show noK.many = 0 from rfl)]
      rw [this]
      exact ⟨h2, h3, h4, h5⟩
theorem knL_sum (key : List Val) (rs : List (List Val)) : (∀ r ∈ rs, winP r) → rs.length ≤ 100 → ∃ m, m ≤ rs.length ∧ knG (knL rs [0] 2 key) m (nSum (rs.filter fun r => decide (takeBy r [0] = key))) := by
  refine snocI (P := fun rs => (∀ r ∈ rs, winP r) → rs.length ≤ 100 → ∃ m, m ≤ rs.length ∧ knG (knL rs [0] 2 key) m (nSum (rs.filter fun r => decide (takeBy r [0] = key)))) (fun _ _ => ⟨0, Nat.le_refl _, .inl ⟨rfl, rfl, rfl⟩⟩) (fun l r ih hw hl => ?_) rs
  rw [List.length_append, List.length_singleton] at hl
  obtain ⟨m, hm, hg⟩ := ih (fun x hx => hw x (by simp [hx])) (by omega)
  rw [knL_app, List.filter_append, nSum_app]
  unfold knStep
  have hr := hw r (by simp)
  by_cases h : takeBy r [0] = key
  · rw [if_pos (rEq_dec.2 h), List.filter_cons_of_pos (by simpa using h), List.filter_nil, nSum_one]
    obtain ⟨m', h1, h2⟩ := knG_step hg (by omega) (hr.at (i := 2) (by omega)) hr.2.2
    exact ⟨m', by simp; omega, h2⟩
  · rw [if_neg fun h2 => h (rEq_dec.1 h2), List.filter_cons_of_neg (by simpa using h), List.filter_nil, nSum_nil, Int.add_zero]
    exact ⟨m, by simp; omega, hg⟩
theorem tell_sum {k : Kn} {m : Nat} {S : Int} (h : knG k m S) (h1 : (knTell k 2).k = 1) : (knTell k 2).n = S := by
  have hz : ¬ zV.k = 1 := by show ¬ (0 : Int) = 1; omega
  unfold knTell at *
  rw [if_neg (show ¬ (2 : Int) = 1 by omega), if_pos rfl] at *
  split at h1
  · exact absurd h1 hz
  rename_i hp
  rw [if_neg hp]
  split at h1
  · rename_i h4
    rw [if_pos h4]
    unfold numV at *
    split at h1
    · rename_i hb
      rw [if_pos hb]
      rcases h with ⟨_, rfl, _⟩ | h
      · exact absurd h4 hz
      · exact h.2.2.2.2
    · exact absurd h1 hz
  · exact absurd h1 hz
