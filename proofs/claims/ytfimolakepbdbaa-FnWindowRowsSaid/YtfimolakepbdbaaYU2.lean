/- WALK of functions of the seat, or plain laws for it: each theorem f<k> says what function k returns, for every world and all arguments that stand for the values named. Conditions: none but those ahead of each theorem. -/
import Derived.Test.YtfimolakepbdbaaYU1
open Go Go.Vm Go.Proofs
set_option maxRecDepth 100000
set_option maxHeartbeats 2000000
set_option linter.unusedSimpArgs false
set_option linter.unusedVariables false
/-- Where the group of row k begins. -/
def gB (zs : List (List Val)) (lo k : Nat) : Prop := lo ≤ k ∧ vCmp zs[lo]![0]! zs[k]![0]! = 0 ∧ (lo = 0 ∨ ¬ vCmp zs[lo - 1]![0]! zs[k]![0]! = 0)
theorem gB_uniq {zs : List (List Val)} (hs : SortedR zs) {lo lo' k : Nat} (hk : k < zs.length) (h : gB zs lo k) (h' : gB zs lo' k) : lo = lo' := by
  obtain ⟨a1, a2, a3⟩ := h
  obtain ⟨b1, b2, b3⟩ := h'
  rcases Nat.lt_trichotomy lo lo' with h | h | h
  · exfalso
    rcases b3 with b3 | b3
    · omega
    · exact b3 (hs.mid (show lo ≤ lo' - 1 by omega) (by omega) hk a2).2
  · exact h
  · exfalso
    rcases a3 with a3 | a3
    · omega
    · exact a3 (hs.mid (show lo' ≤ lo - 1 by omega) (by omega) hk b2).2
theorem begin_at {zs : List (List Val)} (p : Nat → Prop) [DecidablePred p] : ∀ (k : Nat), p k → ∃ lo, lo ≤ k ∧ (∀ m, lo ≤ m → m ≤ k → p m) ∧ (lo = 0 ∨ ¬ p (lo - 1))
  | 0, h => ⟨0, Nat.le_refl _, fun m a b => by obtain rfl : m = 0 := by omega
                                               exact h, .inl rfl⟩
  | k + 1, h => by
    by_cases h0 : p k
    · obtain ⟨lo, h1, h2, h3⟩ := begin_at (zs := zs) p k h0
      exact ⟨lo, by omega, fun m a b => by
        by_cases hm : m = k + 1
        · rw [hm]; exact h
        · exact h2 m a (by omega), h3⟩
    · exact ⟨k + 1, Nat.le_refl _, fun m a b => by
        obtain rfl : m = k + 1 := by omega
        exact h, .inr h0⟩
theorem gB_ex (zs : List (List Val)) (k : Nat) : ∃ lo, gB zs lo k := by
  obtain ⟨lo, h1, h2, h3⟩ := begin_at (zs := zs) (fun m => vCmp zs[m]![0]! zs[k]![0]! = 0) k (vCmp_self _)
  exact ⟨lo, h1, h2 lo (Nat.le_refl _) h1, h3⟩
theorem spot_ex {zs : List (List Val)} (hs : SortedR zs) (hw : ∀ r ∈ zs, winP r) (hl : zs.length ≤ 50) {lo k : Nat} (hk : k < zs.length) (hg : gB zs lo k) :
    ∃ i e, lo ≤ i ∧ i ≤ k ∧ k < e ∧ e ≤ zs.length ∧ (∀ j, i ≤ j → j < e → rowCmp zs[j]! zs[k]! = 0) ∧ (i = lo ∨ ¬ rowCmp zs[i - 1]! zs[k]! = 0) ∧ wSpot zs zs[k]! = ⟨((i - lo : Nat) : Int) + 1, nSum (seg zs lo e)⟩ := by
  obtain ⟨i, i1, i2, i3⟩ := begin_at (zs := zs) (fun m => rowCmp zs[m]! zs[k]! = 0) k (rowCmp_self _)
  obtain ⟨e, e1, e2, e3, e4⟩ := end_at (zs := zs) (i := k) _ (k + 1) rfl (by omega) (by omega) (fun m a b => by
    obtain rfl : m = k := by omega
    exact rowCmp_self _)
  have hli : lo ≤ i := by
    rcases Nat.lt_or_ge i lo with h | h
    · exfalso
      rcases hg.2.2 with h0 | h0
      · omega
      · exact h0 (rowCmp_zero.1 (i2 (lo - 1) (by omega) (by have := hg.1; omega))).1
    · exact h
  have hall : ∀ j, i ≤ j → j < e → rowCmp zs[j]! zs[k]! = 0 := fun j a b => by
    rcases Nat.lt_or_ge k j with h | h
    · exact rowCmp_sy (e3 j (by omega) b)
    · exact i2 j a h
  have hi3 : i = lo ∨ ¬ rowCmp zs[i - 1]! zs[k]! = 0 := by
    rcases i3 with h | h
    · exact .inl (by omega)
    · exact .inr h
  exact ⟨i, e, hli, i1, by omega, e2, hall, hi3, wSpot_at hs hw hl hli i1 (by omega) e2 hg.2.1 hg.2.2 hall hi3 e4⟩
/-- What is asked of each row's spot. -/
theorem spot_first {zs : List (List Val)} (hs : SortedR zs) (hw : ∀ r ∈ zs, winP r) (hl : zs.length ≤ 50) {k : Nat} (hk : k < zs.length) (hf : k = 0 ∨ ¬ vEq zs[k - 1]![0]! zs[k]![0]!) : gB zs k k ∧ (wSpot zs zs[k]!).r = 1 := by
  have hg : gB zs k k := ⟨Nat.le_refl _, vCmp_self _, hf.imp id fun h h2 => h (vCmp_zero.1 h2)⟩
  obtain ⟨i, e, h1, h2, _, _, _, _, h3⟩ := spot_ex hs hw hl hk hg
  refine ⟨hg, ?_⟩
  rw [h3]
  show ((i - k : Nat) : Int) + 1 = 1
  omega
theorem gB_next {zs : List (List Val)} {lo k : Nat} (hk : 0 < k) (hg : gB zs lo (k - 1)) (hv : vEq zs[k - 1]![0]! zs[k]![0]!) : gB zs lo k := by
  obtain ⟨a1, a2, a3⟩ := hg
  have tr : ∀ u : Val, vCmp u zs[k - 1]![0]! = 0 ↔ vCmp u zs[k]![0]! = 0 := fun u => by
    rw [vCmp_zero, vCmp_zero]
    unfold vEq at *
    constructor
    · rintro ⟨a, b, c⟩; exact ⟨a.trans hv.1, b.trans hv.2.1, c.trans hv.2.2⟩
    · rintro ⟨a, b, c⟩; exact ⟨a.trans hv.1.symm, b.trans hv.2.1.symm, c.trans hv.2.2.symm⟩
  exact ⟨by omega, (tr _).1 a2, a3.imp id fun h h2 => h ((tr _).2 h2)⟩
theorem spot_next {zs : List (List Val)} (hs : SortedR zs) (hw : ∀ r ∈ zs, winP r) (hl : zs.length ≤ 50) {k : Nat} (hk : k < zs.length) (h0 : 0 < k) (hv : vEq zs[k - 1]![0]! zs[k]![0]!) : (wSpot zs zs[k - 1]!).r ≤ (wSpot zs zs[k]!).r := by
  obtain ⟨lo, hg⟩ := gB_ex zs (k - 1)
  have hg2 := gB_next h0 hg hv
  obtain ⟨i, e, a1, a2, a3, a4, a5, a6, a7⟩ := spot_ex hs hw hl hk hg2
  obtain ⟨i', e', b1, b2, b3, b4, b5, b6, b7⟩ := spot_ex hs hw hl (show k - 1 < zs.length by omega) hg
  rw [a7, b7]
  show ((i' - lo : Nat) : Int) + 1 ≤ ((i - lo : Nat) : Int) + 1
  have : i' ≤ i := by
    rcases Nat.lt_or_ge i i' with h | h
    · exfalso
      rcases b6 with b6 | b6
      · omega
      · have c1 := a5 (i' - 1) (by omega) (by omega)
        have c2 := a5 (k - 1) (by omega) (by omega)
        exact b6 (rowCmp_tr0 c1 (rowCmp_sy c2))
    · exact h
  omega
theorem spot_last {zs : List (List Val)} (hs : SortedR zs) (hw : ∀ r ∈ zs, winP r) (hl : zs.length ≤ 50) {lo k : Nat} (hk : k < zs.length) (hg : gB zs lo k) (hla : k + 1 = zs.length ∨ ¬ vEq zs[k + 1]![0]! zs[k]![0]!) : (wSpot zs zs[k]!).s = nSum (seg zs lo (k + 1)) := by
  obtain ⟨i, e, a1, a2, a3, a4, a5, a6, a7⟩ := spot_ex hs hw hl hk hg
  rw [a7]
  have : e = k + 1 := by
    rcases Nat.lt_or_ge (k + 1) e with h | h
    · exfalso
      rcases hla with h1 | h1
      · omega
      · exact h1 (vCmp_zero.1 (rowCmp_zero.1 (a5 (k + 1) (by omega) h)).1)
    · omega
  rw [this]
