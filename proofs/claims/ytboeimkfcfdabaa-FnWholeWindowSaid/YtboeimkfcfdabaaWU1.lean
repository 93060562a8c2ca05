/- WALK of functions of the seat, or plain laws for it: each theorem f<k> says what function k returns, for every world and all arguments that stand for the values named. Conditions: none but those ahead of each theorem. -/
import Derived.Test.YtboeimkfcfdabaaWE3
open Go Go.Vm Go.Proofs
set_option maxRecDepth 100000
set_option maxHeartbeats 2000000
set_option linter.unusedSimpArgs false
set_option linter.unusedVariables false
theorem rowCmp_self (r : List Val) : rowCmp r r = 0 := by have := rowCmp_ok.anti r r; omega
def SortedR (zs : List (List Val)) : Prop := ∀ p q, p < q → q < zs.length → rowCmp zs[p]! zs[q]! ≤ 0
theorem at_map {α β : Type} [Inhabited α] [Inhabited β] (f : α → β) (l : List α) {i : Nat} (h : i < l.length) : (l.map f)[i]! = f l[i]! := by
  rw [getElem!_pos (l.map f) i (by simpa using h), getElem!_pos l i h, List.getElem_map]
theorem WinR.sorted {ws : List (List Val)} {ys : List (Nat × List Val)} (h : WinR ws ys) : SortedR (ys.map Prod.snd) := by
  intro p q hpq hq
  rw [List.length_map] at hq
  rw [at_map _ _ (by omega), at_map _ _ hq]
  rcases h with ⟨_, hp, ha⟩ | ⟨_, rfl⟩
  · have hl : ys.length = ws.length := by rw [hp.length_eq, tagL_length]
    rcases ha p q (Nat.zero_le _) hpq (by omega) with h1 | h1 <;> omega
  · simp at hq
theorem sCmp_zero {a b : ByteArray} : sCmp a b = 0 ↔ a = b := by
  unfold sCmp
  rcases sLt_tot a b with h | h | h
  · rw [if_pos h]
    exact ⟨fun h2 => by omega, fun h2 => by subst h2; exact absurd h (sLt_irr _)⟩
  · subst h; simp [sLt_irr]
  · have h2 : ¬ sLt a b := fun h2 => sLt_irr _ (sLt_tr h h2)
    rw [if_neg h2, if_pos h]
    exact ⟨fun h2 => by omega, fun h2 => by subst h2; exact absurd h (sLt_irr _)⟩
theorem iCmp_zero {a b : Int} : iCmp a b = 0 ↔ a = b := by unfold iCmp; split <;> (try split) <;> omega
theorem vCmp_zero {v w : Val} : vCmp v w = 0 ↔ vEq v w := by
  unfold vEq
  by_cases h1 : v.k = w.k
  · by_cases h2 : v.n = w.n
    · rw [vCmp_s h1 h2, sCmp_zero]; simp [h1, h2]
    · rw [vCmp_n h1 h2, iCmp_zero]; simp [h1, h2]
  · rw [vCmp_k h1, iCmp_zero]; simp [h1]
theorem vCmp_self (v : Val) : vCmp v v = 0 := vCmp_zero.2 ⟨rfl, rfl, rfl⟩
theorem rowCmp_le {r s : List Val} : rowCmp r s ≤ 0 ↔ vCmp r[0]! s[0]! ≤ 0 ∧ (vCmp r[0]! s[0]! = 0 → vCmp r[1]! s[1]! ≤ 0) := by
  unfold rowCmp or0
  dsimp only
  split <;> omega
theorem rowCmp_zero {r s : List Val} : rowCmp r s = 0 ↔ vCmp r[0]! s[0]! = 0 ∧ vCmp r[1]! s[1]! = 0 := by
  unfold rowCmp or0
  dsimp only
  split <;> omega
section
variable {zs : List (List Val)} (hs : SortedR zs)
include hs
theorem SortedR.le {p q : Nat} (h : p ≤ q) (hq : q < zs.length) : rowCmp zs[p]! zs[q]! ≤ 0 := by
  rcases Nat.lt_or_ge p q with h1 | h1
  · exact hs p q h1 hq
  · obtain rfl : p = q := by omega
    rw [rowCmp_self]; omega
/-- Groups stand together. -/
theorem SortedR.mid {p q r : Nat} (h1 : p ≤ q) (h2 : q ≤ r) (hr : r < zs.length) (h : vCmp zs[p]![0]! zs[r]![0]! = 0) : vCmp zs[p]![0]! zs[q]![0]! = 0 ∧ vCmp zs[q]![0]! zs[r]![0]! = 0 := by
  have a1 := (rowCmp_le.1 (hs.le h1 (by omega))).1
  have a2 := (rowCmp_le.1 (hs.le h2 hr)).1
  constructor
  · by_cases h3 : vCmp zs[p]![0]! zs[q]![0]! < 0
    · have := vCmp_ok.lt_le h3 a2; omega
    · omega
  · by_cases h3 : vCmp zs[q]![0]! zs[r]![0]! < 0
    · have := vCmp_ok.le_lt a1 h3; omega
    · omega
end
/-- One row's part, told without bounds. -/
def wStepI (r : List Val) (a : Spt) (s : List Val) : Spt := if vEq s[0]! r[0]! then ⟨if vCmp s[1]! r[1]! < 0 then a.r + 1 else a.r, if vCmp s[1]! r[1]! ≤ 0 then a.s + s[2]!.n else a.s⟩ else a
theorem wStep_I {r s : List Val} {a : Spt} {B : Int} (h : winP s) (h0 : 0 ≤ a.r) (h1 : -B ≤ a.s) (h2 : a.s ≤ B) (h3 : a.r ≤ B) (hB : B ≤ 1000000000) : wStep r a s = wStepI r a s ∧ 0 ≤ (wStepI r a s).r ∧ (wStepI r a s).r ≤ B + 9999 ∧ -(B + 9999) ≤ (wStepI r a s).s ∧ (wStepI r a s).s ≤ B + 9999 := by
  have := h.sum
  unfold wStep wStepI
  by_cases g0 : vEq s[0]! r[0]!
  · simp only [if_pos g0]
    have e1 : IntKind.i64.wrap (a.r + 1) = a.r + 1 := wr (by omega)
    have e2 : (if s[2]!.k = 1 then IntKind.i64.wrap (a.s + s[2]!.n) else a.s) = a.s + s[2]!.n := by
      split
      · exact wr (by omega)
      · rename_i h4; rw [this.2 h4]; omega
    rw [e1, e2]
    refine ⟨rfl, ?_⟩
    split <;> split <;> omega
  · simp only [if_neg g0]
    refine ⟨trivial, ?_⟩
    omega
theorem wFold_I {r : List Val} : ∀ (l : List (List Val)) (a : Spt) (B : Int), (∀ s ∈ l, winP s) → 0 ≤ a.r → a.r ≤ B → -B ≤ a.s → a.s ≤ B → B + 9999 * l.length ≤ 1000000000 → l.foldl (wStep r) a = l.foldl (wStepI r) a
  | [], a, B, _, _, _, _, _, _ => rfl
  | s :: l, a, B, hw, h0, h1, h2, h3, h4 => by
    simp only [List.length_cons] at h4
    obtain ⟨e, k1, k2, k3, k4⟩ := wStep_I (r := r) (hw s (by simp)) h0 h2 h3 h1 (by omega)
    rw [List.foldl_cons, List.foldl_cons, e]
    exact wFold_I l _ (B + 9999) (fun x hx => hw x (by simp [hx])) k1 (by omega) k3 k4 (by omega)
theorem wSpot_I {zs : List (List Val)} (hw : ∀ r ∈ zs, winP r) (hl : zs.length ≤ 50) (r : List Val) : wSpot zs r = zs.foldl (wStepI r) ⟨1, 0⟩ := by
  unfold wSpot
  exact wFold_I zs ⟨1, 0⟩ 1 hw (by decide) (by decide) (by decide) (by decide) (by omega)
/-- The sum of the numbers of rows. -/
def nSum (l : List (List Val)) : Int := (l.map fun s => s[2]!.n).sum
theorem nSum_app (a b : List (List Val)) : nSum (a ++ b) = nSum a + nSum b := by simp [nSum]
theorem nSum_one (s : List Val) : nSum [s] = s[2]!.n := by simp [nSum]
theorem nSum_nil : nSum [] = 0 := rfl
