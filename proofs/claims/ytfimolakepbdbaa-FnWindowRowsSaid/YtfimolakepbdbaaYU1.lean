/- WALK of functions of the seat, or plain laws for it: each theorem f<k> says what function k returns, for every world and all arguments that stand for the values named. Conditions: none but those ahead of each theorem. -/
import Derived.Test.YtfimolakepbdbaaYE6
import Derived.Test.YtfimolakepbdbaaYE3
open Go Go.Vm Go.Proofs
set_option maxRecDepth 100000
set_option maxHeartbeats 2000000
set_option linter.unusedSimpArgs false
set_option linter.unusedVariables false
def SortedR (zs : List (List Val)) : Prop := ∀ p q, p < q → q < zs.length → rowCmp zs[p]! zs[q]! ≤ 0
theorem at_map {α β : Type} [Inhabited α] [Inhabited β] (f : α → β) (l : List α) {i : Nat} (h : i < l.length) : (l.map f)[i]! = f l[i]! := by
  rw [getElem!_pos (l.map f) i (by simpa using h), getElem!_pos l i h, List.getElem_map]
theorem WinR.sorted {ws : List (List Val)} {ys : List (Nat × List Val)} (h : WinR ws ys) : SortedR (ys.map Prod.snd) := by
  intro p q hpq hq
  rw [List.length_map] at hq
  rw [at_map _ _ (by omega), at_map _ _ hq]
  rcases h with ⟨_, hp, ha⟩ | ⟨_, rfl⟩
  · have hl : ys.length = ws.length := by rw [hp.length_eq, tagL_length]
    rcases ha p q (Nat.zero_le _) hpq (by omega) with h1 | h1 <;> omega
  · simp at hq
theorem sCmp_zero {a b : ByteArray} : sCmp a b = 0 ↔ a = b := by
  unfold sCmp
  rcases sLt_tot a b with h | h | h
  · rw [if_pos h]
    exact ⟨fun h2 => by omega, fun h2 => by subst h2; exact absurd h (sLt_irr _)⟩
  · subst h; simp [sLt_irr]
  · have h2 : ¬ sLt a b := fun h2 => sLt_irr _ (sLt_tr h h2)
    rw [if_neg h2, if_pos h]
    exact ⟨fun h2 => by omega, fun h2 => by subst h2; exact absurd h (sLt_irr _)⟩
theorem iCmp_zero {a b : Int} : iCmp a b = 0 ↔ a = b := by unfold iCmp; split <;> (try split) <;> omega
theorem vCmp_zero {v w : Val} : vCmp v w = 0 ↔ vEq v w := by
  unfold vEq
  by_cases h1 : v.k = w.k
  · by_cases h2 : v.n = w.n
    · rw [vCmp_s h1 h2, sCmp_zero]; simp [h1, h2]
    · rw [vCmp_n h1 h2, iCmp_zero]; simp [h1, h2]
  · rw [vCmp_k h1, iCmp_zero]; simp [h1]
theorem vCmp_self (v : Val) : vCmp v v = 0 := vCmp_zero.2 ⟨rfl, rfl, rfl⟩
theorem rowCmp_le {r s : List Val} : rowCmp r s ≤ 0 ↔ vCmp r[0]! s[0]! ≤ 0 ∧ (vCmp r[0]! s[0]! = 0 → vCmp r[1]! s[1]! ≤ 0) := by
  unfold rowCmp or0
  dsimp only
  split <;> omega
theorem rowCmp_zero {r s : List Val} : rowCmp r s = 0 ↔ vCmp r[0]! s[0]! = 0 ∧ vCmp r[1]! s[1]! = 0 := by
  unfold rowCmp or0
  dsimp only
  split <;> omega
section
variable {zs : List (List Val)} (hs : SortedR zs)
include hs
theorem SortedR.le {p q : Nat} (h : p ≤ q) (hq : q < zs.length) : rowCmp zs[p]! zs[q]! ≤ 0 := by
  rcases Nat.lt_or_ge p q with h1 | h1
  · exact hs p q h1 hq
  · obtain rfl : p = q := by omega
    rw [rowCmp_self]; omega
/-- Groups stand together. -/
theorem SortedR.mid {p q r : Nat} (h1 : p ≤ q) (h2 : q ≤ r) (hr : r < zs.length) (h : vCmp zs[p]![0]! zs[r]![0]! = 0) : vCmp zs[p]![0]! zs[q]![0]! = 0 ∧ vCmp zs[q]![0]! zs[r]![0]! = 0 := by
  have a1 := (rowCmp_le.1 (hs.le h1 (by omega))).1
  have a2 := (rowCmp_le.1 (hs.le h2 hr)).1
  constructor
  · by_cases h3 : vCmp zs[p]![0]! zs[q]![0]! < 0
    · have := vCmp_ok.lt_le h3 a2; omega
    · omega
  · by_cases h3 : vCmp zs[q]![0]! zs[r]![0]! < 0
    · have := vCmp_ok.le_lt a1 h3; omega
    · omega
end
/-- One row's part, told without bounds. -/
def wStepI (r : List Val) (a : Spt) (s : List Val) : Spt := if vEq s[0]! r[0]! then ⟨if vCmp s[1]! r[1]! < 0 then a.r + 1 else a.r, if vCmp s[1]! r[1]! ≤ 0 then a.s + s[2]!.n else a.s⟩ else a
theorem wStep_I {r s : List Val} {a : Spt} {B : Int} (h : winP s) (h0 : 0 ≤ a.r) (h1 : -B ≤ a.s) (h2 : a.s ≤ B) (h3 : a.r ≤ B) (hB : B ≤ 1000000000) : wStep r a s = wStepI r a s ∧ 0 ≤ (wStepI r a s).r ∧ (wStepI r a s).r ≤ B + 9999 ∧ -(B + 9999) ≤ (wStepI r a s).s ∧ (wStepI r a s).s ≤ B + 9999 := by
  have := h.sum
  unfold wStep wStepI
  by_cases g0 : vEq s[0]! r[0]!
  · simp only [if_pos g0]
    have e1 : IntKind.i64.wrap (a.r + 1) = a.r + 1 := wr (by omega)
    have e2 : (if s[2]!.k = 1 then IntKind.i64.wrap (a.s + s[2]!.n) else a.s) = a.s + s[2]!.n := by
      split
      · exact wr (by omega)
      · rename_i h4; rw [this.2 h4]; omega
    rw [e1, e2]
    refine ⟨rfl, ?_⟩
    split <;> split <;> omega
  · simp only [if_neg g0]
    refine ⟨trivial, ?_⟩
    omega
theorem wFold_I {r : List Val} : ∀ (l : List (List Val)) (a : Spt) (B : Int), (∀ s ∈ l, winP s) → 0 ≤ a.r → a.r ≤ B → -B ≤ a.s → a.s ≤ B → B + 9999 * l.length ≤ 1000000000 → l.foldl (wStep r) a = l.foldl (wStepI r) a
  | [], a, B, _, _, _, _, _, _ => rfl
  | s :: l, a, B, hw, h0, h1, h2, h3, h4 => by
    simp only [List.length_cons] at h4
    obtain ⟨e, k1, k2, k3, k4⟩ := wStep_I (r := r) (hw s (by simp)) h0 h2 h3 h1 (by omega)
    rw [List.foldl_cons, List.foldl_cons, e]
    exact wFold_I l _ (B + 9999) (fun x hx => hw x (by simp [hx])) k1 (by omega) k3 k4 (by omega)
theorem wSpot_I {zs : List (List Val)} (hw : ∀ r ∈ zs, winP r) (hl : zs.length ≤ 50) (r : List Val) : wSpot zs r = zs.foldl (wStepI r) ⟨1, 0⟩ := by
  unfold wSpot
  exact wFold_I zs ⟨1, 0⟩ 1 hw (by decide) (by decide) (by decide) (by decide) (by omega)
/-- The sum of the numbers of rows. -/
def nSum (l : List (List Val)) : Int := (l.map fun s => s[2]!.n).sum
theorem nSum_app (a b : List (List Val)) : nSum (a ++ b) = nSum a + nSum b := by simp [nSum]
theorem nSum_one (s : List Val) : nSum [s] = s[2]!.n := by simp [nSum]
theorem nSum_nil : nSum [] = 0 := rfl
theorem fold_none {r : List Val} : ∀ (l : List (List Val)) (a : Spt), (∀ s ∈ l, vEq s[0]! r[0]! → 0 < vCmp s[1]! r[1]!) → l.foldl (wStepI r) a = a
  | [], a, _ => rfl
  | s :: l, a, h => by
    rw [List.foldl_cons]
    have : wStepI r a s = a := by
      unfold wStepI
      split
      · rename_i h1
        have := h s (by simp) h1
        rw [if_neg (by omega), if_neg (by omega)]
      · rfl
    rw [this]
    exact fold_none l a fun x hx => h x (by simp [hx])
theorem fold_less {r : List Val} : ∀ (l : List (List Val)) (a : Spt), (∀ s ∈ l, vEq s[0]! r[0]! ∧ vCmp s[1]! r[1]! < 0) → l.foldl (wStepI r) a = ⟨a.r + l.length, a.s + nSum l⟩
  | [], a, _ => by simp [nSum_nil]
  | s :: l, a, h => by
    rw [List.foldl_cons]
    obtain ⟨h1, h2⟩ := h s (by simp)
    have : wStepI r a s = ⟨a.r + 1, a.s + s[2]!.n⟩ := by
      unfold wStepI
      rw [if_pos h1, if_pos h2, if_pos (by omega)]
    rw [this, fold_less l _ fun x hx => h x (by simp [hx])]
    simp [nSum]; omega
theorem fold_same {r : List Val} : ∀ (l : List (List Val)) (a : Spt), (∀ s ∈ l, vEq s[0]! r[0]! ∧ vCmp s[1]! r[1]! = 0) → l.foldl (wStepI r) a = ⟨a.r, a.s + nSum l⟩
  | [], a, _ => by simp [nSum_nil]
  | s :: l, a, h => by
    rw [List.foldl_cons]
    obtain ⟨h1, h2⟩ := h s (by simp)
    have : wStepI r a s = ⟨a.r, a.s + s[2]!.n⟩ := by
      unfold wStepI
      rw [if_pos h1, if_neg (by omega), if_pos (by omega)]
    rw [this, fold_same l _ fun x hx => h x (by simp [hx])]
    simp [nSum]; omega
/-- The rows from a place to a place. -/
def seg (zs : List (List Val)) (a b : Nat) : List (List Val) := (zs.take b).drop a
theorem seg_mem {zs : List (List Val)} {a b : Nat} (hb : b ≤ zs.length) {s : List Val} (h : s ∈ seg zs a b) : ∃ j, a ≤ j ∧ j < b ∧ s = zs[j]! := by
  obtain ⟨j, hj, rfl⟩ := List.getElem_of_mem h
  simp only [seg, List.length_drop, List.length_take] at hj
  refine ⟨a + j, by omega, by omega, ?_⟩
  rw [getElem!_pos zs (a + j) (by omega)]
  simp [seg]
theorem seg_cut (zs : List (List Val)) {a b c : Nat} (h1 : a ≤ b) (h2 : b ≤ c) (hc : c ≤ zs.length) : seg zs a c = seg zs a b ++ seg zs b c := by
  unfold seg
  have e : zs.take c = zs.take b ++ (zs.take c).drop b := by
    conv => lhs; rw [← List.take_append_drop b (zs.take c)]
    rw [List.take_take, Nat.min_eq_left h2]
  conv => lhs; rw [e]
  rw [List.drop_append, List.length_take, Nat.min_eq_left (by omega), show a - b = 0 by omega, List.drop_zero]
theorem seg_all (zs : List (List Val)) : seg zs 0 zs.length = zs := by simp [seg]
theorem seg_nil (zs : List (List Val)) (a : Nat) : seg zs a a = [] := by simp [seg]
theorem seg_length (zs : List (List Val)) {a b : Nat} (hb : b ≤ zs.length) : (seg zs a b).length = b - a := by simp [seg]; omega
theorem seg_one (zs : List (List Val)) {a : Nat} (h : a < zs.length) : seg zs a (a + 1) = [zs[a]!] := by
  unfold seg
  rw [take_next zs a h, List.drop_append, List.length_take, Nat.min_eq_left (by omega), Nat.sub_self, List.drop_zero, List.drop_of_length_le (by simp; omega), List.nil_append]
/-- What is told of a row: lo, where its group begins; i, where those like it begin; e, where these end. -/
theorem wSpot_at {zs : List (List Val)} (hs : SortedR zs) (hw : ∀ r ∈ zs, winP r) (hl : zs.length ≤ 50) {lo i e k : Nat} (h1 : lo ≤ i) (h2 : i ≤ k) (h3 : k < e) (h4 : e ≤ zs.length)
    (g0 : vCmp zs[lo]![0]! zs[k]![0]! = 0) (g1 : lo = 0 ∨ ¬ vCmp zs[lo - 1]![0]! zs[k]![0]! = 0) (g2 : ∀ j, i ≤ j → j < e → rowCmp zs[j]! zs[k]! = 0) (g3 : i = lo ∨ ¬ rowCmp zs[i - 1]! zs[k]! = 0) (g4 : e = zs.length ∨ ¬ rowCmp zs[k]! zs[e]! = 0) :
    wSpot zs zs[k]! = ⟨((i - lo : Nat) : Int) + 1, nSum (seg zs lo e)⟩ := by
  rw [wSpot_I hw hl]
  have hk : k < zs.length := by omega
  have e1 : zs = seg zs 0 lo ++ (seg zs lo i ++ (seg zs i e ++ seg zs e zs.length)) := by
    rw [← seg_cut zs (by omega) h4 (Nat.le_refl _), ← seg_cut zs h1 (by omega) (Nat.le_refl _), ← seg_cut zs (Nat.zero_le _) (by omega) (Nat.le_refl _), seg_all]
  have e2 : ∀ r a, zs.foldl (wStepI r) a = (seg zs e zs.length).foldl (wStepI r) ((seg zs i e).foldl (wStepI r) ((seg zs lo i).foldl (wStepI r) ((seg zs 0 lo).foldl (wStepI r) a))) := fun r a => by
    rw [← List.foldl_append, ← List.foldl_append, ← List.foldl_append, ← e1]
  rw [e2]
  rw [fold_none (seg zs 0 lo) _ fun s hs' hv => ?_, fold_less (seg zs lo i) _ fun s hs' => ?_, fold_same (seg zs i e) _ fun s hs' => ?_, fold_none (seg zs e zs.length) _ fun s hs' hv => ?_]
  · rw [seg_length zs (by omega), seg_cut zs h1 (show i ≤ e by omega) h4, nSum_app]
    simp; omega
  · obtain ⟨j, ja, jb, rfl⟩ := seg_mem (Nat.le_refl _) hs'
    have a1 := rowCmp_le.1 (hs.le (show k ≤ j by omega) jb)
    have a2 := vCmp_zero.2 hv
    have a3 := vCmp_ok.anti zs[j]![0]! zs[k]![0]!
    have a4 := vCmp_ok.anti zs[j]![1]! zs[k]![1]!
    by_cases a5 : vCmp zs[k]![1]! zs[j]![1]! = 0
    · exfalso
      rcases g4 with g4 | g4
      · omega
      · have b1 := rowCmp_zero.2 ⟨show vCmp zs[k]![0]! zs[j]![0]! = 0 by omega, a5⟩
        have b2 := hs.le (show k ≤ e by omega) (show e < zs.length by omega)
        have b3 := hs.le ja jb
        by_cases b4 : rowCmp zs[k]! zs[e]! < 0
        · have := rowCmp_ok.lt_le b4 b3; omega
        · omega
    · have := a1.2 (by omega)
      omega
  · obtain ⟨j, ja, jb, rfl⟩ := seg_mem h4 hs'
    have := rowCmp_zero.1 (g2 j ja jb)
    exact ⟨vCmp_zero.1 this.1, this.2⟩
  · obtain ⟨j, ja, jb, rfl⟩ := seg_mem (by omega) hs'
    have a0 := (hs.mid ja (show j ≤ k by omega) hk g0).2
    refine ⟨vCmp_zero.1 a0, ?_⟩
    have a1 := (rowCmp_le.1 (hs.le (show j ≤ k by omega) hk)).2 a0
    by_cases a2 : vCmp zs[j]![1]! zs[k]![1]! = 0
    · exfalso
      rcases g3 with g3 | g3
      · omega
      · have b1 := rowCmp_zero.2 ⟨a0, a2⟩
        have b2 := hs.le (show j ≤ i - 1 by omega) (show i - 1 < zs.length by omega)
        have b3 := hs.le (show i - 1 ≤ k by omega) hk
        by_cases b4 : rowCmp zs[i - 1]! zs[k]! < 0
        · have := rowCmp_ok.le_lt b2 b4; omega
        · omega
    · omega
  · obtain ⟨j, ja, jb, rfl⟩ := seg_mem (by omega) hs'
    exfalso
    have a0 := vCmp_zero.2 hv
    rcases g1 with g1 | g1
    · omega
    · exact g1 (hs.mid (show j ≤ lo - 1 by omega) (show lo - 1 ≤ k by omega) hk a0).2

theorem nSum_bd : ∀ (l : List (List Val)), (∀ s ∈ l, winP s) → -(9999 * (l.length : Int)) ≤ nSum l ∧ nSum l ≤ 9999 * l.length
  | [], _ => by simp [nSum]
  | s :: l, h => by
    have h1 := nSum_bd l fun x hx => h x (by simp [hx])
    have h2 := (h s (by simp)).sum
    have : nSum (s :: l) = s[2]!.n + nSum l := by simp [nSum]
    rw [this, List.length_cons]
    omega
theorem sAdd_fold : ∀ (l : List (List Val)) (t : Int) (B : Int), (∀ s ∈ l, winP s) → -B ≤ t → t ≤ B → B + 9999 * l.length ≤ 1000000000 → l.foldl sAdd t = t + nSum l
  | [], t, _, _, _, _, _ => by simp [nSum]
  | s :: l, t, B, h, h1, h2, h3 => by
    have hs := (h s (by simp)).sum
    simp only [List.length_cons] at h3
    have e : sAdd t s = t + s[2]!.n := (sAdd_wr (h s (by simp)) (by omega) (by omega)).symm.trans (wr (by omega))
    rw [List.foldl_cons, e, sAdd_fold l _ (B + 9999) (fun x hx => h x (by simp [hx])) (by omega) (by omega) (by omega)]
    simp [nSum]; omega
theorem end_at {zs : List (List Val)} {i : Nat} : ∀ (d j : Nat), zs.length - j = d → i ≤ j → j ≤ zs.length → (∀ m, i ≤ m → m < j → rowCmp zs[i]! zs[m]! = 0) → ∃ e, j ≤ e ∧ e ≤ zs.length ∧ (∀ m, i ≤ m → m < e → rowCmp zs[i]! zs[m]! = 0) ∧ (e = zs.length ∨ ¬ rowCmp zs[i]! zs[e]! = 0)
  | 0, j, h, _, hj, hm => ⟨j, Nat.le_refl _, hj, hm, .inl (by omega)⟩
  | d + 1, j, h, hij, hj, hm => by
    by_cases h0 : rowCmp zs[i]! zs[j]! = 0
    · obtain ⟨e, h1, h2, h3, h4⟩ := end_at (zs := zs) (i := i) d (j + 1) (by omega) (by omega) (by omega) (fun m a b => by
        by_cases hmj : m = j
        · rw [hmj]; exact h0
        · exact hm m a (by omega))
      exact ⟨e, by omega, h2, h3, h4⟩
    · exact ⟨j, Nat.le_refl _, hj, hm, .inr h0⟩
theorem rowCmp_sy {r s : List Val} (h : rowCmp r s = 0) : rowCmp s r = 0 := by rw [rowCmp_ok.anti, h]; rfl
theorem rowCmp_tr0 {r s u : List Val} (h : rowCmp r s = 0) (h2 : rowCmp s u = 0) : rowCmp r u = 0 := by
  have h3 := rowCmp_sy h
  have h4 := rowCmp_sy h2
  have a := rowCmp_ok.tr r s u (by omega) (by omega)
  have b := rowCmp_ok.tr u s r (by omega) (by omega)
  rw [rowCmp_ok.anti] at b
  omega
/-- Once over the rows is enough. -/
theorem wRun_spots {zs : List (List Val)} (hs : SortedR zs) (hw : ∀ r ∈ zs, winP r) (hl : zs.length ≤ 50) : ∀ (f i first : Nat) (t : Int), i ≤ zs.length → zs.length ≤ i + f → (i = 0 ∧ first = 0 ∧ t = 0 ∨ 0 < i ∧ first < i ∧ vCmp zs[first]![0]! zs[i - 1]![0]! = 0 ∧ (first = 0 ∨ ¬ vCmp zs[first - 1]![0]! zs[i - 1]![0]! = 0) ∧ t = nSum (seg zs first i) ∧ (i = zs.length ∨ ¬ rowCmp zs[i - 1]! zs[i]! = 0)) →
    wRun zs f i first t = (zs.drop i).map (wSpot zs) := by
  intro f
  induction f with
  | zero => intro i first t hi hf _; rw [List.drop_of_length_le (by omega)]; rfl
  | succ f ih =>
    intro i first t hi hf hinv
    by_cases hlt : i < zs.length
    · obtain ⟨e, e1, e2, e3, e4⟩ := end_at (zs := zs) (i := i) _ (i + 1) rfl (by omega) (by omega) (fun m a b => by
        obtain rfl : m = i := by omega
        exact rowCmp_self _)
      have hge : gEnd zs i = e := gEnd_eq (by omega) e2 e3 e4
      rw [wRun_step hlt hge]
      obtain ⟨lo, hlo⟩ : ∃ lo, (if nwP zs i then i else first) = lo := ⟨_, rfl⟩
      obtain ⟨T, hT⟩ : ∃ T, (if nwP zs i then 0 else t) = T := ⟨_, rfl⟩
      rw [hlo, hT]
      have key : lo ≤ i ∧ vCmp zs[lo]![0]! zs[i]![0]! = 0 ∧ (lo = 0 ∨ ¬ vCmp zs[lo - 1]![0]! zs[i]![0]! = 0) ∧ T = nSum (seg zs lo i) ∧ (i = lo ∨ ¬ rowCmp zs[i - 1]! zs[i]! = 0) := by
        by_cases hn : nwP zs i
        · rw [if_pos hn] at hlo hT
          subst hlo hT
          refine ⟨Nat.le_refl _, vCmp_self _, ?_, by rw [seg_nil]; rfl, .inl rfl⟩
          rcases hn with hn | hn
          · exact .inl hn
          · refine .inr fun h => hn (vEq_symm.1 (vCmp_zero.1 h))
        · rw [if_neg hn] at hlo hT
          subst hlo hT
          have hi0 : ¬ i = 0 := fun h => hn (.inl h)
          have hv : vEq zs[i]![0]! zs[i - 1]![0]! := by
            by_cases h : vEq zs[i]![0]! zs[i - 1]![0]!
            · exact h
            · exact absurd (.inr h) hn
          rcases hinv with ⟨h, _⟩ | ⟨_, h1, h2, h3, h4, h5⟩
          · exact absurd h hi0
          have hv' := vCmp_zero.2 (vEq_symm.1 hv)
          have tr : ∀ u : Val, vCmp u zs[i - 1]![0]! = 0 ↔ vCmp u zs[i]![0]! = 0 := fun u => by
            rw [vCmp_zero, vCmp_zero]
            have := vCmp_zero.1 hv'
            unfold vEq at *
            constructor
            · rintro ⟨a, b, c⟩; exact ⟨a.trans this.1, b.trans this.2.1, c.trans this.2.2⟩
            · rintro ⟨a, b, c⟩; exact ⟨a.trans this.1.symm, b.trans this.2.1.symm, c.trans this.2.2.symm⟩
          refine ⟨by omega, (tr _).1 h2, h3.imp id fun h => fun h6 => h ((tr _).2 h6), h4, .inr ?_⟩
          rcases h5 with h5 | h5
          · omega
          · exact h5
      obtain ⟨k1, k2, k3, k4, k5⟩ := key
      have hb := nSum_bd (seg zs lo i) fun s hs' => by
        obtain ⟨j, _, hj, rfl⟩ := seg_mem (by omega) hs'
        exact hw _ (by rw [getElem!_pos zs j (by omega)]; exact List.getElem_mem _)
      rw [seg_length zs (by omega), ← k4] at hb
      have hsegw : ∀ s ∈ (zs.drop i).take (e - i), winP s := fun s hs' => hw _ (List.mem_of_mem_drop (List.mem_of_mem_take hs'))
      have hseg : (zs.drop i).take (e - i) = seg zs i e := by unfold seg; rw [List.drop_take]
      have hG : gTot zs i e T = nSum (seg zs lo e) := by
        unfold gTot
        rw [sAdd_fold _ T 499950 hsegw (by omega) (by omega) (by simp; omega), hseg, k4, ← nSum_app, ← seg_cut zs k1 (by omega) e2]
      rw [hG]
      have hd : zs.drop i = seg zs i e ++ zs.drop e := by
        rw [← hseg]
        conv => lhs; rw [← List.take_append_drop (e - i) (zs.drop i)]
        rw [List.drop_drop, show i + (e - i) = e by omega]
      rw [hd, List.map_append]
      have hcell : ∀ k, i ≤ k → k < e → wSpot zs zs[k]! = ⟨((i - lo : Nat) : Int) + 1, nSum (seg zs lo e)⟩ := fun k a b => by
        have hk := e3 k a b
        have hk0 := (rowCmp_zero.1 hk).1
        have tr : ∀ u : Val, vCmp u zs[i]![0]! = 0 ↔ vCmp u zs[k]![0]! = 0 := fun u => by
          rw [vCmp_zero, vCmp_zero]
          have := vCmp_zero.1 hk0
          unfold vEq at *
          constructor
          · rintro ⟨a, b, c⟩; exact ⟨a.trans this.1, b.trans this.2.1, c.trans this.2.2⟩
          · rintro ⟨a, b, c⟩; exact ⟨a.trans this.1.symm, b.trans this.2.1.symm, c.trans this.2.2.symm⟩
        refine wSpot_at hs hw hl k1 a b e2 ((tr _).1 k2) (k3.imp id fun h h6 => h ((tr _).2 h6)) (fun j ja jb => rowCmp_tr0 (rowCmp_sy (e3 j ja jb)) hk) (k5.imp id fun h h6 => h (rowCmp_tr0 h6 (rowCmp_sy hk))) (e4.imp id fun h h6 => h (rowCmp_tr0 hk h6))
      congr 1
      · symm
        rw [List.eq_replicate_iff]
        refine ⟨by rw [List.length_map, seg_length zs e2], fun x hx => ?_⟩
        obtain ⟨s, hs', rfl⟩ := List.mem_map.1 hx
        obtain ⟨j, ja, jb, rfl⟩ := seg_mem e2 hs'
        exact hcell j ja jb
      · refine ih e lo _ e2 (by omega) (.inr ⟨by omega, by omega, ?_, ?_, rfl, ?_⟩)
        · have := (rowCmp_zero.1 (e3 (e - 1) (by omega) (by omega))).1
          have h1 := vCmp_zero.1 this
          have h2 := vCmp_zero.1 k2
          refine vCmp_zero.2 ?_
          unfold vEq at *
          exact ⟨h2.1.trans h1.1, h2.2.1.trans h1.2.1, h2.2.2.trans h1.2.2⟩
        · have := (rowCmp_zero.1 (e3 (e - 1) (by omega) (by omega))).1
          have h1 := vCmp_zero.1 this
          refine k3.imp id fun h h6 => h (vCmp_zero.2 ?_)
          have h2 := vCmp_zero.1 h6
          unfold vEq at *
          exact ⟨h2.1.trans h1.1.symm, h2.2.1.trans h1.2.1.symm, h2.2.2.trans h1.2.2.symm⟩
        · refine e4.imp id fun h h6 => h (rowCmp_tr0 (e3 (e - 1) (by omega) (by omega)) h6)
    · rw [wRun_end hlt, List.drop_of_length_le (by omega)]; rfl
theorem wRun_all {zs : List (List Val)} (hs : SortedR zs) (hw : ∀ r ∈ zs, winP r) (hl : zs.length ≤ 50) : wRun zs zs.length 0 0 0 = zs.map (wSpot zs) := by
  have := wRun_spots hs hw hl zs.length 0 0 0 (Nat.zero_le _) (by omega) (.inl ⟨rfl, rfl, rfl⟩)
  simpa using this
