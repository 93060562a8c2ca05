/- WALK of functions of the seat, or plain laws for it: each theorem f<k> says what function k returns, for every world and all arguments that stand for the values named. Conditions: none but those ahead of each theorem. -/
import Derived.Test.YtboeimkfcfdabaaWU3
open Go Go.Vm Go.Proofs
set_option maxRecDepth 100000
set_option maxHeartbeats 2000000
set_option linter.unusedSimpArgs false
set_option linter.unusedVariables false
def c3 : List Col := [⟨1, true⟩, ⟨1, true⟩, ⟨1, true⟩]
theorem allP_wins {rs : List (List Val)} (h : allP c3 rs) (hl : rs.length ≤ 12) : winsP rs := by
  refine ⟨by omega, fun r hr => ?_⟩
  obtain ⟨_, h2, h3, h4⟩ := h.2 r hr
  have h3 : r.length = 3 := h3
  refine ⟨h3, h2, ?_⟩
  rcases h4 2 (by omega) with h5 | h5
  · exact .inl h5
  · exact .inr h5.1
/-- The last of so many rows whose first value is this. -/
def lastAt (zs : List (List Val)) (v : Val) (i : Nat) (last : Int) : Prop := (last = -1 ∧ ∀ j, j < i → ¬ vEq zs[j]![0]! v) ∨ (0 ≤ last ∧ last < i ∧ vEq zs[last.toNat]![0]! v ∧ ∀ j, last.toNat < j → j < i → ¬ vEq zs[j]![0]! v)
theorem lastAt_zero (zs : List (List Val)) (v : Val) : lastAt zs v 0 (-1) := .inl ⟨rfl, fun j h => by omega⟩
theorem lastAt_yes (zs : List (List Val)) (v : Val) (i : Nat) (h : vEq zs[i]![0]! v) : lastAt zs v (i + 1) i := .inr ⟨by omega, by omega, by simpa using h, fun j h1 h2 => by omega⟩
theorem lastAt_no {zs : List (List Val)} {v : Val} {i : Nat} {last : Int} (hL : lastAt zs v i last) (h : ¬ vEq zs[i]![0]! v) : lastAt zs v (i + 1) last := by
  have hj : ∀ j, j < i + 1 → (j < i → ¬ vEq zs[j]![0]! v) → ¬ vEq zs[j]![0]! v := fun j h1 h2 => by
    by_cases hji : j = i
    · subst hji; exact h
    · exact h2 (by omega)
  rcases hL with ⟨h1, h2⟩ | ⟨h1, h2, h3, h4⟩
  · exact .inl ⟨h1, fun j h => hj j h (h2 j)⟩
  · exact .inr ⟨h1, by omega, h3, fun j h5 h => hj j h (h4 j h5)⟩
theorem lastAt.lt {zs : List (List Val)} {v : Val} {i : Nat} {last : Int} (hL : lastAt zs v i last) : -1 ≤ last ∧ last < i := by
  rcases hL with ⟨h1, _⟩ | ⟨h1, h2, _⟩ <;> omega
theorem vEq_eq {v w : Val} : vEq v w ↔ v = w := by
  constructor
  · rintro ⟨h1, h2, h3⟩
    cases v; cases w
    simp_all
  · rintro rfl
    exact ⟨rfl, rfl, rfl⟩
theorem whole {rs : List (List Val)} {ys : List (Nat × List Val)} (ha : allP c3 rs) (hl : rs.length ≤ 12) (hw : WinR rs ys) {g : List Val} (hg : g ∈ gRows rs [0] 2 2) {last : Int} (hL : lastAt (ys.map Prod.snd) g[0]! (ys.map Prod.snd).length last) (h1 : g[1]!.k = 1) :
    0 ≤ last ∧ (wSpot (ys.map Prod.snd) (ys.map Prod.snd)[last.toNat]!).s = g[1]!.n := by
  have hwin := allP_wins ha hl
  have hperm : (ys.map Prod.snd).Perm rs := by
    rcases hw with ⟨_, hp, _⟩ | ⟨hn, _⟩
    · have := hp.map Prod.snd
      rwa [tagL_map] at this
    · exact absurd hwin hn
  have hsort := hw.sorted
  have hzw := hw.win
  have hzl := hw.len
  generalize hzs : ys.map Prod.snd = zs at *
  obtain ⟨key, hk, rfl⟩ := List.mem_map.1 hg
  obtain ⟨r, hr, hkr⟩ : ∃ r ∈ rs, takeBy r [0] = key := by
    rcases onceR_mem _ _ key hk with h | h
    · simp at h
    · obtain ⟨r, hr, h⟩ := List.mem_map.1 h
      exact ⟨r, hr, h⟩
  have hkr2 : key = [r[0]!] := by rw [← hkr]; rfl
  have e0 : (gRow rs [0] 2 2 key)[0]! = r[0]! := by rw [hkr2]; rfl
  have e1 : (gRow rs [0] 2 2 key)[1]! = knTell (knL rs [0] 2 key) 2 := by rw [hkr2]; rfl
  rw [e0] at hL
  rw [e1] at h1 ⊢
  obtain ⟨m, _, hm⟩ := knL_sum key rs hwin.2 (by omega)
  rw [tell_sum hm h1]
  have hrz : r ∈ zs := hperm.mem_iff.2 hr
  rcases hL with ⟨_, h2⟩ | ⟨h2, h3, h4, h5⟩
  · exfalso
    obtain ⟨j, hj, hjr⟩ := List.getElem_of_mem hrz
    refine h2 j hj ?_
    rw [getElem!_pos zs j hj, hjr]
    exact ⟨rfl, rfl, rfl⟩
  · refine ⟨h2, ?_⟩
    have h4' := vEq_eq.1 h4
    rw [spot_last hsort hzw hzl (k := last.toNat) (by omega) fun j a b => by rw [h4']; exact h5 j a b]
    rw [nSum_perm (hperm.filter _)]
    have : (fun s : List Val => decide (vEq s[0]! zs[last.toNat]![0]!)) = fun s => decide (takeBy s [0] = key) := by
      funext s
      refine decide_eq_decide.2 ?_
      rw [h4', hkr2, vEq_eq]
      constructor
      · intro h
        show [s[0]!] = [r[0]!]
        rw [h]
      · intro h
        have h : [s[0]!] = [r[0]!] := h
        simpa using h
    rw [this]
