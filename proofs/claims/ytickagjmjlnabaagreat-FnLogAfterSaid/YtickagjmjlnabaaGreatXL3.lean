/- The plain law of the writes at a time, one after the other. -/
import Derived.Test.YtickagjmjlnabaaGreatXL2
import Derived.Test.YtickagjmjlnabaaGreatXN5
open Go Go.Vm Go.Proofs
set_option linter.unusedVariables false
def kill1 (k t : Int) (v : Ver) : Ver := if v.key = k ∧ v.died = 0 then { v with died := t } else v
def inV (L : List Ver) (k t : Int) (i : Nat) : List Ver := (L.take i).map (kill1 k t) ++ L.drop i
theorem inV_length (L : List Ver) (k t : Int) (i : Nat) : (inV L k t i).length = L.length := by
  unfold inV
  rw [List.length_append, List.length_map, ← List.length_append, List.take_append_drop]
theorem inV_zero (L : List Ver) (k t : Int) : inV L k t 0 = L := by simp [inV]
theorem inV_all (L : List Ver) (k t : Int) : inV L k t L.length = L.map (kill1 k t) := by simp [inV]
theorem inV_at (L : List Ver) (k t : Int) {i : Nat} (hi : i < L.length) : (inV L k t i)[i]! = L[i]! := by
  have hl : ((L.take i).map (kill1 k t)).length = i := by simp; omega
  rw [getElem!_pos _ i (by rw [inV_length]; exact hi), getElem!_pos L i hi]
  unfold inV
  rw [List.getElem_append_right (by omega)]
  simp only [hl, Nat.sub_self, List.getElem_drop, Nat.add_zero]
theorem inV_set (L : List Ver) (k t : Int) {i : Nat} (hi : i < L.length) : inV L k t (i + 1) = (inV L k t i).set i (kill1 k t L[i]!) := by
  have hl : ((L.take i).map (kill1 k t)).length = i := by simp; omega
  unfold inV
  rw [List.set_append_right _ _ (by omega), hl, Nat.sub_self, List.drop_eq_getElem_cons hi, List.set_cons_zero, take_next L i hi, List.map_append, List.append_assoc]
  rfl
theorem inV_skip (L : List Ver) (k t : Int) {i : Nat} (hi : i < L.length) (h : ¬ (L[i]!.key = k ∧ L[i]!.died = 0)) : inV L k t (i + 1) = inV L k t i := by
  rw [inV_set L k t hi]
  unfold kill1
  rw [if_neg h]
  have h2 := inV_at L k t hi
  have hl : i < (inV L k t i).length := by rw [inV_length]; exact hi
  rw [getElem!_pos _ i hl] at h2
  rw [← h2, List.set_getElem_self]
theorem inV_kill (L : List Ver) (k t : Int) {i : Nat} (hi : i < L.length) (h : L[i]!.key = k ∧ L[i]!.died = 0) : inV L k t (i + 1) = (inV L k t i).set i { (inV L k t i)[i]! with died := t } := by
  rw [inV_set L k t hi, inV_at L k t hi]
  unfold kill1
  rw [if_pos h]
theorem kill_kill (ks : List Int) (k t : Int) (v : Ver) : kill1 k t (killV ks t v) = killV (ks ++ [k]) t v := by
  unfold kill1 killV
  by_cases h0 : v.died = 0
  · by_cases hm : v.key ∈ ks
    · have h1 : v.died = 0 ∧ v.key ∈ ks := ⟨h0, hm⟩
      have h2 : v.died = 0 ∧ v.key ∈ ks ++ [k] := ⟨h0, by simp [hm]⟩
      simp only [if_pos h1, if_pos h2]
      split <;> rfl
    · have h1 : ¬ (v.died = 0 ∧ v.key ∈ ks) := fun h => hm h.2
      simp only [if_neg h1]
      by_cases hk : v.key = k
      · rw [if_pos ⟨hk, h0⟩, if_pos ⟨h0, by simp [hk]⟩]
      · rw [if_neg (fun h => hk h.1), if_neg (fun h => by simp [hm, hk] at h)]
  · simp only [h0, false_and, and_false, if_false]
theorem outV_step {vs : List Ver} {ws : List Wr} {t : Int} (ho : ws.Pairwise fun a b => a.key < b.key) {j : Nat} (hj : j < ws.length) :
    (outV vs (ws.take j) t).map (kill1 ws[j]!.key t) ++ (if ws[j]!.gone = true then [] else [⟨ws[j]!.key, t, 0, ws[j]!.row⟩]) = outV vs (ws.take (j + 1)) t := by
  rw [take_next ws j hj]
  have hk : ∀ x ∈ ws.take j, x.key ≠ ws[j]!.key := fun x hx => by
    obtain ⟨p, hp, rfl⟩ := List.mem_take_iff_getElem.1 hx
    have := List.pairwise_iff_getElem.1 ho p j (by omega) hj (by omega)
    rw [getElem!_pos ws j hj]
    omega
  generalize ws[j]! = w at hk ⊢
  unfold outV newsV
  rw [List.map_append, List.map_append, List.filter_append, List.map_append, List.map_map, List.append_assoc]
  congr 1
  · exact List.map_congr_left fun v hv => kill_kill _ _ _ _
  · congr 1
    · rw [List.map_map]
      refine List.map_congr_left fun x hx => ?_
      have := hk x (List.mem_filter.1 hx).1
      show kill1 w.key t ⟨x.key, t, 0, x.row⟩ = _
      unfold kill1
      rw [if_neg (fun h => this h.1)]
    · cases hg : w.gone <;> simp [hg]
theorem outV_zero (vs : List Ver) (t : Int) : outV vs [] t = vs := by
  unfold outV newsV killV
  simp
def zT (v : Ver) : Nat × Ver := (0, v)
theorem zT_map (vs : List Ver) : (vs.map zT).map gT = vs.map gO := by
  rw [List.map_map]; rfl
def cmpV (x y : Nat × Ver) : Int := or0L [iCmp x.2.key y.2.key, iCmp x.2.born y.2.born]
def ltV (x y : Nat × Ver) : Prop := x.2.key < y.2.key ∨ x.2.key = y.2.key ∧ x.2.born < y.2.born
theorem ltV_tr (x y z : Nat × Ver) (h : ltV x y) (h2 : ltV y z) : ltV x z := by
  unfold ltV at *; omega
theorem cmpV_lt (x y : Nat × Ver) : cmpV x y < 0 ↔ ltV x y := by
  unfold cmpV ltV
  rw [or0L2]
  unfold iCmp
  repeat' split
  all_goals omega
theorem decV {vs : List Ver} (hc : vs.Pairwise fun a b => vlt a b ∨ vlt b a) : DecA cmpV ltV 0 (vs.map zT).length (vs.map zT) := by
  intro p q _ hpq hq
  rw [List.length_map] at hq
  have := List.pairwise_iff_getElem.1 hc p q (by omega) hq hpq
  rw [getElem!_pos _ p (by simp; omega), getElem!_pos _ q (by simp; omega), List.getElem_map, List.getElem_map]
  rw [cmpV_lt]
  refine ⟨id, fun h => ?_⟩
  unfold ltV zT at *
  unfold vlt at this
  dsimp only at *
  omega
theorem sortedV {vs : List Ver} {ys : List (Nat × Ver)} (hp : ys.Perm (vs.map zT)) (ha : Asc ltV 0 (vs.map zT).length ys) : (ys.map Prod.snd).Perm vs ∧ (ys.map Prod.snd).Pairwise lexV ∧ ys.map gT = (ys.map Prod.snd).map gO := by
  refine ⟨?_, ?_, by rw [List.map_map]; rfl⟩
  · have := hp.map Prod.snd
    rw [List.map_map] at this
    have h2 : (Prod.snd ∘ zT : Ver → Ver) = id := rfl
    rwa [h2, List.map_id] at this
  · refine List.pairwise_iff_getElem.2 fun i j hi hj hij => ?_
    rw [List.length_map] at hi hj
    have h1 := hp.length_eq
    have := ha i j (Nat.zero_le _) hij (by omega)
    rw [getElem!_pos ys i hi, getElem!_pos ys j hj] at this
    rw [List.getElem_map, List.getElem_map]
    unfold ltV at this
    unfold lexV
    omega
