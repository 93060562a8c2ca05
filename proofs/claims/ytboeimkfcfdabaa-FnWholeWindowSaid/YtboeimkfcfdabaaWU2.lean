/- WALK of functions of the seat, or plain laws for it: each theorem f<k> says what function k returns, for every world and all arguments that stand for the values named. Conditions: none but those ahead of each theorem. -/
import Derived.Test.YtboeimkfcfdabaaWU1
import Derived.Test.YtboeimkfcfdabaaWK14
open Go Go.Vm Go.Proofs
set_option maxRecDepth 100000
set_option maxHeartbeats 2000000
set_option linter.unusedSimpArgs false
set_option linter.unusedVariables false
theorem snocI {α : Type} {P : List α → Prop} (h0 : P []) (h1 : ∀ l x, P l → P (l ++ [x])) (l : List α) : P l := by
  have go : ∀ l : List α, P l.reverse := fun l => by
    induction l with
    | nil => exact h0
    | cons x l ih => rw [List.reverse_cons]; exact h1 _ _ ih
  rw [← List.reverse_reverse l]
  exact go _
instance : DecidableEq (List Val) := fun a b => decidable_of_iff (rEq a b) rEq_dec
theorem manyR_zero {xs : List (List Val)} {r : List Val} : manyR xs r = 0 ↔ r ∉ xs := by
  unfold manyR
  rw [List.length_eq_zero_iff, List.filter_eq_nil_iff]
  constructor
  · intro h hr
    exact h r hr (by simp [rEq_dec])
  · intro h x hx
    simp only [rEq_dec, decide_eq_true_eq]
    rintro rfl
    exact h hx
theorem onceR_app (xs : List (List Val)) (r : List Val) : onceR (xs ++ [r]) = if r ∈ onceR xs then onceR xs else onceR xs ++ [r] := by
  unfold onceR
  rw [List.foldl_append]
  show (if manyR (onceR xs) r = 0 then onceR xs ++ [r] else onceR xs) = if r ∈ onceR xs then onceR xs else onceR xs ++ [r]
  by_cases h : r ∈ onceR xs
  · rw [if_pos h, if_neg fun h2 => manyR_zero.1 h2 h]
  · rw [if_neg h, if_pos (manyR_zero.2 h)]
theorem onceR_nodup (xs : List (List Val)) : (onceR xs).Nodup := by
  refine snocI (P := fun xs => (onceR xs).Nodup) (by simp [onceR]) (fun l r ih => ?_) xs
  show (onceR (l ++ [r])).Nodup
  rw [onceR_app]
  split
  · exact ih
  · rename_i h
    rw [List.nodup_append]
    refine ⟨ih, by simp, fun a ha b hb => ?_⟩
    rw [List.mem_singleton.1 hb]
    rintro rfl
    exact h ha
theorem onceR_all (xs : List (List Val)) : ∀ x ∈ xs, x ∈ onceR xs := by
  refine snocI (P := fun xs => ∀ x ∈ xs, x ∈ onceR xs) (by simp) (fun l r ih => ?_) xs
  intro x hx
  rw [onceR_app]
  rcases List.mem_append.1 hx with hx | hx
  · have := ih x hx
    split
    · exact this
    · exact List.mem_append.2 (.inl this)
  · rw [List.mem_singleton.1 hx]
    split
    · assumption
    · simp
theorem idxL_p {α : Type} [Inhabited α] (p : α → Prop) [DecidablePred p] : ∀ (xs : List α) (i : Int), (idxL p xs i = -1 ∧ ∀ x ∈ xs, ¬ p x) ∨ ∃ j, j < xs.length ∧ idxL p xs i = i + j ∧ p xs[j]!
  | [], i => .inl ⟨rfl, by simp⟩
  | x :: xs, i => by
    rw [idxL]
    by_cases h : p x
    · rw [if_pos h]
      exact .inr ⟨0, by simp, by simp, by simpa using h⟩
    · rw [if_neg h]
      rcases idxL_p p xs (i + 1) with ⟨h1, h2⟩ | ⟨j, h1, h2, h3⟩
      · refine .inl ⟨h1, fun y hy => ?_⟩
        rcases List.mem_cons.1 hy with rfl | hy
        · exact h
        · exact h2 y hy
      · refine .inr ⟨j + 1, by simp; omega, by omega, ?_⟩
        rw [getElem!_pos (x :: xs) (j + 1) (by simp; omega)]
        rw [getElem!_pos xs j h1] at h3
        exact h3
theorem gKeys_app (l : List (List Val)) (r : List Val) (bl : List Int) : gKeys (l ++ [r]) bl = if takeBy r bl ∈ gKeys l bl then gKeys l bl else gKeys l bl ++ [takeBy r bl] := by
  unfold gKeys
  rw [List.map_append]
  exact onceR_app _ _
theorem gAll_app (l : List (List Val)) (r : List Val) (bl : List Int) (o : Int) : gAll (l ++ [r]) bl o = gStep bl o (gAll l bl o) r := by
  unfold gAll
  rw [List.foldl_append]
  rfl
theorem knL_app (l : List (List Val)) (r : List Val) (bl : List Int) (o : Int) (key : List Val) : knL (l ++ [r]) bl o key = knStep bl o key (knL l bl o key) r := by
  unfold knL
  rw [List.foldl_append]
  rfl
theorem knL_none (bl : List Int) (o : Int) (key : List Val) (rs : List (List Val)) : (∀ r ∈ rs, takeBy r bl ≠ key) → knL rs bl o key = noK := by
  refine snocI (P := fun rs => (∀ r ∈ rs, takeBy r bl ≠ key) → knL rs bl o key = noK) (fun _ => rfl) (fun l r ih h => ?_) rs
  rw [knL_app, ih fun x hx => h x (by simp [hx])]
  unfold knStep
  rw [if_neg fun h2 => h r (by simp) (rEq_dec.1 h2)]
/-- The groups that are kept, and the groups that are told. -/
theorem gAll_eq (bl : List Int) (o : Int) (rs : List (List Val)) : gAll rs bl o = (gKeys rs bl).map fun key => ⟨key, knL rs bl o key⟩ := by
  refine snocI (P := fun rs => gAll rs bl o = (gKeys rs bl).map fun key => ⟨key, knL rs bl o key⟩) rfl (fun l r ih => ?_) rs
  rw [gAll_app, gKeys_app, ih]
  have hnd : (gKeys l bl).Nodup := onceR_nodup _
  have hall : ∀ x ∈ l, takeBy x bl ∈ gKeys l bl := fun x hx => onceR_all _ _ (List.mem_map_of_mem hx)
  unfold gStep gAt gAdd
  generalize hkr : takeBy r bl = kr
  rcases idxL_p (fun g : Gp => rEq g.key kr) ((gKeys l bl).map fun key => ⟨key, knL l bl o key⟩) 0 with ⟨h1, h2⟩ | ⟨j, hj, h1, h2⟩
  · have hn : kr ∉ gKeys l bl := fun h => h2 ⟨kr, knL l bl o kr⟩ (List.mem_map.2 ⟨kr, h, rfl⟩) (rEq_dec.2 rfl)
    rw [h1, if_pos (by omega), if_pos (by omega), if_neg hn, List.map_append]
    have hz : knL l bl o kr = noK := knL_none bl o kr l fun x hx h => hn (h ▸ hall x hx)
    have hnew : knL (l ++ [r]) bl o kr = knBoth noK (knOf r[o.toNat]!) := by
      rw [knL_app, hz]
      unfold knStep
      rw [if_pos (rEq_dec.2 hkr)]
    have hold : ((gKeys l bl).map fun key => (⟨key, knL (l ++ [r]) bl o key⟩ : Gp)) = (gKeys l bl).map fun key => ⟨key, knL l bl o key⟩ := List.map_congr_left fun key hk => by
      rw [knL_app]
      unfold knStep
      rw [if_neg fun h => hn (by rw [rEq_dec.1 h] at hkr; exact hkr ▸ hk)]
    rw [hold, List.map_cons, List.map_nil, hnew]
    generalize ((gKeys l bl).map fun key => (⟨key, knL l bl o key⟩ : Gp)) = A
    rw [getElem!_pos (A ++ [(⟨kr, noK⟩ : Gp)]) A.length (by simp)]
    simp
  · rw [List.length_map] at hj
    rw [getElem!_pos _ _ (by simpa using hj), List.getElem_map] at h2
    have hkj : (gKeys l bl)[j] = kr := rEq_dec.1 h2
    have hm : kr ∈ gKeys l bl := hkj ▸ List.getElem_mem _
    rw [h1, if_neg (by omega), if_neg (by omega), if_pos hm]
    have hj2 : ((0 : Int) + (j : Int)).toNat = j := by omega
    rw [hj2]
    refine List.ext_getElem (by simp) fun i hi1 hi2 => ?_
    rw [List.length_map] at hi2
    rw [List.getElem_set, List.getElem_map, List.getElem_map]
    split
    · rename_i hij
      subst hij
      rw [getElem!_pos _ _ (by simpa using hj), List.getElem_map, hkj]
      rw [knL_app]
      unfold knStep
      rw [if_pos (rEq_dec.2 hkr)]
    · rename_i hij
      have hne : (gKeys l bl)[i] ≠ kr := fun h => by
        rw [← hkj] at h
        exact hij ((List.getElem_inj hnd).1 h).symm
      rw [knL_app]
      unfold knStep
      rw [if_neg fun h => hne (by rw [← rEq_dec.1 h]; exact hkr)]
theorem gI_eq (cs : List Col) (rs : List (List Val)) (bl : List Int) (o t : Int) : gI cs rs bl o t = if toldP cs bl o t ∧ rs.length ≤ 100 ∧ allP cs rs then .own 1 ((gRows rs bl o t).map rO) else .fro none true [] := by
  unfold gI gRows
  rw [gAll_eq, List.map_map (g := gpRow t)]
  rfl
