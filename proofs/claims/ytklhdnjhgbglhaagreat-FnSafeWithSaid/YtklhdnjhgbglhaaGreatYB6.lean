/- WALK, or plain laws for it: theorem f<k> says what function k returns. Conditions: none but those ahead of each theorem. -/
import Derived.Test.YtklhdnjhgbglhaaGreatYB5
set_option linter.unusedVariables false
set_option linter.unusedSimpArgs false
open Nat renaming reduceEqDiff → sN1, reduceAdd → sN2, reduceBEq → sN3, reduceLT → sN4, reduceMul → sN5, reduceLeDiff → sN6, reduceSub → sN7
open Int renaming reduceLE → sI1, reduceLT → sI2, reduceEq → sI3
open Go Go.Vm Go.Proofs
set_option maxRecDepth 100000
set_option maxHeartbeats 8000000
set_option maxHeartbeats 8000000
structure Hs where
  vs : List Ver
  ck : Int
  tx : List Tx
def hA (h : Hs) : AV := .agg [.fro none false (h.vs.map gA), .int .i64 h.ck, .fro none false (h.tx.map xA)]
structure okH (h : Hs) : Prop where
  n : h.vs.length ≤ 1048576
  row : ∀ v ∈ h.vs, okR v.row
  len : ∀ v ∈ h.vs, v.row.length ≤ 1048576
  m : h.tx.length ≤ 1048576
  tx : ∀ t ∈ h.tx, okX t
theorem okH.at {h : Hs} (o : okH h) {i : Nat} (hi : i < h.tx.length) : okX h.tx[i]! := o.tx _ (by rw [getElem!_pos h.tx i hi]; exact List.getElem_mem _)
def apP (ts : List Tx) (n : Nat) : Prop := ∀ i, i < n → ∀ j, j < i → ¬ (ts[i]!.st = 2 ∧ ts[j]!.st = 2 ∧ ts[i]!.fn = ts[j]!.fn)
instance (ts : List Tx) (n : Nat) : Decidable (apP ts n) := by unfold apP; exact inferInstance
def houseP (h : Hs) : Prop := verP h.vs ∧ (0 ≤ h.ck ∧ h.ck ≤ 40) ∧ turnV h.vs 5 ≤ h.ck ∧ h.tx.length = 4 ∧ (∀ i, i < 4 → txP h.tx[i]! h.ck) ∧ apP h.tx 4
instance (h : Hs) : Decidable (houseP h) := by unfold houseP; exact inferInstance
theorem mapT92 (m : Md) : mapT (CC m) 92 = some () := by
  unfold mapT
  rw [tt92]
  simp [tt3, tt4]
def endsL (ts : List Tx) : List (Int × Bool) := (ts.filter fun t => decide (t.st = 2)).map fun t => (t.fn, true)
theorem idxM_none {l : List (Int × Bool)} {k : Int} (h : ∀ p ∈ l, p.1 ≠ k) : idxM l k = none := by
  induction l with
  | nil => rfl
  | cons p l ih =>
    obtain ⟨a, b⟩ := p
    unfold idxM
    rw [if_neg (h (a, b) (by simp)), ih fun p hp => h p (by simp [hp])]
    rfl
theorem getM_true {l : List (Int × Bool)} (h : ∀ p ∈ l, p.2 = true) (k : Int) : getM l k = decide (∃ p ∈ l, p.1 = k) := by
  unfold getM
  induction l with
  | nil => simp [idxM]
  | cons p l ih =>
    obtain ⟨a, b⟩ := p
    have hb : b = true := h (a, b) (by simp)
    have ih := ih fun p hp => h p (by simp [hp])
    unfold idxM
    by_cases hk : a = k
    · rw [if_pos hk]
      simp [hk, hb]
    · rw [if_neg hk]
      cases hi : idxM l k with
      | none => rw [hi] at ih; simp [hk] at ih ⊢; exact ih
      | some q => rw [hi] at ih; simp [hk] at ih ⊢; exact ih
theorem ends_mem {ts : List Tx} {k : Int} : (∃ p ∈ endsL ts, p.1 = k) ↔ ∃ t ∈ ts, t.st = 2 ∧ t.fn = k := by
  unfold endsL
  constructor
  · rintro ⟨p, hp, rfl⟩
    obtain ⟨t, ht, rfl⟩ := List.mem_map.1 hp
    obtain ⟨h1, h2⟩ := List.mem_filter.1 ht
    exact ⟨t, h1, by simpa using h2, rfl⟩
  · rintro ⟨t, ht, h2, rfl⟩
    exact ⟨(t.fn, true), List.mem_map.2 ⟨t, List.mem_filter.2 ⟨ht, by simpa using h2⟩, rfl⟩, rfl⟩
theorem ends_true (ts : List Tx) : ∀ p ∈ endsL ts, p.2 = true := by
  intro p hp
  unfold endsL at hp
  obtain ⟨t, _, rfl⟩ := List.mem_map.1 hp
  rfl
theorem ends_at {ts : List Tx} {i : Nat} (h : i ≤ ts.length) {k : Int} : getM (endsL (ts.take i)) k = decide (∃ j, j < i ∧ ts[j]!.st = 2 ∧ ts[j]!.fn = k) := by
  rw [getM_true (ends_true _)]
  congr 1
  rw [ends_mem]
  apply propext
  constructor
  · rintro ⟨t, ht, h2⟩
    obtain ⟨j, hj, rfl⟩ := List.mem_take_iff_getElem.1 ht
    exact ⟨j, by omega, by rw [getElem!_pos ts j (by omega)]; exact h2⟩
  · rintro ⟨j, hj, h2⟩
    rw [getElem!_pos ts j (by omega)] at h2
    exact ⟨ts[j], List.mem_take_iff_getElem.2 ⟨j, by omega, rfl⟩, h2⟩
theorem ends_next {ts : List Tx} {i : Nat} (h : i < ts.length) : endsL (ts.take (i + 1)) = if ts[i]!.st = 2 then endsL (ts.take i) ++ [(ts[i]!.fn, true)] else endsL (ts.take i) := by
  unfold endsL
  rw [take_next ts i h, List.filter_append, List.map_append]
  generalize ts[i]! = t
  split <;> rename_i h2 <;> simp [h2]
theorem ends_set {ts : List Tx} {i : Nat} (h : i < ts.length) (h2 : ts[i]!.st = 2) (hn : ¬ ∃ j, j < i ∧ ts[j]!.st = 2 ∧ ts[j]!.fn = ts[i]!.fn) : setM (endsL (ts.take i)) ts[i]!.fn true = endsL (ts.take (i + 1)) := by
  rw [ends_next h, if_pos h2]
  unfold setM
  rw [idxM_none]
  intro p hp he
  obtain ⟨t, ht, g1, g2⟩ := ends_mem.1 ⟨p, hp, he⟩
  obtain ⟨j, hj, rfl⟩ := List.mem_take_iff_getElem.1 ht
  exact hn ⟨j, by omega, by rw [getElem!_pos ts j (by omega)]; exact ⟨g1, g2⟩⟩
theorem f12 (h : Hs) (ho : okH h) : Fx 12 [hA h] (.bool (decide (houseP h))) := by
  have h1 := ho.n
  have h2 := ho.m
  refine fn_of ⟨false, [], []⟩ Tryz.func12 (by kernel_rfl) rfl (by kernel_rfl) (by kernel_rfl) (Nat.le_of_ble_eq_true rfl) rfl fun Q hQ => ?_
  simp only [vmA, sN1, reduceIte, sN2, sN3, reduceCtorEq, sN4, sI1, sI2, sI3, sN5, sN6, hA, List.length_map, t_makeMap, t_lookup, t_mapUpdate, makeMapF_some (mapT92 _), lookupF_mp (mapT92 _), mapUpdateF_mp (mapT92 _), remap_sl, remap_en, reM_mp, reM_int, reM_bool, reM_agg, reM_fro, reM_hd, reM_ptr, reM_cptr]
  have hF : ¬ houseP h → AV.bool false = AV.bool (decide (houseP h)) := fun h => leafF h
  refine callD (f55 h.vs false (by omega) ho.row) ?_
  simp only [vmA, sN1, reduceIte, sN2, sN3, reduceCtorEq, sN4, sI1, sI2, sI3, sN5, sN6, hA, List.length_map]
  refine ⟨fun g1 => ?_, fun g1 => callD (f56 _ _ _) ?_⟩
  · (refine hQ _ ?_; simp only [vmA, sN1, reduceIte, sN2, sN3, reduceCtorEq, sN4, sI1, sI2, sI3, sN5, sN6, Tryz.f12, retG, resL, St.closeVs, St.closeV])
    exact hF fun z => g1 z.1
  simp only [vmA, sN1, reduceIte, sN2, sN3, reduceCtorEq, sN4, sI1, sI2, sI3, sN5, sN6, hA, List.length_map]
  refine ⟨fun g2 => ?_, fun g2 => callD (f57 h.vs false (by omega)) ?_⟩
  · (refine hQ _ ?_; simp only [vmA, sN1, reduceIte, sN2, sN3, reduceCtorEq, sN4, sI1, sI2, sI3, sN5, sN6, Tryz.f12, retG, resL, St.closeVs, St.closeV])
    exact hF fun z => g2 z.2.1
  simp only [vmA, sN1, reduceIte, sN2, sN3, reduceCtorEq, sN4, sI1, sI2, sI3, sN5, sN6, hA, List.length_map]
  refine ⟨fun g3 => ?_, fun g3 => ⟨fun g4 => ?_, fun g4 => ?_⟩⟩
  · (refine hQ _ ?_; simp only [vmA, sN1, reduceIte, sN2, sN3, reduceCtorEq, sN4, sI1, sI2, sI3, sN5, sN6, Tryz.f12, retG, resL, St.closeVs, St.closeV])
    exact hF fun z => absurd z.2.2.1 (by omega)
  · (refine hQ _ ?_; simp only [vmA, sN1, reduceIte, sN2, sN3, reduceCtorEq, sN4, sI1, sI2, sI3, sN5, sN6, Tryz.f12, retG, resL, St.closeVs, St.closeV])
    exact hF fun z => by have := z.2.2.2.1; omega
  have g5 : h.tx.length = 4 := by omega
  simp only [vmA, sN1, reduceIte, sN2, sN3, reduceCtorEq, sN4, sI1, sI2, sI3, sN5, sN6, hA, List.length_map, t_makeMap, t_lookup, t_mapUpdate, makeMapF_some (mapT92 _), lookupF_mp (mapT92 _), mapUpdateF_mp (mapT92 _), remap_sl, remap_en, reM_mp, reM_int, reM_bool, reM_agg, reM_fro, reM_hd, reM_ptr, reM_cptr]
  refine WT_loop (fun (y : Nat × Nat) σ => (y.1 ≤ 4 ∧ (∀ j, j < y.1 → txP h.tx[j]! h.ck) ∧ apP h.tx y.1) ∧ σ.sl 34 = .int .i64 y.1 ∧ σ.sl 33 = .int .i64 h.tx.length ∧ σ.sl 32 = .fro none false (h.tx.map xA) ∧ σ.sl 1 = .ptr 64 1 0 0 ∧ (σ.en 64).live = true ∧ (σ.en 64).gen = 1 ∧ (σ.en 64).frz = false ∧ (σ.en 64).sz = 3 ∧ (σ.en 64).elems = [hA h] ∧ σ.sl 3 = .mp 1920 y.2 (endsL (h.tx.take y.1)) ∧ (σ.en 1920).live = true ∧ (σ.en 1920).frz = false ∧ (σ.en 1920).wr = y.2) (fun y => 4 - y.1) (0, 1) ⟨⟨(by dsimp only; omega), (by intro j hj; cases hj), (by intro i hi; cases hi)⟩, by simp [vmI], by simp [vmI], by simp [vmI], by simp [vmI], by simp [vmI], by simp [vmI], by simp [vmI], by simp [vmI], by simp [vmI, hA], by simp [vmI, endsL], by simp [vmI], by simp [vmI], by simp [vmI]⟩ ?_
  rintro ⟨i, γ⟩ σ ⟨⟨hi, hall, hap⟩, e34, e33, e32, e1, l1, l2, l3, l4, l5, e3, m1, m2, m3⟩
  dsimp only at hi hall hap e34 e3 m3
  simp only [vmA, sN1, reduceIte, sN2, sN3, reduceCtorEq, sN4, sI1, sI2, sI3, sN5, sN6, e34, e33, e32, e1, l1, l2, l3, l4, l5, e3, m1, m2, m3, hA, xA, List.length_map, t_makeMap, t_lookup, t_mapUpdate, makeMapF_some (mapT92 _), lookupF_mp (mapT92 _), mapUpdateF_mp (mapT92 _), remap_sl, remap_en, reM_mp, reM_int, reM_bool, reM_agg, reM_fro, reM_hd, reM_ptr, reM_cptr, Option.bind_none]
  refine ⟨fun hlt => ⟨hlt, by omega, callD (f58 h.tx[i]! h.ck g2 (ho.at (by omega))) ?_⟩, fun hge => ?_⟩
  · simp only [vmA, sN1, reduceIte, sN2, sN3, reduceCtorEq, sN4, sI1, sI2, sI3, sN5, sN6, e34, e33, e32, e1, l1, l2, l3, l4, l5, e3, m1, m2, m3, hA, xA, List.length_map, t_makeMap, t_lookup, t_mapUpdate, makeMapF_some (mapT92 _), lookupF_mp (mapT92 _), mapUpdateF_mp (mapT92 _), remap_sl, remap_en, reM_mp, reM_int, reM_bool, reM_agg, reM_fro, reM_hd, reM_ptr, reM_cptr, Option.bind_none]
    have hend := ends_at (ts := h.tx) (i := i) (by omega) (k := h.tx[i]!.fn)
    have hnx := ends_next (ts := h.tx) (i := i) (by omega)
    have hall' : txP h.tx[i]! h.ck → ∀ j, j < i + 1 → txP h.tx[j]! h.ck := fun g j hj => by
      rcases Nat.lt_or_eq_of_le (Nat.le_of_lt_succ hj) with h2 | rfl
      · exact hall j h2
      · exact g
    have hap' : (∀ j, j < i → ¬ (h.tx[i]!.st = 2 ∧ h.tx[j]!.st = 2 ∧ h.tx[i]!.fn = h.tx[j]!.fn)) → apP h.tx (i + 1) := fun g a ha j hj => by
      rcases Nat.lt_or_eq_of_le (Nat.le_of_lt_succ ha) with h2 | rfl
      · exact hap a h2 j hj
      · exact g j hj
    refine ⟨fun g6 => ?_, fun g6 => ⟨fun g7 => ?_, fun g7 => ⟨fun g8 => absurd g8 g7, fun _ => ?_⟩⟩⟩
    · (refine hQ _ ?_; simp only [vmA, sN1, reduceIte, sN2, sN3, reduceCtorEq, sN4, sI1, sI2, sI3, sN5, sN6, Tryz.f12, retG, resL, St.closeVs, St.closeV, e34])
      exact hF fun z => g6 (z.2.2.2.2.1 i (by omega))
    · rw [hend]
      simp only [vmA, sN1, reduceIte, sN2, sN3, reduceCtorEq, sN4, sI1, sI2, sI3, sN5, sN6, e34, e33, e32, e1, l1, l2, l3, l4, l5, e3, m1, m2, m3, hA, xA, List.length_map, t_makeMap, t_lookup, t_mapUpdate, makeMapF_some (mapT92 _), lookupF_mp (mapT92 _), mapUpdateF_mp (mapT92 _), remap_sl, remap_en, reM_mp, reM_int, reM_bool, reM_agg, reM_fro, reM_hd, reM_ptr, reM_cptr, Option.bind_none]
      refine ⟨fun g8 => ?_, fun g8 => ⟨fun _ => ?_, fun g9 => absurd g7 g9⟩⟩
      · (refine hQ _ ?_; simp only [vmA, sN1, reduceIte, sN2, sN3, reduceCtorEq, sN4, sI1, sI2, sI3, sN5, sN6, Tryz.f12, retG, resL, St.closeVs, St.closeV, e34])
        refine hF fun z => ?_
        obtain ⟨j, q1, q2, q3⟩ := g8
        exact z.2.2.2.2.2 i (by omega) j q1 ⟨g7, q2, q3.symm⟩
      · rw [wr (by omega), ends_set (by omega) g7 g8]
        exact ⟨(i + 1, γ + 1), ⟨⟨by dsimp only; omega, hall' g6, hap' (fun j hj z => g8 ⟨j, hj, z.2.1, z.2.2.symm⟩)⟩, rfl, rfl, rfl⟩, by dsimp only; omega⟩
    · rw [if_neg g7] at hnx
      rw [wr (by omega)]
      exact ⟨(i + 1, γ), ⟨⟨by dsimp only; omega, hall' g6, hap' (fun j hj z => g7 z.1)⟩, rfl, (by dsimp only; rw [hnx]; exact ⟨rfl, rfl⟩)⟩, by dsimp only; omega⟩
  · obtain rfl : i = 4 := by omega
    (refine hQ _ ?_; simp only [vmA, sN1, reduceIte, sN2, sN3, reduceCtorEq, sN4, sI1, sI2, sI3, sN5, sN6, Tryz.f12, retG, resL, St.closeVs, St.closeV, e34, e33])
    exact leafT ⟨g1, g2, by omega, g5, hall, hap⟩
