/- WALK of functions of the seat, or plain laws for it: each theorem f<k> says what function k returns, for every world and all arguments that stand for the values named. Conditions: none but those ahead of each theorem. -/
import Derived.Test.YtklhdnjhgbglhaaYB3
open Go Go.Vm Go.Proofs
set_option maxRecDepth 100000
set_option maxHeartbeats 8000000
set_option linter.unusedSimpArgs false
set_option linter.unusedVariables false
noncomputable def lastS (vs : List Ver) (k : Int) : Int := if verP vs then lastV vs k 0 else 0
theorem f49 (vs : List Ver) (c : Bool) (k : Int) (hl : vs.length ≤ 1048576) (hs : ∀ v ∈ vs, okR v.row) : Fx 49 [.fro none c (vs.map gA), .int .i64 k] (.int .i64 (lastS vs k)) := by
  refine fn_of ⟨false, [], []⟩ Try.func49 (by kernel_rfl) rfl (by kernel_rfl) (by kernel_rfl) (Nat.le_of_ble_eq_true rfl) rfl fun Q hQ => ?_
  simp only [vmA, Nat.reduceEqDiff, reduceIte, Nat.reduceAdd, Nat.reduceBEq, reduceCtorEq, Nat.reduceLT, Int.reduceLE, Int.reduceLT, Int.reduceEq, Nat.reduceMul, Nat.reduceLeDiff, List.length_map]
  refine WT_loop (fun (i : Nat) σ => (i ≤ vs.length ∧ (0 < i → verP vs)) ∧ σ.sl 6 = .int .i64 i ∧ σ.sl 5 = .int .i64 (lastV (vs.take i) k 0) ∧ σ.sl 0 = .fro none c (vs.map gA) ∧ σ.sl 1 = .int .i64 k) (fun i => vs.length - i) (0) ⟨⟨Nat.zero_le _, by omega⟩, by simp [put_sl, put_en, put_none, init_sl, fresh_sl, fresh_en, ent_sl, ent_en, init_en, lastV, List.take_zero, List.foldl_nil], by simp [put_sl, put_en, put_none, init_sl, fresh_sl, fresh_en, ent_sl, ent_en, init_en, lastV, List.take_zero, List.foldl_nil], by simp [put_sl, put_en, put_none, init_sl, fresh_sl, fresh_en, ent_sl, ent_en, init_en, lastV, List.take_zero, List.foldl_nil], by simp [put_sl, put_en, put_none, init_sl, fresh_sl, fresh_en, ent_sl, ent_en, init_en, lastV, List.take_zero, List.foldl_nil]⟩ ?_
  rintro i σ ⟨hi, e6, e5, e0, e1⟩
  obtain ⟨hi, hv0⟩ := hi
  simp only [vmA, Nat.reduceEqDiff, reduceIte, Nat.reduceAdd, Nat.reduceBEq, reduceCtorEq, Nat.reduceLT, Int.reduceLE, Int.reduceLT, Int.reduceEq, Nat.reduceMul, Nat.reduceLeDiff, e6, e5, e0, e1, gA, List.length_map]
  refine ⟨fun h => callD (f47 vs c (by omega) hs) ?_, fun h => ?_⟩
  · simp only [vmA, Nat.reduceEqDiff, reduceIte, Nat.reduceAdd, Nat.reduceBEq, reduceCtorEq, Nat.reduceLT, Int.reduceLE, Int.reduceLT, Int.reduceEq, Nat.reduceMul, Nat.reduceLeDiff, e6, e5, e0, e1, gA, List.length_map, t_max2, t_max3, maxF2, maxF3]
    have hn := lastV_next vs k 0 (i := i) (by omega)
    refine ⟨fun hv => ⟨h, by omega, fun hk => ?_, fun hk => ?_⟩, fun hv => ?_⟩
    · refine ⟨by omega, by omega, by omega, by omega, ?_⟩
      rw [wr (by omega)]
      rw [if_pos hk] at hn
      exact ⟨i + 1, ⟨⟨by omega, fun _ => hv⟩, rfl, by rw [hn]⟩, by omega⟩
    · rw [wr (by omega)]
      rw [if_neg hk] at hn
      exact ⟨i + 1, ⟨⟨by omega, fun _ => hv⟩, rfl, by rw [hn]⟩, by omega⟩
    · (refine hQ _ ?_; simp only [vmA, Nat.reduceEqDiff, reduceIte, Nat.reduceAdd, Nat.reduceBEq, reduceCtorEq, Nat.reduceLT, Int.reduceLE, Int.reduceLT, Int.reduceEq, Nat.reduceMul, Nat.reduceLeDiff, Try.f49, retG, resL, St.closeVs, St.closeV, e6, e5, e0, e1])
      obtain rfl : i = 0 := by
        rcases Nat.eq_zero_or_pos i with h | h
        · exact h
        · exact absurd (hv0 h) hv
      rw [lastS, if_neg hv]
      rfl
  · (refine hQ _ ?_; simp only [vmA, Nat.reduceEqDiff, reduceIte, Nat.reduceAdd, Nat.reduceBEq, reduceCtorEq, Nat.reduceLT, Int.reduceLE, Int.reduceLT, Int.reduceEq, Nat.reduceMul, Nat.reduceLeDiff, Try.f49, retG, resL, St.closeVs, St.closeV, e6, e5, e0, e1])
    rw [List.take_of_length_le (by omega), lastS]
    split
    · rfl
    · rename_i hv
      have : i = 0 := by
        rcases Nat.eq_zero_or_pos i with h | h
        · exact h
        · exact absurd (hv0 h) hv
      have : vs = [] := List.eq_nil_of_length_eq_zero (by omega)
      rw [this]
      rfl
theorem leafT {q : Prop} [Decidable q] (h : q) : AV.bool true = AV.bool (decide q) := by rw [decide_eq_true h]
theorem f76 (v : Ver) (t : Int) : Fx 76 [gA v, .int .i64 t] (.bool (decide (v.born ≤ t ∧ (v.died = 0 ∨ t < v.died)))) := by
  refine fn_of ⟨false, [], []⟩ Try.func76 (by kernel_rfl) rfl (by kernel_rfl) (by kernel_rfl) (Nat.le_of_ble_eq_true rfl) rfl fun Q hQ => ?_
  simp only [vmA, Nat.reduceEqDiff, reduceIte, Nat.reduceAdd, Nat.reduceBEq, reduceCtorEq, Nat.reduceLT, Int.reduceLE, Int.reduceLT, Int.reduceEq, Nat.reduceMul, Nat.reduceLeDiff, gA]
  refine ⟨fun h1 => ⟨fun h2 => ?_, fun h2 => ?_⟩, fun h1 => ?_⟩ <;> (refine hQ _ ?_; simp only [vmA, Nat.reduceEqDiff, reduceIte, Nat.reduceAdd, Nat.reduceBEq, reduceCtorEq, Nat.reduceLT, Int.reduceLE, Int.reduceLT, Int.reduceEq, Nat.reduceMul, Nat.reduceLeDiff, Try.f76, retG, resL, St.closeVs, St.closeV])
  · exact leafT ⟨h1, .inl h2⟩
  · exact leafB ⟨fun h => ⟨h1, .inr h⟩, fun h => h.2.resolve_left h2⟩
  · exact leafF fun h => h1 h.1
def seenR (vs : List Ver) (key t : Int) : Option (List Val) := (vs.find? (fun v => decide (liveAt key t v))).map Ver.row
noncomputable def seenS (vs : List Ver) (key t : Int) : AV := if verP vs then match seenR vs key t with
  | some r => .tup [.own 3 (r.map vA), .bool true]
  | none => .tup [.own 3 [], .bool false] else .tup [.own 3 [], .bool false]
theorem f51 (vs : List Ver) (c : Bool) (key t : Int) (hl : vs.length ≤ 1048576) (hs : ∀ v ∈ vs, okR v.row) (hm : ∀ v ∈ vs, v.row.length ≤ 1048576) : Fx 51 [.fro none c (vs.map gA), .int .i64 key, .int .i64 t] (seenS vs key t) := by
  refine fn_of ⟨false, [], []⟩ Try.func51 (by kernel_rfl) rfl (by kernel_rfl) (by kernel_rfl) (Nat.le_of_ble_eq_true rfl) rfl fun Q hQ => ?_
  simp only [vmA, Nat.reduceEqDiff, reduceIte, Nat.reduceAdd, Nat.reduceBEq, reduceCtorEq, Nat.reduceLT, Int.reduceLE, Int.reduceLT, Int.reduceEq, Nat.reduceMul, Nat.reduceLeDiff, List.length_map]
  refine WT_loop (fun (i : Nat) σ => (i ≤ vs.length ∧ (0 < i → verP vs) ∧ (∀ j, j < i → decide (liveAt key t vs[j]!) = false)) ∧ σ.sl 8 = .int .i64 i ∧ σ.sl 0 = .fro none c (vs.map gA) ∧ σ.sl 1 = .int .i64 key ∧ σ.sl 2 = .int .i64 t) (fun i => vs.length - i) (0) ⟨⟨Nat.zero_le _, by omega, by omega⟩, by simp [put_sl, put_en, put_none, init_sl, fresh_sl, fresh_en, ent_sl, ent_en, init_en], by simp [put_sl, put_en, put_none, init_sl, fresh_sl, fresh_en, ent_sl, ent_en, init_en], by simp [put_sl, put_en, put_none, init_sl, fresh_sl, fresh_en, ent_sl, ent_en, init_en], by simp [put_sl, put_en, put_none, init_sl, fresh_sl, fresh_en, ent_sl, ent_en, init_en]⟩ ?_
  rintro i σ ⟨hi, e8, e0, e1, e2⟩
  obtain ⟨hi, hv0, hno⟩ := hi
  have go : verP vs → i < vs.length → ¬ liveAt key t vs[i]! → (0 < i + 1 → verP vs) ∧ ∀ j, j < i + 1 → ¬ liveAt key t vs[j]! := fun hv _ hn => ⟨fun _ => hv, fun j hj => by
    by_cases hji : j = i
    · rw [hji]; exact hn
    · exact of_decide_eq_false (hno j (by omega))⟩
  simp only [vmA, Nat.reduceEqDiff, reduceIte, Nat.reduceAdd, Nat.reduceBEq, reduceCtorEq, Nat.reduceLT, Int.reduceLE, Int.reduceLT, Int.reduceEq, Nat.reduceMul, Nat.reduceLeDiff, e8, e0, e1, e2, gA, List.length_map]
  refine ⟨fun h => callD (f47 vs c (by omega) hs) ?_, fun h => ?_⟩
  · simp only [vmA, Nat.reduceEqDiff, reduceIte, Nat.reduceAdd, Nat.reduceBEq, reduceCtorEq, Nat.reduceLT, Int.reduceLE, Int.reduceLT, Int.reduceEq, Nat.reduceMul, Nat.reduceLeDiff, e8, e0, e1, e2, gA, List.length_map]
    refine ⟨fun hv => ⟨h, by omega, fun hk => ?_, fun hk => ?_⟩, fun hv => ?_⟩
    · refine ⟨by omega, by omega, callD (f76 vs[i]! t) ?_⟩
      simp only [vmA, Nat.reduceEqDiff, reduceIte, Nat.reduceAdd, Nat.reduceBEq, reduceCtorEq, Nat.reduceLT, Int.reduceLE, Int.reduceLT, Int.reduceEq, Nat.reduceMul, Nat.reduceLeDiff, e8, e0, e1, e2, gA, List.length_map]
      refine ⟨fun hp => ⟨by omega, by omega, callD (f77 vs[i]!.row false (hm _ (by rw [getElem!_pos vs i (by omega)]; exact List.getElem_mem _))) ?_⟩, fun hp => ?_⟩
      · simp only [vmA, Nat.reduceEqDiff, reduceIte, Nat.reduceAdd, Nat.reduceBEq, reduceCtorEq, Nat.reduceLT, Int.reduceLE, Int.reduceLT, Int.reduceEq, Nat.reduceMul, Nat.reduceLeDiff, e8, e0, e1, e2, gA, List.length_map]
        (refine hQ _ ?_; simp only [vmA, Nat.reduceEqDiff, reduceIte, Nat.reduceAdd, Nat.reduceBEq, reduceCtorEq, Nat.reduceLT, Int.reduceLE, Int.reduceLT, Int.reduceEq, Nat.reduceMul, Nat.reduceLeDiff, Try.f51, retG, resL, St.closeVs, St.closeV, e8, e0, e1, e2, take_map_len])
        rw [seenS, if_pos hv, seenR, find_some _ vs i (by omega) hno (decide_eq_true ⟨hk, hp⟩)]
        rfl
      · rw [wr (by omega)]
        exact ⟨i + 1, ⟨⟨by omega, go hv (by omega) (fun h => hp h.2)⟩, rfl⟩, by omega⟩
    · rw [wr (by omega)]
      exact ⟨i + 1, ⟨⟨by omega, go hv (by omega) (fun h => hk h.1)⟩, rfl⟩, by omega⟩
    · (refine hQ _ ?_; simp only [vmA, Nat.reduceEqDiff, reduceIte, Nat.reduceAdd, Nat.reduceBEq, reduceCtorEq, Nat.reduceLT, Int.reduceLE, Int.reduceLT, Int.reduceEq, Nat.reduceMul, Nat.reduceLeDiff, Try.f51, retG, resL, St.closeVs, St.closeV, e8, e0, e1, e2])
      rw [seenS, if_neg hv]
  · (refine hQ _ ?_; simp only [vmA, Nat.reduceEqDiff, reduceIte, Nat.reduceAdd, Nat.reduceBEq, reduceCtorEq, Nat.reduceLT, Int.reduceLE, Int.reduceLT, Int.reduceEq, Nat.reduceMul, Nat.reduceLeDiff, Try.f51, retG, resL, St.closeVs, St.closeV, e8, e0, e1, e2])
    obtain rfl : i = vs.length := by omega
    have : seenS vs key t = .tup [.own 3 [], .bool false] := by
      rw [seenS]
      split
      · rw [seenR, find_none _ vs hno]; rfl
      · rfl
    rw [this]
noncomputable def rowsN (vs : List Ver) (t : Int) (n : Nat) : List (List Val) := if verP vs then rowsT vs t n else []
noncomputable abbrev rowsS (vs : List Ver) (t : Int) : List (List Val) := rowsN vs t 5
theorem rowsT_next (vs : List Ver) (t : Int) (n : Nat) : rowsT vs t (n + 1) = rowsT vs t n ++ (match seenR vs n t with | some r => [r] | none => []) := by
  rw [rowsT_succ, seenR]
  cases vs.find? (fun v => decide (liveAt (n : Int) t v)) <;> rfl
theorem rowsT_len (vs : List Ver) (t : Int) (n : Nat) : (rowsT vs t n).length ≤ n := by
  unfold rowsT
  exact Nat.le_trans (List.length_filterMap_le _ _) (by simp)
theorem rowsT_mem {vs : List Ver} {t : Int} {n : Nat} {w : List Val} (h : w ∈ rowsT vs t n) : ∃ v ∈ vs, v.row = w := by
  unfold rowsT at h
  obtain ⟨k, _, hk⟩ := List.mem_filterMap.1 h
  obtain ⟨v, hv, rfl⟩ := Option.map_eq_some_iff.1 hk
  exact ⟨v, List.mem_of_find?_eq_some hv, rfl⟩
theorem rowsN_len (vs : List Ver) (t : Int) (n : Nat) : (rowsN vs t n).length ≤ n := by
  unfold rowsN
  split
  · exact rowsT_len vs t n
  · simp
theorem rowsN_mem {vs : List Ver} {t : Int} {n : Nat} {w : List Val} (h : w ∈ rowsN vs t n) : ∃ v ∈ vs, v.row = w := by
  unfold rowsN at h
  split at h
  · exact rowsT_mem h
  · simp at h
theorem rowsN_some {vs : List Ver} {t : Int} {n : Nat} {r : List Val} (hv : verP vs) (h : seenR vs n t = some r) : rowsN vs t (n + 1) = rowsN vs t n ++ [r] := by
  unfold rowsN
  rw [if_pos hv, if_pos hv, rowsT_next, h]
theorem rowsN_none {vs : List Ver} {t : Int} {n : Nat} (h : verP vs → seenR vs n t = none) : rowsN vs t (n + 1) = rowsN vs t n := by
  unfold rowsN
  split
  · rename_i hv
    rw [rowsT_next, h hv]
    exact List.append_nil _
  · rfl
theorem f23 (vs : List Ver) (c : Bool) (t : Int) (hl : vs.length ≤ 1048576) (hs : ∀ v ∈ vs, okR v.row) (hm : ∀ v ∈ vs, v.row.length ≤ 1048576) : Fx 23 [.fro none c (vs.map gA), .int .i64 t] (.own 1 ((rowsS vs t).map rO)) := by
  refine fn_of ⟨true, [], []⟩ Try.func23 (by kernel_rfl) rfl (by kernel_rfl) (by kernel_rfl) (Nat.le_of_ble_eq_true rfl) rfl fun Q hQ => ?_
  simp only [vmA, Nat.reduceEqDiff, reduceIte, Nat.reduceAdd, Nat.reduceBEq, reduceCtorEq, Nat.reduceLT, Int.reduceLE, Int.reduceLT, Int.reduceEq, Nat.reduceMul, Nat.reduceLeDiff, List.length_map]
  refine WT_loopR (fun (zz : Nat × Nat) σ => (zz.1 ≤ 5) ∧ σ.sl 6 = .int .i64 zz.1 ∧ σ.sl 0 = .fro none c (vs.map gA) ∧ σ.sl 1 = .int .i64 t ∧ σ.sl 5 = .hd 320 zz.2 0 ((rowsN vs t zz.1).length) false ∧ (σ.en 320).live = true ∧ (σ.en 320).gen = zz.2 ∧ (σ.en 320).frz = false ∧ (σ.en 320).sz = 1 ∧ (σ.en 320).elems = (rowsN vs t zz.1).map rO) (fun zz => 5 - zz.1) 5 ?_ ?_
  · simp only [vmA, Nat.reduceEqDiff, reduceIte, Nat.reduceAdd, Nat.reduceBEq, reduceCtorEq, Nat.reduceLT, Int.reduceLE, Int.reduceLT, Int.reduceEq, Nat.reduceMul, Nat.reduceLeDiff, reown]
    have h0 : rowsN vs t 0 = [] := List.eq_nil_of_length_eq_zero (by have := rowsN_len vs t 0; omega)
    exact ⟨(0, 1), Nat.zero_le _, rfl, by simp [h0]⟩
  rintro ⟨i, γ⟩ σ ⟨hi, e6, e0, e1, e5, m320a, m320b, m320c, m320d, m320e⟩
  try dsimp only at e6 e0 e1 e5 m320a m320b m320c m320d m320e hi
  have hli := rowsN_len vs t i
  simp only [vmA, Nat.reduceEqDiff, reduceIte, Nat.reduceAdd, Nat.reduceBEq, reduceCtorEq, Nat.reduceLT, Int.reduceLE, Int.reduceLT, Int.reduceEq, Nat.reduceMul, Nat.reduceLeDiff, e6, e0, e1, e5, m320a, m320b, m320c, m320d, m320e, List.length_map]
  refine ⟨fun h => ?_, fun h => ?_⟩
  · have hS := f51 vs c i t hl hs hm
    by_cases hv : verP vs
    · cases hr : seenR vs i t with
      | none =>
        rw [seenS, if_pos hv, hr] at hS
        refine callD hS ?_
        simp only [vmA, Nat.reduceEqDiff, reduceIte, Nat.reduceAdd, Nat.reduceBEq, reduceCtorEq, Nat.reduceLT, Int.reduceLE, Int.reduceLT, Int.reduceEq, Nat.reduceMul, Nat.reduceLeDiff, e6, e0, e1, e5, m320a, m320b, m320c, m320d, m320e, List.length_map, reown]
        rw [wr (by omega)]
        refine ⟨(i + 1, γ + 1), ⟨by dsimp only; omega, rfl, ?_⟩, by dsimp only; omega⟩
        dsimp only
        rw [rowsN_none (fun _ => hr)]
        simp
      | some r =>
        rw [seenS, if_pos hv, hr] at hS
        have hn := rowsN_some hv hr
        refine callD hS ?_
        simp only [vmA, Nat.reduceEqDiff, reduceIte, Nat.reduceAdd, Nat.reduceBEq, reduceCtorEq, Nat.reduceLT, Int.reduceLE, Int.reduceLT, Int.reduceEq, Nat.reduceMul, Nat.reduceLeDiff, e6, e0, e1, e5, m320a, m320b, m320c, m320d, m320e, List.length_map, reown, Option.bind_none]
        rw [wr (by omega)]
        refine ⟨⟨by omega, by omega⟩, by simp, (i + 1, γ + 1 + 1), ⟨by dsimp only; omega, rfl, ?_⟩, by dsimp only; omega⟩
        dsimp only
        rw [hn]
        have ht : List.take ((rowsN vs t i).length + 1) (List.map rO (rowsN vs t i) ++ [AV.own 3 (r.map vA)]) = (rowsN vs t i ++ [r]).map rO := by
          rw [List.take_of_length_le (by simp), List.map_append]
          rfl
        rw [ht]
        simp
    · rw [seenS, if_neg hv] at hS
      refine callD hS ?_
      simp only [vmA, Nat.reduceEqDiff, reduceIte, Nat.reduceAdd, Nat.reduceBEq, reduceCtorEq, Nat.reduceLT, Int.reduceLE, Int.reduceLT, Int.reduceEq, Nat.reduceMul, Nat.reduceLeDiff, e6, e0, e1, e5, m320a, m320b, m320c, m320d, m320e, List.length_map, reown]
      rw [wr (by omega)]
      refine ⟨(i + 1, γ + 1), ⟨by dsimp only; omega, rfl, ?_⟩, by dsimp only; omega⟩
      dsimp only
      rw [rowsN_none (fun h => absurd h hv)]
      simp
  · obtain rfl : i = 5 := by omega
    (refine hQ _ ?_; simp only [vmA, Nat.reduceEqDiff, reduceIte, Nat.reduceAdd, Nat.reduceBEq, reduceCtorEq, Nat.reduceLT, Int.reduceLE, Int.reduceLT, Int.reduceEq, Nat.reduceMul, Nat.reduceLeDiff, Try.f23, retG, resL, St.closeVs, St.closeV, e6, e0, e1, e5, m320a, m320b, m320c, m320d, m320e, List.length_map])
theorem f11 (vs : List Ver) (c : Bool) (t : Int) (hl : vs.length ≤ 1048576) (hs : ∀ v ∈ vs, okR v.row) (hm : ∀ v ∈ vs, v.row.length ≤ 1048576) : Fx 11 [.fro none c (vs.map gA), .int .i64 t] (.own 1 ((rowsS vs t).map rO)) := by
  refine FxR.weakR' (R := fun r l => (r = .own 1 ((rowsS vs t).map rO) ∨ (¬ verP vs ∧ r = .fro none true [])) ∧ l = .und) ?_ ?_
  rotate_left
  · rintro _ _ ⟨rfl | ⟨h, rfl⟩, rfl⟩
    · exact ⟨_, ⟨rfl, rfl⟩, Weak.refl _⟩
    · exact ⟨_, ⟨rfl, rfl⟩, by rw [rowsS, rowsN, if_neg h]; exact weak_nil 1⟩
  refine fn_ofR ⟨false, [], []⟩ Try.func11 (by kernel_rfl) rfl (by kernel_rfl) (by kernel_rfl) (Nat.le_of_ble_eq_true rfl) rfl fun Q hQ => ?_
  simp only [vmA, Nat.reduceEqDiff, reduceIte, Nat.reduceAdd, Nat.reduceBEq, reduceCtorEq, Nat.reduceLT, Int.reduceLE, Int.reduceLT, Int.reduceEq, Nat.reduceMul, Nat.reduceLeDiff, List.length_map]
  refine callD (f24 vs c (by omega) hs) ?_
  simp only [vmA, Nat.reduceEqDiff, reduceIte, Nat.reduceAdd, Nat.reduceBEq, reduceCtorEq, Nat.reduceLT, Int.reduceLE, Int.reduceLT, Int.reduceEq, Nat.reduceMul, Nat.reduceLeDiff, List.length_map]
  refine ⟨fun hv => ?_, fun hv => ?_⟩
  · (refine hQ _ ?_; simp only [vmA, Nat.reduceEqDiff, reduceIte, Nat.reduceAdd, Nat.reduceBEq, reduceCtorEq, Nat.reduceLT, Int.reduceLE, Int.reduceLT, Int.reduceEq, Nat.reduceMul, Nat.reduceLeDiff, Try.f11, retG, resL, St.closeVs, St.closeV])
    exact hv
  refine WT_loopN (fun (y : Nat × Nat) σ => y.1 ≤ 5 ∧ σ.sl 0 = .fro none c (vs.map gA) ∧ σ.sl 1 = .int .i64 t ∧ σ.sl 12 = .int .i64 y.1 ∧ σ.sl 5 = .hd 320 y.2 0 (rowsT vs t y.1).length false ∧ (σ.en 320).live = true ∧ (σ.en 320).gen = y.2 ∧ (σ.en 320).frz = false ∧ (σ.en 320).sz = 1 ∧ (σ.en 320).elems = (rowsT vs t y.1).map rA) (fun y => 5 - y.1) (0, 1) 5 1 (by simp [put_sl, put_en, put_none, init_sl, fresh_sl, fresh_en, ent_sl, ent_en, init_en]) (by simp [put_sl, put_en, put_none, init_sl, fresh_sl, fresh_en, ent_sl, ent_en, init_en, takeRes, takeV, takeLeaf, eid]; exact ⟨rfl, rfl⟩) ?_
  rintro ⟨i, g⟩ σ ⟨hi, e0, e1, e12, o1, o2, o3, o4, o5, o6⟩
  dsimp only at hi e12 o1 o3 o6
  have hli := rowsT_len vs t i
  simp only [vmA, Nat.reduceEqDiff, reduceIte, Nat.reduceAdd, Nat.reduceBEq, reduceCtorEq, Nat.reduceLT, Int.reduceLE, Int.reduceLT, Int.reduceEq, Nat.reduceMul, Nat.reduceLeDiff, e0, e1, e12, o1, o2, o3, o4, o5, o6, List.length_map]
  refine ⟨fun hlt => ?_, fun hge => ?_⟩
  · have hS := f29 vs c (by omega) i t
    have hsu := rowsT_succ vs t i
    unfold seenV at hS
    cases hf : vs.find? (fun v => decide (liveAt (i : Int) t v)) with
    | none =>
      rw [hf] at hS hsu
      refine callD hS ?_
      simp only [vmA, Nat.reduceEqDiff, reduceIte, Nat.reduceAdd, Nat.reduceBEq, reduceCtorEq, Nat.reduceLT, Int.reduceLE, Int.reduceLT, Int.reduceEq, Nat.reduceMul, Nat.reduceLeDiff, e0, e1, e12, o1, o2, o3, o4, o5, o6, List.length_map, gA]
      have hsu' : rowsT vs t (i + 1) = rowsT vs t i := by rw [hsu]; exact List.append_nil _
      rw [wr (by omega)]
      refine ⟨(i + 1, g), ⟨by dsimp only; omega, rfl, ?_⟩, by dsimp only; omega⟩
      simp [hsu']
    | some v =>
      rw [hf] at hS hsu
      refine callD hS ?_
      simp only [vmA, Nat.reduceEqDiff, reduceIte, Nat.reduceAdd, Nat.reduceBEq, reduceCtorEq, Nat.reduceLT, Int.reduceLE, Int.reduceLT, Int.reduceEq, Nat.reduceMul, Nat.reduceLeDiff, e0, e1, e12, o1, o2, o3, o4, o5, o6, List.length_map, gA]
      have hsu' : rowsT vs t (i + 1) = rowsT vs t i ++ [v.row] := hsu
      rw [wr (by omega)]
      refine ⟨⟨by omega, by omega⟩, (i + 1, g + 1), ⟨by dsimp only; omega, rfl, ?_⟩, by dsimp only; omega⟩
      simp [hsu', rA]
  · obtain rfl : i = 5 := by omega
    have hr : ∀ w ∈ rowsT vs t 5, w.length ≤ 1048576 := fun w hw => by
      obtain ⟨v, hv, rfl⟩ := rowsT_mem hw
      exact hm v hv
    have hfz : ((rowsT vs t 5).map rA).map froize = (rowsT vs t 5).map rA := map_froize_rA _
    rw [hfz]
    refine callD (f30 (rowsT vs t 5) false (by omega) hr) ?_
    simp only [vmA, Nat.reduceEqDiff, reduceIte, Nat.reduceAdd, Nat.reduceBEq, reduceCtorEq, Nat.reduceLT, Int.reduceLE, Int.reduceLT, Int.reduceEq, Nat.reduceMul, Nat.reduceLeDiff, e0, e1, e12, o1, o2, o3, o4, o5, o6, List.length_map, gA, behind_nf, hasFro, hasFroL_rO]
    (refine hQ _ ?_; simp only [vmA, Nat.reduceEqDiff, reduceIte, Nat.reduceAdd, Nat.reduceBEq, reduceCtorEq, Nat.reduceLT, Int.reduceLE, Int.reduceLT, Int.reduceEq, Nat.reduceMul, Nat.reduceLeDiff, Try.f11, retG, resL, St.closeVs, St.closeV, o1, o2, o3, o4, o5, o6, behind_nf, hasFro, hasFroL_rO])
    rw [rowsS, rowsN, if_pos hv]
