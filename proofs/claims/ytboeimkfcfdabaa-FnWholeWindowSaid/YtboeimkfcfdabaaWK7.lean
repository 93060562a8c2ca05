/- WALK of functions of the seat, or plain laws for it: each theorem f<k> says what function k returns, for every world and all arguments that stand for the values named. Conditions: none but those ahead of each theorem. -/
import Derived.Test.YtboeimkfcfdabaaWV3
import Derived.Test.YtboeimkfcfdabaaWK2
open Go Go.Vm Go.Proofs
set_option maxRecDepth 100000
set_option maxHeartbeats 8000000
set_option linter.unusedSimpArgs false
set_option linter.unusedVariables false
theorem rEq_dec {x y : List Val} : rEq x y ↔ x = y := by
  rw [rEq_iff]
  constructor
  · rintro ⟨h1, h2⟩
    refine List.ext_getElem h1 fun i h3 h4 => ?_
    have := h2 i h3
    rw [getElem!_pos x i h3, getElem!_pos y i h4] at this
    obtain ⟨a, b, c⟩ := this
    cases hx : x[i]; cases hy : y[i]
    simp_all
  · rintro rfl
    exact ⟨rfl, fun i _ => ⟨rfl, rfl, rfl⟩⟩
theorem f70 (xs ys : List Val) (c c2 : Bool) (hl : xs.length ≤ 1048576) (hl2 : ys.length ≤ 1048576) : Fx 70 [.fro none c (xs.map vA), .fro none c2 (ys.map vA)] (.bool (decide (rEq xs ys))) := by
  refine fn_of ⟨false, [], []⟩ Try.func70 (by kernel_rfl) rfl (by kernel_rfl) (by kernel_rfl) (Nat.le_of_ble_eq_true rfl) rfl fun Q hQ => ?_
  simp only [vmA, Nat.reduceEqDiff, reduceIte, Nat.reduceAdd, Nat.reduceBEq, reduceCtorEq, Nat.reduceLT, Int.reduceLE, Int.reduceLT, Int.reduceEq, Nat.reduceMul, Nat.reduceLeDiff, List.length_map]
  refine ⟨fun h => ?_, fun h => ?_⟩
  · (refine hQ _ ?_; simp only [vmA, Nat.reduceEqDiff, reduceIte, Nat.reduceAdd, Nat.reduceBEq, reduceCtorEq, Nat.reduceLT, Int.reduceLE, Int.reduceLT, Int.reduceEq, Nat.reduceMul, Nat.reduceLeDiff, Try.f70, retG, resL, St.closeVs, St.closeV])
    exact lF fun h2 => h (by have := (rEq_iff.1 h2).1; omega)
  have hlen : xs.length = ys.length := by omega
  refine WT_loop (fun (i : Nat) σ => (i ≤ xs.length ∧ ∀ j, j < i → vEq xs[j]! ys[j]!) ∧ σ.sl 5 = .int .i64 i ∧ σ.sl 0 = .fro none c (xs.map vA) ∧ σ.sl 1 = .fro none c2 (ys.map vA)) (fun i => xs.length - i) (0) ⟨⟨Nat.zero_le _, fun j h => absurd h (by omega)⟩, by simp [put_sl, put_en, put_none, init_sl, fresh_sl, fresh_en, ent_sl, ent_en, init_en], by simp [put_sl, put_en, put_none, init_sl, fresh_sl, fresh_en, ent_sl, ent_en, init_en], by simp [put_sl, put_en, put_none, init_sl, fresh_sl, fresh_en, ent_sl, ent_en, init_en]⟩ ?_
  rintro i σ ⟨hi, e5, e0, e1⟩
  simp only [vmA, Nat.reduceEqDiff, reduceIte, Nat.reduceAdd, Nat.reduceBEq, reduceCtorEq, Nat.reduceLT, Int.reduceLE, Int.reduceLT, Int.reduceEq, Nat.reduceMul, Nat.reduceLeDiff, e5, e0, e1, vA, vEq_bool, List.length_map]
  refine ⟨fun h => ?_, fun h => ?_⟩
  · repeat refine ⟨by omega, ?_⟩
    refine ⟨fun hne => ?_, fun he => ?_⟩
    · (refine hQ _ ?_; simp only [vmA, Nat.reduceEqDiff, reduceIte, Nat.reduceAdd, Nat.reduceBEq, reduceCtorEq, Nat.reduceLT, Int.reduceLE, Int.reduceLT, Int.reduceEq, Nat.reduceMul, Nat.reduceLeDiff, Try.f70, retG, resL, St.closeVs, St.closeV, e5, e0, e1])
      exact lF fun h2 => hne ((rEq_iff.1 h2).2 i (by omega))
    · rw [wr (by omega)]
      exact ⟨i + 1, ⟨⟨by omega, fun j hj => by
        by_cases hji : j = i
        · rw [hji]; exact he
        · exact hi.2 j (by omega)⟩, rfl⟩, by omega⟩
  · (refine hQ _ ?_; simp only [vmA, Nat.reduceEqDiff, reduceIte, Nat.reduceAdd, Nat.reduceBEq, reduceCtorEq, Nat.reduceLT, Int.reduceLE, Int.reduceLT, Int.reduceEq, Nat.reduceMul, Nat.reduceLeDiff, Try.f70, retG, resL, St.closeVs, St.closeV, e5, e0, e1])
    exact lT (rEq_iff.2 ⟨hlen, fun j hj => hi.2 j (by omega)⟩)
/-- How many rows are a row. -/
def manyR (xs : List (List Val)) (r : List Val) : Nat := (xs.filter fun x => decide (rEq x r)).length
theorem one_many (y r : List Val) : (List.filter (fun x => decide (rEq x r)) [y]).length = if rEq y r then 1 else 0 := by
  by_cases h : rEq y r
  · rw [if_pos h, List.filter_cons_of_pos (by simpa using h)]; rfl
  · rw [if_neg h, List.filter_cons_of_neg (by simpa using h)]; rfl
theorem f68 (xs : List (List Val)) (r : List Val) (c d : Bool) (hl : xs.length ≤ 1048576) (hr : ∀ x ∈ xs, x.length ≤ 1048576) (h2 : r.length ≤ 1048576) : Fx 68 [.fro none c (xs.map rA), .fro none d (r.map vA)] (.int .i64 (manyR xs r)) := by
  refine fn_of ⟨false, [], []⟩ Try.func68 (by kernel_rfl) rfl (by kernel_rfl) (by kernel_rfl) (Nat.le_of_ble_eq_true rfl) rfl fun Q hQ => ?_
  simp only [vmA, Nat.reduceEqDiff, reduceIte, Nat.reduceAdd, Nat.reduceBEq, reduceCtorEq, Nat.reduceLT, Int.reduceLE, Int.reduceLT, Int.reduceEq, Nat.reduceMul, Nat.reduceLeDiff, List.length_map]
  refine WT_loop (fun (i : Nat) σ => (i ≤ xs.length) ∧ σ.sl 6 = .int .i64 i ∧ σ.sl 5 = .int .i64 (manyR (xs.take i) r) ∧ σ.sl 0 = .fro none c (xs.map rA) ∧ σ.sl 1 = .fro none d (r.map vA)) (fun i => xs.length - i) (0) ⟨Nat.zero_le _, by simp [put_sl, put_en, put_none, init_sl, fresh_sl, fresh_en, ent_sl, ent_en, init_en, manyR], by simp [put_sl, put_en, put_none, init_sl, fresh_sl, fresh_en, ent_sl, ent_en, init_en, manyR], by simp [put_sl, put_en, put_none, init_sl, fresh_sl, fresh_en, ent_sl, ent_en, init_en, manyR], by simp [put_sl, put_en, put_none, init_sl, fresh_sl, fresh_en, ent_sl, ent_en, init_en, manyR]⟩ ?_
  rintro i σ ⟨hi, e6, e5, e0, e1⟩
  have hm : manyR (xs.take i) r ≤ i := by
    unfold manyR
    exact Nat.le_trans (List.length_filter_le _ _) (by simp; omega)
  simp only [vmA, Nat.reduceEqDiff, reduceIte, Nat.reduceAdd, Nat.reduceBEq, reduceCtorEq, Nat.reduceLT, Int.reduceLE, Int.reduceLT, Int.reduceEq, Nat.reduceMul, Nat.reduceLeDiff, e6, e5, e0, e1, rA, List.length_map]
  refine ⟨fun hlt => ⟨hlt, by omega, callD (f70 xs[i]! r false d (hr _ (by rw [getElem!_pos xs i (by omega)]; exact List.getElem_mem _)) h2) ?_⟩, fun hge => ?_⟩
  · have hn : manyR (xs.take (i + 1)) r = manyR (xs.take i) r + if rEq xs[i]! r then 1 else 0 := by
      unfold manyR
      rw [take_next xs i (by omega), List.filter_append, List.length_append]
      congr 1
      exact one_many _ _
    simp only [vmA, Nat.reduceEqDiff, reduceIte, Nat.reduceAdd, Nat.reduceBEq, reduceCtorEq, Nat.reduceLT, Int.reduceLE, Int.reduceLT, Int.reduceEq, Nat.reduceMul, Nat.reduceLeDiff, e6, e5, e0, e1, List.length_map]
    refine ⟨fun h => ?_, fun h => ?_⟩
    · rw [if_pos h] at hn
      rw [wr (by omega), wr (by omega)]
      exact ⟨i + 1, ⟨by omega, rfl, by rw [hn]; rfl⟩, by omega⟩
    · rw [if_neg h] at hn
      rw [wr (by omega)]
      exact ⟨i + 1, ⟨by omega, rfl, by rw [hn]; rfl⟩, by omega⟩
  · (refine hQ _ ?_; simp only [vmA, Nat.reduceEqDiff, reduceIte, Nat.reduceAdd, Nat.reduceBEq, reduceCtorEq, Nat.reduceLT, Int.reduceLE, Int.reduceLT, Int.reduceEq, Nat.reduceMul, Nat.reduceLeDiff, Try.f68, retG, resL, St.closeVs, St.closeV, e6, e5, e0, e1])
    rw [List.take_of_length_le (by omega)]
/-- Each row once. -/
def onceR (xs : List (List Val)) : List (List Val) := xs.foldl (fun out r => if manyR out r = 0 then out ++ [r] else out) []
theorem onceR_next (xs : List (List Val)) {i : Nat} (h : i < xs.length) : onceR (xs.take (i + 1)) = if manyR (onceR (xs.take i)) xs[i]! = 0 then onceR (xs.take i) ++ [xs[i]!] else onceR (xs.take i) := by
  unfold onceR
  rw [take_next xs i h, List.foldl_append]
  rfl
theorem onceR_mem : ∀ (xs : List (List Val)) (o : List (List Val)) (x : List Val), x ∈ xs.foldl (fun out r => if manyR out r = 0 then out ++ [r] else out) o → x ∈ o ∨ x ∈ xs
  | [], o, x, h => .inl h
  | r :: xs, o, x, h => by
    rcases onceR_mem xs _ x h with h | h
    · dsimp only at h
      split at h
      · rcases List.mem_append.1 h with h | h
        · exact .inl h
        · exact .inr (by rw [List.mem_singleton.1 h]; simp)
      · exact .inl h
    · exact .inr (by simp [h])
theorem onceR_len (xs : List (List Val)) : ∀ i, i ≤ xs.length → (onceR (xs.take i)).length ≤ i
  | 0, _ => by simp [onceR]
  | i + 1, h => by
    have := onceR_len xs i (by omega)
    rw [onceR_next xs (by omega)]
    split
    · simp; omega
    · omega
theorem f31 (xs : List (List Val)) (c : Bool) (hl : xs.length ≤ 1048576) (hr : ∀ x ∈ xs, x.length ≤ 1048576) : Fx 31 [.fro none c (xs.map rA)] (.own 1 ((onceR xs).map rO)) := by
  refine fn_of ⟨true, [], []⟩ Try.func31 (by kernel_rfl) rfl (by kernel_rfl) (by kernel_rfl) (Nat.le_of_ble_eq_true rfl) rfl fun Q hQ => ?_
  simp only [vmA, Nat.reduceEqDiff, reduceIte, Nat.reduceAdd, Nat.reduceBEq, reduceCtorEq, Nat.reduceLT, Int.reduceLE, Int.reduceLT, Int.reduceEq, Nat.reduceMul, Nat.reduceLeDiff, List.length_map, Option.bind_none]
  refine WT_loopR (fun (zz : Nat × Nat × List (List Val)) σ => (zz.1 ≤ xs.length ∧ zz.2.2 = onceR (xs.take zz.1)) ∧ σ.sl 4 = .int .i64 zz.1 ∧ σ.sl 0 = .fro none c (xs.map rA) ∧ σ.sl 3 = .hd 192 zz.2.1 0 (zz.2.2.length) false ∧ (σ.en 192).live = true ∧ (σ.en 192).gen = zz.2.1 ∧ (σ.en 192).frz = false ∧ (σ.en 192).sz = 1 ∧ (σ.en 192).elems = zz.2.2.map rO) (fun zz => xs.length - zz.1) 3 ?_ ?_
  · simp only [vmA, Nat.reduceEqDiff, reduceIte, Nat.reduceAdd, Nat.reduceBEq, reduceCtorEq, Nat.reduceLT, Int.reduceLE, Int.reduceLT, Int.reduceEq, Nat.reduceMul, Nat.reduceLeDiff, reown]
    exact ⟨(0, 1, []), ⟨Nat.zero_le _, rfl⟩, rfl, rfl, rfl, rfl⟩
  rintro ⟨i, γ, L⟩ σ ⟨hi, e4, e0, e3, m192a, m192b, m192c, m192d, m192e⟩
  try dsimp only at e4 e0 e3 m192a m192b m192c m192d m192e hi
  obtain ⟨hi, hL⟩ := hi
  have hLl : L.length ≤ i := by rw [hL]; exact onceR_len xs i (by omega)
  have hLr : ∀ x ∈ L, x.length ≤ 1048576 := fun x hx => by
    rw [hL] at hx
    rcases onceR_mem _ _ x hx with h | h
    · simp at h
    · exact hr x (List.mem_of_mem_take h)
  simp only [vmA, Nat.reduceEqDiff, reduceIte, Nat.reduceAdd, Nat.reduceBEq, reduceCtorEq, Nat.reduceLT, Int.reduceLE, Int.reduceLT, Int.reduceEq, Nat.reduceMul, Nat.reduceLeDiff, e4, e0, e3, m192a, m192b, m192c, m192d, m192e, rA, List.length_map, Option.bind_none, reown, List.take_length]
  refine ⟨fun hlt => ?_, fun hge => ?_⟩
  · have hxi := hr xs[i]! (by rw [getElem!_pos xs i (by omega)]; exact List.getElem_mem _)
    have hn := onceR_next xs (i := i) (by omega)
    rw [← hL] at hn
    rw [map_froize_rO]
    refine ⟨hlt, by omega, callD (f68 L xs[i]! false false (by omega) hLr hxi) ?_⟩
    simp only [vmA, Nat.reduceEqDiff, reduceIte, Nat.reduceAdd, Nat.reduceBEq, reduceCtorEq, Nat.reduceLT, Int.reduceLE, Int.reduceLT, Int.reduceEq, Nat.reduceMul, Nat.reduceLeDiff, e4, e0, e3, m192a, m192b, m192c, m192d, m192e, rA, List.length_map, Option.bind_none, reown, List.take_length]
    refine ⟨fun h => ⟨by omega, by omega, callD (f28 xs[i]! false hxi) ?_⟩, fun h => ?_⟩
    · rw [if_pos (by omega)] at hn
      simp only [vmA, Nat.reduceEqDiff, reduceIte, Nat.reduceAdd, Nat.reduceBEq, reduceCtorEq, Nat.reduceLT, Int.reduceLE, Int.reduceLT, Int.reduceEq, Nat.reduceMul, Nat.reduceLeDiff, e4, e0, e3, m192a, m192b, m192c, m192d, m192e, rA, List.length_map, Option.bind_none, reown, List.take_length]
      rw [wr (by omega)]
      refine ⟨⟨by omega, by omega⟩, by simp, ⟨(i + 1, _, L ++ [xs[i]!]), ⟨⟨by dsimp only; omega, by dsimp only; rw [hn]⟩, rfl, ?_, rfl, ?_⟩, by dsimp only; omega⟩⟩
      · simp
      · dsimp only
        rw [List.take_of_length_le (by simp), List.map_append]
        rfl
    · rw [if_neg (by omega)] at hn
      rw [wr (by omega)]
      exact ⟨(i + 1, _, L), ⟨⟨by dsimp only; omega, by dsimp only; rw [hn]⟩, rfl, rfl, rfl, rfl⟩, by dsimp only; omega⟩
  · (refine hQ _ ?_; simp only [vmA, Nat.reduceEqDiff, reduceIte, Nat.reduceAdd, Nat.reduceBEq, reduceCtorEq, Nat.reduceLT, Int.reduceLE, Int.reduceLT, Int.reduceEq, Nat.reduceMul, Nat.reduceLeDiff, Try.f31, retG, resL, St.closeVs, St.closeV, e4, e0, e3, m192a, m192b, m192c, m192d, m192e, List.take_length])
    rw [hL, List.take_of_length_le (by omega)]
