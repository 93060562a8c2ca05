/- WALK of functions of the seat, or plain laws for it: each theorem f<k> says what function k returns, for every world and all arguments that stand for the values named. Conditions: none but those ahead of each theorem. -/
import Derived.Test.YtklhdnjhgbglhaaYF6
open Go Go.Vm Go.Proofs
set_option maxRecDepth 100000
set_option maxHeartbeats 8000000
set_option linter.unusedSimpArgs false
set_option linter.unusedVariables false
set_option maxHeartbeats 8000000
set_option linter.unusedSimpArgs false
set_option linter.unusedVariables false
/-- A version of a row. -/
structure Ver where
  key : Int
  born : Int
  died : Int
  row : List Val
instance : Inhabited Ver := ⟨⟨0, 0, 0, []⟩⟩
def gA (v : Ver) : AV := .agg [.int .i64 v.key, .int .i64 v.born, .int .i64 v.died, .fro none false (v.row.map vA)]
def gO (v : Ver) : AV := .agg [.int .i64 v.key, .int .i64 v.born, .int .i64 v.died, .own 3 (v.row.map vA)]
theorem froize_gA (v : Ver) : froize (gA v) = gA v := rfl
theorem froize_gO (v : Ver) : froize (gO v) = gA v := by
  have := map_froize_vA v.row
  simp only [gO, gA, froize, froizeL, froizeL_eq, this]
theorem map_froize_gO (vs : List Ver) : (vs.map gO).map froize = vs.map gA := by simp [froize_gO]
theorem map_froize_gA (vs : List Ver) : (vs.map gA).map froize = vs.map gA := by simp [froize_gA]
set_option maxHeartbeats 8000000
set_option linter.unusedSimpArgs false
set_option linter.unusedVariables false
/-- It is there at the time. -/
def liveAt (key t : Int) (v : Ver) : Prop := v.key = key ∧ v.born ≤ t ∧ (v.died = 0 ∨ t < v.died)
instance (key t : Int) (v : Ver) : Decidable (liveAt key t v) := by unfold liveAt; exact inferInstance
def seenV (vs : List Ver) (key t : Int) : AV := match vs.find? (fun v => decide (liveAt key t v)) with
  | some v => .tup [gA v, .bool true]
  | none => .tup [.agg [.int .i64 0, .int .i64 0, .int .i64 0, .fro none true []], .bool false]
theorem find_none {α : Type} [Inhabited α] (p : α → Bool) (vs : List α) (h : ∀ j, j < vs.length → p vs[j]! = false) : vs.find? p = none := by
  rw [List.find?_eq_none]
  intro x hx
  obtain ⟨j, hj, rfl⟩ := List.mem_iff_getElem.1 hx
  have := h j hj
  rw [getElem!_pos vs j hj] at this
  simp [this]
theorem find_some {α : Type} [Inhabited α] (p : α → Bool) : ∀ (vs : List α) (i : Nat), i < vs.length → (∀ j, j < i → p vs[j]! = false) → p vs[i]! = true → vs.find? p = some vs[i]!
  | [], i, h, _, _ => by simp at h
  | x :: xs, 0, _, _, h => by
    have : p x = true := by simpa using h
    simp only [List.find?_cons, this]
    rfl
  | x :: xs, i + 1, hl, h1, h2 => by
    have h0 := h1 0 (by omega)
    simp only [List.find?_cons]
    have : p x = false := by simpa using h0
    rw [this]
    have := find_some p xs i (by simpa using hl) (fun j hj => by simpa using h1 (j + 1) (by omega)) (by simpa using h2)
    simpa using this
theorem f29 (vs : List Ver) (c : Bool) (hl : vs.length ≤ 1048576) (key t : Int) : Fx 29 [.fro none c (vs.map gA), .int .i64 key, .int .i64 t] (seenV vs key t) := by
  refine fn_of ⟨false, [], []⟩ Try.func29 (by kernel_rfl) rfl (by kernel_rfl) (by kernel_rfl) (Nat.le_of_ble_eq_true rfl) rfl fun Q hQ => ?_
  simp only [vmA, Nat.reduceEqDiff, reduceIte, Nat.reduceAdd, Nat.reduceBEq, reduceCtorEq, Nat.reduceLT, Int.reduceLE, Int.reduceLT, Int.reduceEq, Nat.reduceMul, Nat.reduceLeDiff, List.length_map]
  refine WT_loop (fun (i : Nat) σ => (i ≤ vs.length ∧ (∀ j, j < i → decide (liveAt key t vs[j]!) = false)) ∧ σ.sl 12 = .int .i64 i ∧ σ.sl 11 = .int .i64 vs.length ∧ σ.sl 10 = .fro none c (vs.map gA) ∧ σ.sl 7 = .bool false ∧ σ.sl 6 = .ptr 384 1 0 0 ∧ σ.sl 1 = .int .i64 key ∧ σ.sl 2 = .int .i64 t ∧ (σ.en 384).live = true ∧ (σ.en 384).gen = 1 ∧ (σ.en 384).frz = false ∧ (σ.en 384).sz = 4 ∧ (σ.en 384).elems = [.agg [.int .i64 0, .int .i64 0, .int .i64 0, .fro none true []]]) (fun i => vs.length - i) (0) ⟨⟨Nat.zero_le _, by omega⟩, by simp [put_sl, put_en, put_none, init_sl, fresh_sl, fresh_en, ent_sl, ent_en, init_en], by simp [put_sl, put_en, put_none, init_sl, fresh_sl, fresh_en, ent_sl, ent_en, init_en], by simp [put_sl, put_en, put_none, init_sl, fresh_sl, fresh_en, ent_sl, ent_en, init_en], by simp [put_sl, put_en, put_none, init_sl, fresh_sl, fresh_en, ent_sl, ent_en, init_en], by simp [put_sl, put_en, put_none, init_sl, fresh_sl, fresh_en, ent_sl, ent_en, init_en], by simp [put_sl, put_en, put_none, init_sl, fresh_sl, fresh_en, ent_sl, ent_en, init_en], by simp [put_sl, put_en, put_none, init_sl, fresh_sl, fresh_en, ent_sl, ent_en, init_en], by simp [put_sl, put_en, put_none, init_sl, fresh_sl, fresh_en, ent_sl, ent_en, init_en], by simp [put_sl, put_en, put_none, init_sl, fresh_sl, fresh_en, ent_sl, ent_en, init_en], by simp [put_sl, put_en, put_none, init_sl, fresh_sl, fresh_en, ent_sl, ent_en, init_en], by simp [put_sl, put_en, put_none, init_sl, fresh_sl, fresh_en, ent_sl, ent_en, init_en], by simp [put_sl, put_en, put_none, init_sl, fresh_sl, fresh_en, ent_sl, ent_en, init_en]⟩ ?_
  rintro i σ ⟨hi, e12, e11, e10, e7, e6, e1, e2, m384a, m384b, m384c, m384d, m384e⟩
  simp only [vmA, Nat.reduceEqDiff, reduceIte, Nat.reduceAdd, Nat.reduceBEq, reduceCtorEq, Nat.reduceLT, Int.reduceLE, Int.reduceLT, Int.reduceEq, Nat.reduceMul, Nat.reduceLeDiff, e12, e11, e10, e7, e6, e1, e2, m384a, m384b, m384c, m384d, m384e, gA, List.length_map]
  have go : ¬ liveAt key t vs[i]! → ∀ j, j < i + 1 → decide (liveAt key t vs[j]!) = false := fun hn j hj => by
    by_cases hji : j = i
    · rw [hji]; exact decide_eq_false hn
    · exact hi.2 j (by omega)
  refine ⟨fun h => ⟨h, by omega, ⟨fun hk => ⟨fun hb => ⟨fun hd => ?_, fun hd => ⟨fun hd2 => ?_, fun hd2 => ?_⟩⟩, fun hb => ?_⟩, fun hk => ?_⟩⟩, fun h => ?_⟩
  · (refine hQ _ ?_; simp only [vmA, Nat.reduceEqDiff, reduceIte, Nat.reduceAdd, Nat.reduceBEq, reduceCtorEq, Nat.reduceLT, Int.reduceLE, Int.reduceLT, Int.reduceEq, Nat.reduceMul, Nat.reduceLeDiff, Try.f29, retG, resL, St.closeVs, St.closeV, e12, e11, e10, e7, e6, e1, e2, m384a, m384b, m384c, m384d, m384e])
    rw [seenV, find_some _ vs i (by omega) hi.2 (decide_eq_true ⟨hk, hb, .inl hd⟩)]
    rfl
  · (refine hQ _ ?_; simp only [vmA, Nat.reduceEqDiff, reduceIte, Nat.reduceAdd, Nat.reduceBEq, reduceCtorEq, Nat.reduceLT, Int.reduceLE, Int.reduceLT, Int.reduceEq, Nat.reduceMul, Nat.reduceLeDiff, Try.f29, retG, resL, St.closeVs, St.closeV, e12, e11, e10, e7, e6, e1, e2, m384a, m384b, m384c, m384d, m384e])
    rw [seenV, find_some _ vs i (by omega) hi.2 (decide_eq_true ⟨hk, hb, .inr (by omega)⟩)]
    rfl
  · rw [wr (by omega)]
    exact ⟨i + 1, ⟨⟨by omega, fun j hj => of_decide_eq_false (go (fun hn => by have := hn.2.2; omega) j hj)⟩, rfl⟩, by omega⟩
  · rw [wr (by omega)]
    exact ⟨i + 1, ⟨⟨by omega, fun j hj => of_decide_eq_false (go (fun hn => hb hn.2.1) j hj)⟩, rfl⟩, by omega⟩
  · rw [wr (by omega)]
    exact ⟨i + 1, ⟨⟨by omega, fun j hj => of_decide_eq_false (go (fun hn => hk hn.1) j hj)⟩, rfl⟩, by omega⟩
  · (refine hQ _ ?_; simp only [vmA, Nat.reduceEqDiff, reduceIte, Nat.reduceAdd, Nat.reduceBEq, reduceCtorEq, Nat.reduceLT, Int.reduceLE, Int.reduceLT, Int.reduceEq, Nat.reduceMul, Nat.reduceLeDiff, Try.f29, retG, resL, St.closeVs, St.closeV, e12, e11, e10, e7, e6, e1, e2, m384a, m384b, m384c, m384d, m384e])
    obtain rfl : i = vs.length := by have := hi.1; omega
    rw [seenV, find_none _ vs hi.2]
set_option maxHeartbeats 8000000
set_option linter.unusedSimpArgs false
set_option linter.unusedVariables false
/-- One stands ahead of the other. -/
def vlt (v w : Ver) : Prop := v.key < w.key ∨ (v.key = w.key ∧ v.born < w.born ∧ v.died ≠ 0 ∧ v.died ≤ w.born)
structure GoodV (T : Int) (v : Ver) : Prop where
  key : 0 ≤ v.key ∧ v.key ≤ 4
  born : 1 ≤ v.born ∧ v.born ≤ T
  died : v.died = 0 ∨ v.born < v.died ∧ v.died ≤ T
  row : rowP v.row
  ok : okR v.row
structure Good (T : Int) (vs : List Ver) : Prop where
  top : T ≤ 40
  one : ∀ v ∈ vs, GoodV T v
  ord : vs.Pairwise vlt
  len : vs.length ≤ 60
theorem Good.at {T : Int} {vs : List Ver} (h : Good T vs) {i : Nat} (hi : i < vs.length) : GoodV T vs[i]! := h.one _ (by rw [getElem!_pos vs i hi]; exact List.getElem_mem _)
theorem Good.lt {T : Int} {vs : List Ver} (h : Good T vs) {i j : Nat} (hij : i < j) (hj : j < vs.length) : vlt vs[i]! vs[j]! := by
  rw [getElem!_pos vs i (by omega), getElem!_pos vs j hj]
  exact List.pairwise_iff_getElem.1 h.ord i j (by omega) hj hij
set_option maxHeartbeats 8000000
set_option linter.unusedSimpArgs false
set_option linter.unusedVariables false
theorem hasFroL_vA (xs : List Val) : hasFro.hasFroL (xs.map vA) = false := by
  induction xs with
  | nil => rfl
  | cons x xs ih => simp only [List.map_cons, hasFro.hasFroL, ih, vA, hasFro]; rfl
theorem hasFroL_rO (xs : List (List Val)) : hasFro.hasFroL (xs.map rO) = false := by
  induction xs with
  | nil => rfl
  | cons x xs ih => simp only [List.map_cons, hasFro.hasFroL, ih, rO, hasFro, hasFroL_vA]; rfl
/-- The rows that are there at a time, of the first keys. -/
def rowsT (vs : List Ver) (t : Int) (n : Nat) : List (List Val) := (List.range n).filterMap fun (k : Nat) => (vs.find? (fun v => decide (liveAt (k : Int) t v))).map Ver.row
theorem rowsT_succ (vs : List Ver) (t : Int) (n : Nat) : rowsT vs t (n + 1) = rowsT vs t n ++ (match vs.find? (fun v => decide (liveAt (n : Int) t v)) with | some v => [v.row] | none => []) := by
  unfold rowsT
  rw [List.range_succ, List.filterMap_append]
  cases h : vs.find? (fun v => decide (liveAt (n : Int) t v)) <;> simp [h]
def riAt (lo hi : Int) (xs : List Int) (i : Nat) : Prop := (lo ≤ xs[i]! ∧ xs[i]! ≤ hi) ∧ ¬ (0 < i ∧ xs[i]! ≤ xs[i - 1]!)
instance (lo hi : Int) (xs : List Int) (i : Nat) : Decidable (riAt lo hi xs i) := by unfold riAt; exact inferInstance
def riP (lo hi : Int) (xs : List Int) : Prop := ∀ i, i < xs.length → riAt lo hi xs i
instance (lo hi : Int) (xs : List Int) : Decidable (riP lo hi xs) := by unfold riP; exact inferInstance
theorem f55 (xs : List Int) (c : Bool) (lo hi : Int) (hl : xs.length ≤ 9223372036854775807) : Fx 55 [.fro none c (xs.map iA), .int .i64 lo, .int .i64 hi] (.bool (decide (riP lo hi xs))) := by
  refine fn_of false Try.func55 (by kernel_rfl) rfl (by kernel_rfl) (by kernel_rfl) (Nat.le_of_ble_eq_true rfl) rfl fun Q hQ => ?_
  simp only [vmA, Nat.reduceEqDiff, reduceIte, Nat.reduceAdd, Nat.reduceBEq, reduceCtorEq, Nat.reduceLT, Int.reduceLE, Int.reduceLT, Int.reduceEq, Nat.reduceMul, Nat.reduceLeDiff]
  refine WT_loop (fun (i : Nat) σ => i ≤ xs.length ∧ σ.sl 0 = .fro none c (xs.map iA) ∧ σ.sl 1 = .int .i64 lo ∧ σ.sl 2 = .int .i64 hi ∧ σ.sl 9 = .fro none c (xs.map iA) ∧ σ.sl 10 = .int .i64 xs.length ∧ σ.sl 11 = .int .i64 i ∧ ∀ k, k < i → riAt lo hi xs k) (fun i => xs.length - i) 0 ⟨by omega, by simp [put_sl, put_en, put_none, init_sl, fresh_sl, fresh_en, ent_sl, ent_en, init_en], by simp [put_sl, put_en, put_none, init_sl, fresh_sl, fresh_en, ent_sl, ent_en, init_en], by simp [put_sl, put_en, put_none, init_sl, fresh_sl, fresh_en, ent_sl, ent_en, init_en], by simp [put_sl, put_en, put_none, init_sl, fresh_sl, fresh_en, ent_sl, ent_en, init_en], by simp [put_sl, put_en, put_none, init_sl, fresh_sl, fresh_en, ent_sl, ent_en, init_en], by simp [put_sl, put_en, put_none, init_sl, fresh_sl, fresh_en, ent_sl, ent_en, init_en], by omega⟩ ?_
  rintro i σ ⟨hi', e0, e1, e2, e9, e10, e11, hall⟩
  simp only [vmA, Nat.reduceEqDiff, reduceIte, Nat.reduceAdd, Nat.reduceBEq, reduceCtorEq, Nat.reduceLT, Int.reduceLE, Int.reduceLT, Int.reduceEq, Nat.reduceMul, Nat.reduceLeDiff, e0, e1, e2, e9, e10, e11]
  refine ⟨fun hlt => ⟨hlt, by omega, callD (f25 _ _ _) ?_⟩, fun hge => ?_⟩
  · simp only [vmA, Nat.reduceEqDiff, reduceIte, Nat.reduceAdd, Nat.reduceBEq, reduceCtorEq, Nat.reduceLT, Int.reduceLE, Int.reduceLT, Int.reduceEq, Nat.reduceMul, Nat.reduceLeDiff, e0, e1, e2, e9, e10, e11]
    refine ⟨fun hk => ?_, fun hk => ⟨fun hpos => ?_, fun hz => ?_⟩⟩
    · (refine hQ _ ?_; simp only [vmA, Nat.reduceEqDiff, reduceIte, Nat.reduceAdd, Nat.reduceBEq, reduceCtorEq, Nat.reduceLT, Int.reduceLE, Int.reduceLT, Int.reduceEq, Nat.reduceMul, Nat.reduceLeDiff, Try.f55, retG, resL, St.closeVs, St.closeV])
      exact leafF fun h => hk (h i (by omega)).1
    · rw [wr (by omega)]
      refine ⟨by omega, by omega, ?_⟩
      rw [show ((i : Int) - 1).toNat = i - 1 by omega]
      refine ⟨fun hge => ?_, fun hlt2 => ?_⟩
      · (refine hQ _ ?_; simp only [vmA, Nat.reduceEqDiff, reduceIte, Nat.reduceAdd, Nat.reduceBEq, reduceCtorEq, Nat.reduceLT, Int.reduceLE, Int.reduceLT, Int.reduceEq, Nat.reduceMul, Nat.reduceLeDiff, Try.f55, retG, resL, St.closeVs, St.closeV])
        exact leafF fun h => (h i (by omega)).2 ⟨by omega, hge⟩
      · rw [wr (by omega)]
        refine ⟨i + 1, ⟨by omega, rfl, fun k hkk => ?_⟩, by omega⟩
        rcases Nat.lt_or_eq_of_le (Nat.le_of_lt_succ hkk) with h | rfl
        · exact hall k h
        · exact ⟨hk, fun h => hlt2 h.2⟩
    · rw [wr (by omega)]
      refine ⟨i + 1, ⟨by omega, rfl, fun k hkk => ?_⟩, by omega⟩
      rcases Nat.lt_or_eq_of_le (Nat.le_of_lt_succ hkk) with h | rfl
      · exact hall k h
      · exact ⟨hk, by omega⟩
  · (refine hQ _ ?_; simp only [vmA, Nat.reduceEqDiff, reduceIte, Nat.reduceAdd, Nat.reduceBEq, reduceCtorEq, Nat.reduceLT, Int.reduceLE, Int.reduceLT, Int.reduceEq, Nat.reduceMul, Nat.reduceLeDiff, Try.f55, retG, resL, St.closeVs, St.closeV])
    exact leafB ⟨fun _ k hk => hall k (by omega), fun _ => trivial⟩
theorem riP_mem {lo hi : Int} {xs : List Int} (h : riP lo hi xs) {i : Nat} (hi' : i < xs.length) : lo ≤ xs[i]! ∧ xs[i]! ≤ hi := (h i hi').1
set_option maxHeartbeats 8000000
set_option linter.unusedSimpArgs false
set_option linter.unusedVariables false
theorem f21 (xs : List Val) (c c2 : Bool) (hl : xs.length ≤ 1048576) : Fx 21 [.fro none c (xs.map vA), .fro none c2 (xs.map vA)] (.bool true) := by
  refine fn_of ⟨false, [], []⟩ Try.func21 (by kernel_rfl) rfl (by kernel_rfl) (by kernel_rfl) (Nat.le_of_ble_eq_true rfl) rfl fun Q hQ => ?_
  simp only [vmA, Nat.reduceEqDiff, reduceIte, Nat.reduceAdd, Nat.reduceBEq, reduceCtorEq, Nat.reduceLT, Int.reduceLE, Int.reduceLT, Int.reduceEq, Nat.reduceMul, Nat.reduceLeDiff, List.length_map]
  refine WT_loop (fun (i : Nat) σ => (i ≤ xs.length) ∧ σ.sl 5 = .int .i64 i ∧ σ.sl 0 = .fro none c (xs.map vA) ∧ σ.sl 1 = .fro none c2 (xs.map vA)) (fun i => xs.length - i) (0) ⟨Nat.zero_le _, by simp [put_sl, put_en, put_none, init_sl, fresh_sl, fresh_en, ent_sl, ent_en, init_en], by simp [put_sl, put_en, put_none, init_sl, fresh_sl, fresh_en, ent_sl, ent_en, init_en], by simp [put_sl, put_en, put_none, init_sl, fresh_sl, fresh_en, ent_sl, ent_en, init_en]⟩ ?_
  rintro i σ ⟨hi, e5, e0, e1⟩
  simp only [vmA, Nat.reduceEqDiff, reduceIte, Nat.reduceAdd, Nat.reduceBEq, reduceCtorEq, Nat.reduceLT, Int.reduceLE, Int.reduceLT, Int.reduceEq, Nat.reduceMul, Nat.reduceLeDiff, e5, e0, e1, vA, List.length_map]
  refine ⟨fun h => ⟨h, by omega, h, by omega, ?_⟩, fun h => ?_⟩
  · rw [wr (by omega)]
    exact ⟨i + 1, ⟨by omega, rfl⟩, by omega⟩
  · (refine hQ _ ?_; simp only [vmA, Nat.reduceEqDiff, reduceIte, Nat.reduceAdd, Nat.reduceBEq, reduceCtorEq, Nat.reduceLT, Int.reduceLE, Int.reduceLT, Int.reduceEq, Nat.reduceMul, Nat.reduceLeDiff, Try.f21, retG, resL, St.closeVs, St.closeV])
theorem f7 (xs : List (List Val)) (c c2 : Bool) (hl : xs.length ≤ 1048576) (hr : ∀ w ∈ xs, w.length ≤ 1048576) : Fx 7 [.fro none c (xs.map rA), .fro none c2 (xs.map rA)] (.bool true) := by
  refine fn_of ⟨false, [], []⟩ Try.func7 (by kernel_rfl) rfl (by kernel_rfl) (by kernel_rfl) (Nat.le_of_ble_eq_true rfl) rfl fun Q hQ => ?_
  simp only [vmA, Nat.reduceEqDiff, reduceIte, Nat.reduceAdd, Nat.reduceBEq, reduceCtorEq, Nat.reduceLT, Int.reduceLE, Int.reduceLT, Int.reduceEq, Nat.reduceMul, Nat.reduceLeDiff, List.length_map]
  refine WT_loop (fun (i : Nat) σ => (i ≤ xs.length) ∧ σ.sl 5 = .int .i64 i ∧ σ.sl 0 = .fro none c (xs.map rA) ∧ σ.sl 1 = .fro none c2 (xs.map rA)) (fun i => xs.length - i) (0) ⟨Nat.zero_le _, by simp [put_sl, put_en, put_none, init_sl, fresh_sl, fresh_en, ent_sl, ent_en, init_en], by simp [put_sl, put_en, put_none, init_sl, fresh_sl, fresh_en, ent_sl, ent_en, init_en], by simp [put_sl, put_en, put_none, init_sl, fresh_sl, fresh_en, ent_sl, ent_en, init_en]⟩ ?_
  rintro i σ ⟨hi, e5, e0, e1⟩
  simp only [vmA, Nat.reduceEqDiff, reduceIte, Nat.reduceAdd, Nat.reduceBEq, reduceCtorEq, Nat.reduceLT, Int.reduceLE, Int.reduceLT, Int.reduceEq, Nat.reduceMul, Nat.reduceLeDiff, e5, e0, e1, rA, List.length_map]
  refine ⟨fun h => ⟨h, by omega, h, by omega, callD (f21 xs[i]! false false (hr _ (by rw [getElem!_pos xs i (by omega)]; exact List.getElem_mem _))) ?_⟩, fun h => ?_⟩
  · simp only [vmA, Nat.reduceEqDiff, reduceIte, Nat.reduceAdd, Nat.reduceBEq, reduceCtorEq, Nat.reduceLT, Int.reduceLE, Int.reduceLT, Int.reduceEq, Nat.reduceMul, Nat.reduceLeDiff, e5, e0, e1, rA, List.length_map]
    rw [wr (by omega)]
    exact ⟨i + 1, ⟨by omega, rfl⟩, by omega⟩
  · (refine hQ _ ?_; simp only [vmA, Nat.reduceEqDiff, reduceIte, Nat.reduceAdd, Nat.reduceBEq, reduceCtorEq, Nat.reduceLT, Int.reduceLE, Int.reduceLT, Int.reduceEq, Nat.reduceMul, Nat.reduceLeDiff, Try.f7, retG, resL, St.closeVs, St.closeV])
set_option maxHeartbeats 8000000
set_option linter.unusedSimpArgs false
set_option linter.unusedVariables false
theorem f28 (v : Val) (hs : okV v) : Fx 28 [vA v] (.bool (decide (valP v))) := by
  refine fn_of false Try.func28 (by kernel_rfl) rfl (by kernel_rfl) (by kernel_rfl) (Nat.le_of_ble_eq_true rfl) rfl fun Q hQ => ?_
  simp only [vmA, Nat.reduceEqDiff, reduceIte, Nat.reduceAdd, Nat.reduceBEq, reduceCtorEq, Nat.reduceLT, Int.reduceLE, Int.reduceLT, Int.reduceEq, Nat.reduceMul, Nat.reduceLeDiff, vA]
  refine callD (f57 v hs) ?_
  simp only [vmA, Nat.reduceEqDiff, reduceIte, Nat.reduceAdd, Nat.reduceBEq, reduceCtorEq, Nat.reduceLT, Int.reduceLE, Int.reduceLT, Int.reduceEq, Nat.reduceMul, Nat.reduceLeDiff]
  (refine hQ _ ?_; simp only [vmA, Nat.reduceEqDiff, reduceIte, Nat.reduceAdd, Nat.reduceBEq, reduceCtorEq, Nat.reduceLT, Int.reduceLE, Int.reduceLT, Int.reduceEq, Nat.reduceMul, Nat.reduceLeDiff, Try.f28, retG, resL, St.closeVs, St.closeV])
theorem f10 : Fx 10 [] (.bool true) := by
  refine fn_of false Try.func10 (by kernel_rfl) rfl (by kernel_rfl) (by kernel_rfl) (Nat.le_of_ble_eq_true rfl) rfl fun Q hQ => ?_
  simp only [vmA, Nat.reduceEqDiff, reduceIte, Nat.reduceAdd, Nat.reduceBEq, reduceCtorEq, Nat.reduceLT, Int.reduceLE, Int.reduceLT, Int.reduceEq, Nat.reduceMul, Nat.reduceLeDiff]
  refine callD (f28 ⟨1, 3, ⟨⟨[]⟩⟩⟩ (Nat.zero_le _)) ?_
  have h1 : valP ⟨1, 3, ⟨⟨[]⟩⟩⟩ := by unfold valP; simp
  have h2 : ¬ valP ⟨9, 0, ⟨⟨[]⟩⟩⟩ := by unfold valP; simp
  simp only [vmA, Nat.reduceEqDiff, reduceIte, Nat.reduceAdd, Nat.reduceBEq, reduceCtorEq, Nat.reduceLT, Int.reduceLE, Int.reduceLT, Int.reduceEq, Nat.reduceMul, Nat.reduceLeDiff, decide_eq_true h1]
  refine callD (f28 ⟨9, 0, ⟨⟨[]⟩⟩⟩ (Nat.zero_le _)) ?_
  simp only [vmA, Nat.reduceEqDiff, reduceIte, Nat.reduceAdd, Nat.reduceBEq, reduceCtorEq, Nat.reduceLT, Int.reduceLE, Int.reduceLT, Int.reduceEq, Nat.reduceMul, Nat.reduceLeDiff, decide_eq_false h2]
  (refine hQ _ ?_; simp only [vmA, Nat.reduceEqDiff, reduceIte, Nat.reduceAdd, Nat.reduceBEq, reduceCtorEq, Nat.reduceLT, Int.reduceLE, Int.reduceLT, Int.reduceEq, Nat.reduceMul, Nat.reduceLeDiff, Try.f10, retG, resL, St.closeVs, St.closeV])
theorem leafI {k : IntKind} {a b : Int} (h : a = b) : AV.int k a = AV.int k b := by rw [h]
