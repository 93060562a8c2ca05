/- WALK of functions of the seat, or plain laws for it: each theorem f<k> says what function k returns, for every world and all arguments that stand for the values named. Conditions: none but those ahead of each theorem. -/
import Derived.Test.YtickagjmjlnabaaGreatXN2
open Go Go.Vm Go.Proofs
set_option maxRecDepth 100000
set_option maxHeartbeats 8000000
set_option linter.unusedSimpArgs false
set_option linter.unusedVariables false
/-- It is there at the time. -/
def liveAt (key t : Int) (v : Ver) : Prop := v.key = key ∧ v.born ≤ t ∧ (v.died = 0 ∨ t < v.died)
instance (key t : Int) (v : Ver) : Decidable (liveAt key t v) := by unfold liveAt; exact inferInstance
def seenV (vs : List Ver) (key t : Int) : AV := match vs.find? (fun v => decide (liveAt key t v)) with
  | some v => .tup [gA v, .bool true]
  | none => .tup [.agg [.int .i64 0, .int .i64 0, .int .i64 0, .fro none true []], .bool false]
theorem find_none {α : Type} [Inhabited α] (p : α → Bool) (vs : List α) (h : ∀ j, j < vs.length → p vs[j]! = false) : vs.find? p = none := by
  rw [List.find?_eq_none]
  intro x hx
  obtain ⟨j, hj, rfl⟩ := List.mem_iff_getElem.1 hx
  have := h j hj
  rw [getElem!_pos vs j hj] at this
  simp [this]
theorem find_some {α : Type} [Inhabited α] (p : α → Bool) : ∀ (vs : List α) (i : Nat), i < vs.length → (∀ j, j < i → p vs[j]! = false) → p vs[i]! = true → vs.find? p = some vs[i]!
  | [], i, h, _, _ => by simp at h
  | x :: xs, 0, _, _, h => by
    have : p x = true := by simpa using h
    simp only [List.find?_cons, this]
    rfl
  | x :: xs, i + 1, hl, h1, h2 => by
    have h0 := h1 0 (by omega)
    simp only [List.find?_cons]
    have : p x = false := by simpa using h0
    rw [this]
    have := find_some p xs i (by simpa using hl) (fun j hj => by simpa using h1 (j + 1) (by omega)) (by simpa using h2)
    simpa using this
theorem f28 (vs : List Ver) (c : Bool) (hl : vs.length ≤ 1048576) (key t : Int) : Fx 28 [.fro none c (vs.map gA), .int .i64 key, .int .i64 t] (seenV vs key t) := by
  refine fn_of ⟨false, [], []⟩ Tryz.func28 (by kernel_rfl) rfl (by kernel_rfl) (by kernel_rfl) (Nat.le_of_ble_eq_true rfl) rfl fun Q hQ => ?_
  simp only [vmA, Nat.reduceEqDiff, reduceIte, Nat.reduceAdd, Nat.reduceBEq, reduceCtorEq, Nat.reduceLT, Int.reduceLE, Int.reduceLT, Int.reduceEq, Nat.reduceMul, Nat.reduceLeDiff, List.length_map]
  refine WT_loop (fun (i : Nat) σ => (i ≤ vs.length ∧ (∀ j, j < i → decide (liveAt key t vs[j]!) = false)) ∧ σ.sl 12 = .int .i64 i ∧ σ.sl 11 = .int .i64 vs.length ∧ σ.sl 10 = .fro none c (vs.map gA) ∧ σ.sl 7 = .bool false ∧ σ.sl 6 = .ptr 384 1 0 0 ∧ σ.sl 1 = .int .i64 key ∧ σ.sl 2 = .int .i64 t ∧ (σ.en 384).live = true ∧ (σ.en 384).gen = 1 ∧ (σ.en 384).frz = false ∧ (σ.en 384).sz = 4 ∧ (σ.en 384).elems = [.agg [.int .i64 0, .int .i64 0, .int .i64 0, .fro none true []]]) (fun i => vs.length - i) (0) ⟨⟨Nat.zero_le _, by omega⟩, by simp [put_sl, put_en, put_none, init_sl, fresh_sl, fresh_en, ent_sl, ent_en, init_en], by simp [put_sl, put_en, put_none, init_sl, fresh_sl, fresh_en, ent_sl, ent_en, init_en], by simp [put_sl, put_en, put_none, init_sl, fresh_sl, fresh_en, ent_sl, ent_en, init_en], by simp [put_sl, put_en, put_none, init_sl, fresh_sl, fresh_en, ent_sl, ent_en, init_en], by simp [put_sl, put_en, put_none, init_sl, fresh_sl, fresh_en, ent_sl, ent_en, init_en], by simp [put_sl, put_en, put_none, init_sl, fresh_sl, fresh_en, ent_sl, ent_en, init_en], by simp [put_sl, put_en, put_none, init_sl, fresh_sl, fresh_en, ent_sl, ent_en, init_en], by simp [put_sl, put_en, put_none, init_sl, fresh_sl, fresh_en, ent_sl, ent_en, init_en], by simp [put_sl, put_en, put_none, init_sl, fresh_sl, fresh_en, ent_sl, ent_en, init_en], by simp [put_sl, put_en, put_none, init_sl, fresh_sl, fresh_en, ent_sl, ent_en, init_en], by simp [put_sl, put_en, put_none, init_sl, fresh_sl, fresh_en, ent_sl, ent_en, init_en], by simp [put_sl, put_en, put_none, init_sl, fresh_sl, fresh_en, ent_sl, ent_en, init_en]⟩ ?_
  rintro i σ ⟨hi, e12, e11, e10, e7, e6, e1, e2, m384a, m384b, m384c, m384d, m384e⟩
  simp only [vmA, Nat.reduceEqDiff, reduceIte, Nat.reduceAdd, Nat.reduceBEq, reduceCtorEq, Nat.reduceLT, Int.reduceLE, Int.reduceLT, Int.reduceEq, Nat.reduceMul, Nat.reduceLeDiff, e12, e11, e10, e7, e6, e1, e2, m384a, m384b, m384c, m384d, m384e, gA, List.length_map]
  have go : ¬ liveAt key t vs[i]! → ∀ j, j < i + 1 → decide (liveAt key t vs[j]!) = false := fun hn j hj => by
    by_cases hji : j = i
    · rw [hji]; exact decide_eq_false hn
    · exact hi.2 j (by omega)
  refine ⟨fun h => ⟨h, by omega, ⟨fun hk => ⟨fun hb => ⟨fun hd => ?_, fun hd => ⟨fun hd2 => ?_, fun hd2 => ?_⟩⟩, fun hb => ?_⟩, fun hk => ?_⟩⟩, fun h => ?_⟩
  · (refine hQ _ ?_; simp only [vmA, Nat.reduceEqDiff, reduceIte, Nat.reduceAdd, Nat.reduceBEq, reduceCtorEq, Nat.reduceLT, Int.reduceLE, Int.reduceLT, Int.reduceEq, Nat.reduceMul, Nat.reduceLeDiff, Tryz.f28, retG, resL, St.closeVs, St.closeV, e12, e11, e10, e7, e6, e1, e2, m384a, m384b, m384c, m384d, m384e])
    rw [seenV, find_some _ vs i (by omega) hi.2 (decide_eq_true ⟨hk, hb, .inl hd⟩)]
    rfl
  · (refine hQ _ ?_; simp only [vmA, Nat.reduceEqDiff, reduceIte, Nat.reduceAdd, Nat.reduceBEq, reduceCtorEq, Nat.reduceLT, Int.reduceLE, Int.reduceLT, Int.reduceEq, Nat.reduceMul, Nat.reduceLeDiff, Tryz.f28, retG, resL, St.closeVs, St.closeV, e12, e11, e10, e7, e6, e1, e2, m384a, m384b, m384c, m384d, m384e])
    rw [seenV, find_some _ vs i (by omega) hi.2 (decide_eq_true ⟨hk, hb, .inr (by omega)⟩)]
    rfl
  · rw [wr (by omega)]
    exact ⟨i + 1, ⟨⟨by omega, fun j hj => of_decide_eq_false (go (fun hn => by have := hn.2.2; omega) j hj)⟩, rfl⟩, by omega⟩
  · rw [wr (by omega)]
    exact ⟨i + 1, ⟨⟨by omega, fun j hj => of_decide_eq_false (go (fun hn => hb hn.2.1) j hj)⟩, rfl⟩, by omega⟩
  · rw [wr (by omega)]
    exact ⟨i + 1, ⟨⟨by omega, fun j hj => of_decide_eq_false (go (fun hn => hk hn.1) j hj)⟩, rfl⟩, by omega⟩
  · (refine hQ _ ?_; simp only [vmA, Nat.reduceEqDiff, reduceIte, Nat.reduceAdd, Nat.reduceBEq, reduceCtorEq, Nat.reduceLT, Int.reduceLE, Int.reduceLT, Int.reduceEq, Nat.reduceMul, Nat.reduceLeDiff, Tryz.f28, retG, resL, St.closeVs, St.closeV, e12, e11, e10, e7, e6, e1, e2, m384a, m384b, m384c, m384d, m384e])
    obtain rfl : i = vs.length := by have := hi.1; omega
    rw [seenV, find_none _ vs hi.2]
