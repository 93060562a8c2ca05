/- WALK of functions of the seat, or plain laws for it: each theorem f<k> says what function k returns, for every world and all arguments that stand for the values named. Conditions: none but those ahead of each theorem. -/
import Derived.Test.YtboeimkfcfdabaaWA3
import Derived.Test.YtboeimkfcfdabaaWKc
open Go Go.Vm Go.Proofs
set_option maxRecDepth 100000
set_option maxHeartbeats 8000000
set_option linter.unusedSimpArgs false
set_option linter.unusedVariables false
theorem lF {q : Prop} [Decidable q] (h : ¬ q) : AV.bool false = AV.bool (decide q) := by rw [decide_eq_false h]
theorem lT {q : Prop} [Decidable q] (h : q) : AV.bool true = AV.bool (decide q) := by rw [decide_eq_true h]
theorem lB {p q : Prop} [Decidable p] [Decidable q] (h : p ↔ q) : AV.bool (decide p) = AV.bool (decide q) := by rw [decide_eq_decide.2 h]
theorem okRm {rs : List (List Val)} (h : ∀ r ∈ rs, okR r) {i : Nat} (hi : i < rs.length) : okR rs[i]! := h _ (by rw [getElem!_pos rs i hi]; exact List.getElem_mem _)
theorem okVm {r : List Val} (h : okR r) {i : Nat} (hi : i < r.length) : okV r[i]! := h.2 _ (by rw [getElem!_pos r i hi]; exact List.getElem_mem _)
def colP (c : Col) : Prop := 1 ≤ c.k ∧ c.k ≤ 3
instance (c : Col) : Decidable (colP c) := by unfold colP; exact inferInstance
def colsP (cs : List Col) : Prop := cs.length ≤ 4 ∧ ∀ c ∈ cs, colP c
instance (cs : List Col) : Decidable (colsP cs) := by unfold colsP; exact inferInstance
theorem f83 (c : Col) : Fx 83 [cA c] (.bool (decide (¬ colP c))) := by
  refine fn_of ⟨false, [], []⟩ Try.func83 (by kernel_rfl) rfl (by kernel_rfl) (by kernel_rfl) (Nat.le_of_ble_eq_true rfl) rfl fun Q hQ => ?_
  simp only [vmA, Nat.reduceEqDiff, reduceIte, Nat.reduceAdd, Nat.reduceBEq, reduceCtorEq, Nat.reduceLT, Int.reduceLE, Int.reduceLT, Int.reduceEq, Nat.reduceMul, Nat.reduceLeDiff, cA]
  refine callD (f52 _ _ _) ?_
  simp only [vmA, Nat.reduceEqDiff, reduceIte, Nat.reduceAdd, Nat.reduceBEq, reduceCtorEq, Nat.reduceLT, Int.reduceLE, Int.reduceLT, Int.reduceEq, Nat.reduceMul, Nat.reduceLeDiff, cA]
  (refine hQ _ ?_; simp only [vmA, Nat.reduceEqDiff, reduceIte, Nat.reduceAdd, Nat.reduceBEq, reduceCtorEq, Nat.reduceLT, Int.reduceLE, Int.reduceLT, Int.reduceEq, Nat.reduceMul, Nat.reduceLeDiff, Try.f83, retG, resL, St.closeVs, St.closeV, cA])
  simp [colP]
theorem f97 (xs : List Col) (c : Bool) (hl : xs.length ≤ 9223372036854775807) : Fx 97 [.fro none c (xs.map cA), .clo 83 []] (.int .i64 (idxL (fun r => ¬ colP r) xs 0)) := by
  refine fn_of ⟨false, [], []⟩ Try.func97 (by kernel_rfl) rfl (by kernel_rfl) (by kernel_rfl) (Nat.le_of_ble_eq_true rfl) rfl fun Q hQ => ?_
  simp only [vmA, Nat.reduceEqDiff, reduceIte, Nat.reduceAdd, Nat.reduceBEq, reduceCtorEq, Nat.reduceLT, Int.reduceLE, Int.reduceLT, Int.reduceEq, Nat.reduceMul, Nat.reduceLeDiff, List.length_map]
  refine WT_loop (fun (i : Nat) σ => i ≤ xs.length ∧ σ.sl 0 = .fro none c (xs.map cA) ∧ σ.sl 1 = .clo 83 [] ∧ σ.sl 7 = .int .i64 xs.length ∧ σ.sl 8 = .int .i64 i ∧ idxL (fun r => ¬ colP r) (xs.drop i) i = idxL (fun r => ¬ colP r) xs 0) (fun i => xs.length - i) 0 ⟨by omega, by simp [put_sl, put_en, put_none, init_sl, fresh_sl, fresh_en, ent_sl, ent_en, init_en], by simp [put_sl, put_en, put_none, init_sl, fresh_sl, fresh_en, ent_sl, ent_en, init_en], by simp [put_sl, put_en, put_none, init_sl, fresh_sl, fresh_en, ent_sl, ent_en, init_en], by simp [put_sl, put_en, put_none, init_sl, fresh_sl, fresh_en, ent_sl, ent_en, init_en], by simp⟩ ?_
  rintro i σ ⟨hi, e0, e1, e7, e8, hx⟩
  simp only [vmA, Nat.reduceEqDiff, reduceIte, Nat.reduceAdd, Nat.reduceBEq, reduceCtorEq, Nat.reduceLT, Int.reduceLE, Int.reduceLT, Int.reduceEq, Nat.reduceMul, Nat.reduceLeDiff, e0, e1, e7, e8, cA, List.length_map]
  refine ⟨fun hlt => ?_, fun hge => ?_⟩
  · refine ⟨hlt, by omega, callD (f83 xs[i]!) ?_⟩
    rw [idxL_drop _ (by omega)] at hx
    simp only [vmA, Nat.reduceEqDiff, reduceIte, Nat.reduceAdd, Nat.reduceBEq, reduceCtorEq, Nat.reduceLT, Int.reduceLE, Int.reduceLT, Int.reduceEq, Nat.reduceMul, Nat.reduceLeDiff, e0, e1, e7, e8]
    refine ⟨fun hn => ?_, fun hn => ?_⟩
    · rw [if_pos hn] at hx
      (refine hQ _ ?_; simp only [vmA, Nat.reduceEqDiff, reduceIte, Nat.reduceAdd, Nat.reduceBEq, reduceCtorEq, Nat.reduceLT, Int.reduceLE, Int.reduceLT, Int.reduceEq, Nat.reduceMul, Nat.reduceLeDiff, Try.f97, retG, resL, St.closeVs, St.closeV])
      rw [hx]
    · rw [if_neg (by simpa using hn)] at hx
      rw [wr (by omega)]
      exact ⟨i + 1, ⟨by omega, rfl, hx⟩, by omega⟩
  · have : xs.drop i = [] := List.drop_of_length_le (by omega)
    rw [this, idxL] at hx
    (refine hQ _ ?_; simp only [vmA, Nat.reduceEqDiff, reduceIte, Nat.reduceAdd, Nat.reduceBEq, reduceCtorEq, Nat.reduceLT, Int.reduceLE, Int.reduceLT, Int.reduceEq, Nat.reduceMul, Nat.reduceLeDiff, Try.f97, retG, resL, St.closeVs, St.closeV])
    rw [← hx]
theorem f82 (xs : List Col) (c : Bool) (hl : xs.length ≤ 9223372036854775807) : Fx 82 [.fro none c (xs.map cA), .clo 83 []] (.bool (decide (∃ r ∈ xs, ¬ colP r))) := by
  refine fn_of ⟨false, [], []⟩ Try.func82 (by kernel_rfl) rfl (by kernel_rfl) (by kernel_rfl) (Nat.le_of_ble_eq_true rfl) rfl fun Q hQ => ?_
  simp only [vmA, Nat.reduceEqDiff, reduceIte, Nat.reduceAdd, Nat.reduceBEq, reduceCtorEq, Nat.reduceLT, Int.reduceLE, Int.reduceLT, Int.reduceEq, Nat.reduceMul, Nat.reduceLeDiff]
  refine callD (f97 xs c hl) ?_
  simp only [vmA, Nat.reduceEqDiff, reduceIte, Nat.reduceAdd, Nat.reduceBEq, reduceCtorEq, Nat.reduceLT, Int.reduceLE, Int.reduceLT, Int.reduceEq, Nat.reduceMul, Nat.reduceLeDiff]
  (refine hQ _ ?_; simp only [vmA, Nat.reduceEqDiff, reduceIte, Nat.reduceAdd, Nat.reduceBEq, reduceCtorEq, Nat.reduceLT, Int.reduceLE, Int.reduceLT, Int.reduceEq, Nat.reduceMul, Nat.reduceLeDiff, Try.f82, retG, resL, St.closeVs, St.closeV])
  exact lB (idxL_ge (fun r => ¬ colP r) xs 0 (by omega))
theorem f49 (cs : List Col) (c : Bool) (hl : cs.length ≤ 9223372036854775807) : Fx 49 [.fro none c (cs.map cA)] (.bool (decide (colsP cs))) := by
  refine fn_of ⟨false, [], []⟩ Try.func49 (by kernel_rfl) rfl (by kernel_rfl) (by kernel_rfl) (Nat.le_of_ble_eq_true rfl) rfl fun Q hQ => ?_
  simp only [vmA, Nat.reduceEqDiff, reduceIte, Nat.reduceAdd, Nat.reduceBEq, reduceCtorEq, Nat.reduceLT, Int.reduceLE, Int.reduceLT, Int.reduceEq, Nat.reduceMul, Nat.reduceLeDiff, List.length_map]
  refine ⟨fun h => callD (f82 cs c hl) ?_, fun h => ?_⟩
  · simp only [vmA, Nat.reduceEqDiff, reduceIte, Nat.reduceAdd, Nat.reduceBEq, reduceCtorEq, Nat.reduceLT, Int.reduceLE, Int.reduceLT, Int.reduceEq, Nat.reduceMul, Nat.reduceLeDiff, List.length_map]
    (refine hQ _ ?_; simp only [vmA, Nat.reduceEqDiff, reduceIte, Nat.reduceAdd, Nat.reduceBEq, reduceCtorEq, Nat.reduceLT, Int.reduceLE, Int.reduceLT, Int.reduceEq, Nat.reduceMul, Nat.reduceLeDiff, Try.f49, retG, resL, St.closeVs, St.closeV])
    refine lB ⟨fun hx => ⟨by omega, fun r hr => Classical.byContradiction fun h2 => hx ⟨r, hr, h2⟩⟩, ?_⟩
    rintro z ⟨r, hr, h2⟩
    exact h2 (z.2 r hr)
  · (refine hQ _ ?_; simp only [vmA, Nat.reduceEqDiff, reduceIte, Nat.reduceAdd, Nat.reduceBEq, reduceCtorEq, Nat.reduceLT, Int.reduceLE, Int.reduceLT, Int.reduceEq, Nat.reduceMul, Nat.reduceLeDiff, Try.f49, retG, resL, St.closeVs, St.closeV])
    exact lF fun z => h (by have := z.1; omega)
theorem f89 (cs : List Col) (c : Bool) (hl : cs.length ≤ 9223372036854775807) : Fx 89 [.fro none c (cs.map cA)] (.bool (decide (colsP cs))) := by
  refine fn_of ⟨false, [], []⟩ Try.func89 (by kernel_rfl) rfl (by kernel_rfl) (by kernel_rfl) (Nat.le_of_ble_eq_true rfl) rfl fun Q hQ => ?_
  simp only [vmA, Nat.reduceEqDiff, reduceIte, Nat.reduceAdd, Nat.reduceBEq, reduceCtorEq, Nat.reduceLT, Int.reduceLE, Int.reduceLT, Int.reduceEq, Nat.reduceMul, Nat.reduceLeDiff, List.length_map]
  refine WT_loop (fun (i : Nat) σ => (i ≤ cs.length ∧ ∀ v ∈ cs.take i, colP v) ∧ σ.sl 3 = .int .i64 i ∧ σ.sl 0 = .fro none c (cs.map cA)) (fun i => cs.length - i) (0) ⟨⟨Nat.zero_le _, by simp⟩, by simp [put_sl, put_en, put_none, init_sl, fresh_sl, fresh_en, ent_sl, ent_en, init_en], by simp [put_sl, put_en, put_none, init_sl, fresh_sl, fresh_en, ent_sl, ent_en, init_en]⟩ ?_
  rintro i σ ⟨hi, e3, e0⟩
  obtain ⟨hi, hall⟩ := hi
  simp only [vmA, Nat.reduceEqDiff, reduceIte, Nat.reduceAdd, Nat.reduceBEq, reduceCtorEq, Nat.reduceLT, Int.reduceLE, Int.reduceLT, Int.reduceEq, Nat.reduceMul, Nat.reduceLeDiff, e3, e0, cA, List.length_map]
  refine ⟨fun hlt => ⟨hlt, by omega, callD (f66 _ _ _) ?_⟩, fun hge => ?_⟩
  · simp only [vmA, Nat.reduceEqDiff, reduceIte, Nat.reduceAdd, Nat.reduceBEq, reduceCtorEq, Nat.reduceLT, Int.reduceLE, Int.reduceLT, Int.reduceEq, Nat.reduceMul, Nat.reduceLeDiff, e3, e0, List.length_map]
    refine ⟨fun hn => ?_, fun hn => ?_⟩
    · (refine hQ _ ?_; simp only [vmA, Nat.reduceEqDiff, reduceIte, Nat.reduceAdd, Nat.reduceBEq, reduceCtorEq, Nat.reduceLT, Int.reduceLE, Int.reduceLT, Int.reduceEq, Nat.reduceMul, Nat.reduceLeDiff, Try.f89, retG, resL, St.closeVs, St.closeV, e3, e0])
      exact lF fun z => hn (z.2 cs[i]! (by rw [getElem!_pos cs i (by omega)]; exact List.getElem_mem _))
    · rw [wr (by omega)]
      refine ⟨i + 1, ⟨⟨by omega, fun v hv => ?_⟩, rfl⟩, by omega⟩
      rw [List.take_succ_eq_append_getElem (by omega)] at hv
      rcases List.mem_append.1 hv with h | h
      · exact hall v h
      · have : v = cs[i]! := by rw [getElem!_pos cs i (by omega)]; simpa using h
        subst this; exact hn
  · (refine hQ _ ?_; simp only [vmA, Nat.reduceEqDiff, reduceIte, Nat.reduceAdd, Nat.reduceBEq, reduceCtorEq, Nat.reduceLT, Int.reduceLE, Int.reduceLT, Int.reduceEq, Nat.reduceMul, Nat.reduceLeDiff, Try.f89, retG, resL, St.closeVs, St.closeV, e3, e0])
    refine lB ?_
    have : ∀ v ∈ cs, colP v := fun v hv => hall v (by rw [List.take_of_length_le (by omega)]; exact hv)
    exact ⟨fun h => ⟨by omega, this⟩, fun h => by have := h.1; omega⟩
def fitAt (cs : List Col) (r : List Val) (i : Nat) : Prop := r[i]!.k = cs[i]!.k ∨ r[i]!.k = 0 ∧ cs[i]!.e = true
def fitsP (cs : List Col) (r : List Val) : Prop := colsP cs ∧ rowP r ∧ r.length = cs.length ∧ ∀ i, i < r.length → fitAt cs r i
instance (cs : List Col) (r : List Val) (i : Nat) : Decidable (fitAt cs r i) := by unfold fitAt; exact inferInstance
instance (cs : List Col) (r : List Val) : Decidable (fitsP cs r) := by unfold fitsP; exact inferInstance
theorem f54 (cs : List Col) (c : Bool) (r : List Val) (d : Bool) (hl : cs.length ≤ 9223372036854775807) (ho : okR r) : Fx 54 [.fro none c (cs.map cA), .fro none d (r.map vA)] (.bool (decide (fitsP cs r))) := by
  refine fn_of ⟨false, [], []⟩ Try.func54 (by kernel_rfl) rfl (by kernel_rfl) (by kernel_rfl) (Nat.le_of_ble_eq_true rfl) rfl fun Q hQ => ?_
  simp only [vmA, Nat.reduceEqDiff, reduceIte, Nat.reduceAdd, Nat.reduceBEq, reduceCtorEq, Nat.reduceLT, Int.reduceLE, Int.reduceLT, Int.reduceEq, Nat.reduceMul, Nat.reduceLeDiff, List.length_map]
  refine callD (f49 cs c hl) ?_
  simp only [vmA, Nat.reduceEqDiff, reduceIte, Nat.reduceAdd, Nat.reduceBEq, reduceCtorEq, Nat.reduceLT, Int.reduceLE, Int.reduceLT, Int.reduceEq, Nat.reduceMul, Nat.reduceLeDiff, List.length_map]
  refine ⟨fun g1 => ?_, fun g1 => callD (f39 r d ho.1 ho.2) ?_⟩
  · (refine hQ _ ?_; simp only [vmA, Nat.reduceEqDiff, reduceIte, Nat.reduceAdd, Nat.reduceBEq, reduceCtorEq, Nat.reduceLT, Int.reduceLE, Int.reduceLT, Int.reduceEq, Nat.reduceMul, Nat.reduceLeDiff, Try.f54, retG, resL, St.closeVs, St.closeV])
    exact lF fun z => g1 z.1
  simp only [vmA, Nat.reduceEqDiff, reduceIte, Nat.reduceAdd, Nat.reduceBEq, reduceCtorEq, Nat.reduceLT, Int.reduceLE, Int.reduceLT, Int.reduceEq, Nat.reduceMul, Nat.reduceLeDiff, List.length_map]
  refine ⟨fun g2 => ?_, fun g2 => ⟨fun g3 => ?_, fun g3 => ?_⟩⟩
  · (refine hQ _ ?_; simp only [vmA, Nat.reduceEqDiff, reduceIte, Nat.reduceAdd, Nat.reduceBEq, reduceCtorEq, Nat.reduceLT, Int.reduceLE, Int.reduceLT, Int.reduceEq, Nat.reduceMul, Nat.reduceLeDiff, Try.f54, retG, resL, St.closeVs, St.closeV])
    exact lF fun z => g2 z.2.1
  · (refine hQ _ ?_; simp only [vmA, Nat.reduceEqDiff, reduceIte, Nat.reduceAdd, Nat.reduceBEq, reduceCtorEq, Nat.reduceLT, Int.reduceLE, Int.reduceLT, Int.reduceEq, Nat.reduceMul, Nat.reduceLeDiff, Try.f54, retG, resL, St.closeVs, St.closeV])
    exact lF fun z => g3 (by have := z.2.2.1; omega)
  have hrl := g2.1
  refine WT_loop (fun (i : Nat) σ => (i ≤ r.length ∧ ∀ j, j < i → fitAt cs r j) ∧ σ.sl 24 = .int .i64 i ∧ σ.sl 23 = .int .i64 r.length ∧ σ.sl 0 = .fro none c (cs.map cA) ∧ σ.sl 22 = .fro none d (r.map vA)) (fun i => r.length - i) (0) ⟨⟨Nat.zero_le _, by omega⟩, by simp [put_sl, put_en, put_none, init_sl, fresh_sl, fresh_en, ent_sl, ent_en, init_en], by simp [put_sl, put_en, put_none, init_sl, fresh_sl, fresh_en, ent_sl, ent_en, init_en], by simp [put_sl, put_en, put_none, init_sl, fresh_sl, fresh_en, ent_sl, ent_en, init_en], by simp [put_sl, put_en, put_none, init_sl, fresh_sl, fresh_en, ent_sl, ent_en, init_en]⟩ ?_
  rintro i σ ⟨hi, e24, e23, e0, e22⟩
  obtain ⟨hi, hall⟩ := hi
  simp only [vmA, Nat.reduceEqDiff, reduceIte, Nat.reduceAdd, Nat.reduceBEq, reduceCtorEq, Nat.reduceLT, Int.reduceLE, Int.reduceLT, Int.reduceEq, Nat.reduceMul, Nat.reduceLeDiff, e24, e23, e0, e22, cA, vA, List.length_map]
  refine ⟨fun hlt => ⟨by omega, by omega, by omega, by omega, fun hne => ⟨fun hz => ?_, fun hz => ⟨by omega, by omega, ?_⟩⟩, fun he => ?_⟩, fun hge => ?_⟩
  · (refine hQ _ ?_; simp only [vmA, Nat.reduceEqDiff, reduceIte, Nat.reduceAdd, Nat.reduceBEq, reduceCtorEq, Nat.reduceLT, Int.reduceLE, Int.reduceLT, Int.reduceEq, Nat.reduceMul, Nat.reduceLeDiff, Try.f54, retG, resL, St.closeVs, St.closeV, e24, e23, e0, e22])
    exact lF fun z => (z.2.2.2 i (by omega)).elim hne fun h => hz h.1
  · cases he : cs[i]!.e
    · simp only [vmA, Nat.reduceEqDiff, reduceIte, Nat.reduceAdd, Nat.reduceBEq, reduceCtorEq, Nat.reduceLT, Int.reduceLE, Int.reduceLT, Int.reduceEq, Nat.reduceMul, Nat.reduceLeDiff, e24, e23, e0, e22, he]
      (refine hQ _ ?_; simp only [vmA, Nat.reduceEqDiff, reduceIte, Nat.reduceAdd, Nat.reduceBEq, reduceCtorEq, Nat.reduceLT, Int.reduceLE, Int.reduceLT, Int.reduceEq, Nat.reduceMul, Nat.reduceLeDiff, Try.f54, retG, resL, St.closeVs, St.closeV, e24, e23, e0, e22])
      exact lF fun z => (z.2.2.2 i (by omega)).elim hne fun h => by rw [he] at h; cases h.2
    · simp only [vmA, Nat.reduceEqDiff, reduceIte, Nat.reduceAdd, Nat.reduceBEq, reduceCtorEq, Nat.reduceLT, Int.reduceLE, Int.reduceLT, Int.reduceEq, Nat.reduceMul, Nat.reduceLeDiff, e24, e23, e0, e22, he]
      rw [wr (by omega)]
      refine ⟨i + 1, ⟨⟨by omega, fun j hj => ?_⟩, rfl⟩, by omega⟩
      rcases Nat.lt_or_eq_of_le (Nat.le_of_lt_succ hj) with h | rfl
      · exact hall j h
      · exact .inr ⟨hz, he⟩
  · rw [wr (by omega)]
    refine ⟨i + 1, ⟨⟨by omega, fun j hj => ?_⟩, rfl⟩, by omega⟩
    rcases Nat.lt_or_eq_of_le (Nat.le_of_lt_succ hj) with h | rfl
    · exact hall j h
    · exact .inl he
  · (refine hQ _ ?_; simp only [vmA, Nat.reduceEqDiff, reduceIte, Nat.reduceAdd, Nat.reduceBEq, reduceCtorEq, Nat.reduceLT, Int.reduceLE, Int.reduceLT, Int.reduceEq, Nat.reduceMul, Nat.reduceLeDiff, Try.f54, retG, resL, St.closeVs, St.closeV, e24, e23, e0, e22])
    exact lT ⟨g1, g2, by omega, fun j hj => hall j (by omega)⟩
theorem f88 (cs : List Col) (c : Bool) (r : List Val) (d : Bool) (hl : cs.length ≤ 9223372036854775807) (ho : okR r) : Fx 88 [.fro none c (cs.map cA), .fro none d (r.map vA)] (.bool (decide (fitsP cs r))) := by
  refine fn_of ⟨false, [], []⟩ Try.func88 (by kernel_rfl) rfl (by kernel_rfl) (by kernel_rfl) (Nat.le_of_ble_eq_true rfl) rfl fun Q hQ => ?_
  simp only [vmA, Nat.reduceEqDiff, reduceIte, Nat.reduceAdd, Nat.reduceBEq, reduceCtorEq, Nat.reduceLT, Int.reduceLE, Int.reduceLT, Int.reduceEq, Nat.reduceMul, Nat.reduceLeDiff, List.length_map]
  refine callD (f89 cs c hl) ?_
  simp only [vmA, Nat.reduceEqDiff, reduceIte, Nat.reduceAdd, Nat.reduceBEq, reduceCtorEq, Nat.reduceLT, Int.reduceLE, Int.reduceLT, Int.reduceEq, Nat.reduceMul, Nat.reduceLeDiff, List.length_map]
  refine ⟨fun g1 => ?_, fun g1 => callD (f65 r d ho.1 ho.2) ?_⟩
  · (refine hQ _ ?_; simp only [vmA, Nat.reduceEqDiff, reduceIte, Nat.reduceAdd, Nat.reduceBEq, reduceCtorEq, Nat.reduceLT, Int.reduceLE, Int.reduceLT, Int.reduceEq, Nat.reduceMul, Nat.reduceLeDiff, Try.f88, retG, resL, St.closeVs, St.closeV])
    exact lF fun z => g1 z.1
  simp only [vmA, Nat.reduceEqDiff, reduceIte, Nat.reduceAdd, Nat.reduceBEq, reduceCtorEq, Nat.reduceLT, Int.reduceLE, Int.reduceLT, Int.reduceEq, Nat.reduceMul, Nat.reduceLeDiff, List.length_map]
  refine ⟨fun g2 => ?_, fun g2 => ⟨fun g3 => ?_, fun g3 => ?_⟩⟩
  · (refine hQ _ ?_; simp only [vmA, Nat.reduceEqDiff, reduceIte, Nat.reduceAdd, Nat.reduceBEq, reduceCtorEq, Nat.reduceLT, Int.reduceLE, Int.reduceLT, Int.reduceEq, Nat.reduceMul, Nat.reduceLeDiff, Try.f88, retG, resL, St.closeVs, St.closeV])
    exact lF fun z => g2 z.2.1
  · (refine hQ _ ?_; simp only [vmA, Nat.reduceEqDiff, reduceIte, Nat.reduceAdd, Nat.reduceBEq, reduceCtorEq, Nat.reduceLT, Int.reduceLE, Int.reduceLT, Int.reduceEq, Nat.reduceMul, Nat.reduceLeDiff, Try.f88, retG, resL, St.closeVs, St.closeV])
    exact lF fun z => g3 (by have := z.2.2.1; omega)
  have hrl := g2.1
  refine WT_loop (fun (i : Nat) σ => (i ≤ r.length ∧ ∀ j, j < i → fitAt cs r j) ∧ σ.sl 5 = .int .i64 i ∧ σ.sl 0 = .fro none c (cs.map cA) ∧ σ.sl 1 = .fro none d (r.map vA)) (fun i => r.length - i) (0) ⟨⟨Nat.zero_le _, by omega⟩, by simp [put_sl, put_en, put_none, init_sl, fresh_sl, fresh_en, ent_sl, ent_en, init_en], by simp [put_sl, put_en, put_none, init_sl, fresh_sl, fresh_en, ent_sl, ent_en, init_en], by simp [put_sl, put_en, put_none, init_sl, fresh_sl, fresh_en, ent_sl, ent_en, init_en]⟩ ?_
  rintro i σ ⟨hi, e5, e0, e1⟩
  obtain ⟨hi, hall⟩ := hi
  simp only [vmA, Nat.reduceEqDiff, reduceIte, Nat.reduceAdd, Nat.reduceBEq, reduceCtorEq, Nat.reduceLT, Int.reduceLE, Int.reduceLT, Int.reduceEq, Nat.reduceMul, Nat.reduceLeDiff, e5, e0, e1, cA, vA, List.length_map]
  refine ⟨fun hlt => ?_, fun hge => ?_⟩
  · repeat refine ⟨by omega, ?_⟩
    refine ⟨fun hne => ?_, fun he => ?_⟩
    · repeat refine ⟨by omega, ?_⟩
      refine ⟨fun hz => ?_, fun hz => ?_⟩
      · (refine hQ _ ?_; simp only [vmA, Nat.reduceEqDiff, reduceIte, Nat.reduceAdd, Nat.reduceBEq, reduceCtorEq, Nat.reduceLT, Int.reduceLE, Int.reduceLT, Int.reduceEq, Nat.reduceMul, Nat.reduceLeDiff, Try.f88, retG, resL, St.closeVs, St.closeV, e5, e0, e1])
        exact lF fun z => (z.2.2.2 i (by omega)).elim hne fun h => hz h.1
      · repeat refine ⟨by omega, ?_⟩
        cases he : cs[i]!.e
        · simp only [vmA, Nat.reduceEqDiff, reduceIte, Nat.reduceAdd, Nat.reduceBEq, reduceCtorEq, Nat.reduceLT, Int.reduceLE, Int.reduceLT, Int.reduceEq, Nat.reduceMul, Nat.reduceLeDiff, e5, e0, e1, he]
          (refine hQ _ ?_; simp only [vmA, Nat.reduceEqDiff, reduceIte, Nat.reduceAdd, Nat.reduceBEq, reduceCtorEq, Nat.reduceLT, Int.reduceLE, Int.reduceLT, Int.reduceEq, Nat.reduceMul, Nat.reduceLeDiff, Try.f88, retG, resL, St.closeVs, St.closeV, e5, e0, e1])
          exact lF fun z => (z.2.2.2 i (by omega)).elim hne fun h => by rw [he] at h; cases h.2
        · simp only [vmA, Nat.reduceEqDiff, reduceIte, Nat.reduceAdd, Nat.reduceBEq, reduceCtorEq, Nat.reduceLT, Int.reduceLE, Int.reduceLT, Int.reduceEq, Nat.reduceMul, Nat.reduceLeDiff, e5, e0, e1, he]
          rw [wr (by omega)]
          refine ⟨i + 1, ⟨⟨by omega, fun j hj => ?_⟩, rfl⟩, by omega⟩
          rcases Nat.lt_or_eq_of_le (Nat.le_of_lt_succ hj) with h | rfl
          · exact hall j h
          · exact .inr ⟨hz, he⟩
    · rw [wr (by omega)]
      refine ⟨i + 1, ⟨⟨by omega, fun j hj => ?_⟩, rfl⟩, by omega⟩
      rcases Nat.lt_or_eq_of_le (Nat.le_of_lt_succ hj) with h | rfl
      · exact hall j h
      · exact .inl he
  · (refine hQ _ ?_; simp only [vmA, Nat.reduceEqDiff, reduceIte, Nat.reduceAdd, Nat.reduceBEq, reduceCtorEq, Nat.reduceLT, Int.reduceLE, Int.reduceLT, Int.reduceEq, Nat.reduceMul, Nat.reduceLeDiff, Try.f88, retG, resL, St.closeVs, St.closeV, e5, e0, e1])
    exact lT ⟨g1, g2, by omega, fun j hj => hall j (by omega)⟩
