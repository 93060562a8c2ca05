/- WALK of functions of the seat, or plain laws for it: each theorem f<k> says what function k returns, for every world and all arguments that stand for the values named. Conditions: none but those ahead of each theorem. -/
import Derived.Test.YtboeimkfcfdabaaWK2
open Go Go.Vm Go.Proofs
set_option maxRecDepth 100000
set_option maxHeartbeats 8000000
set_option linter.unusedSimpArgs false
set_option linter.unusedVariables false
def allP (cs : List Col) (rs : List (List Val)) : Prop := colsP cs ∧ ∀ r ∈ rs, fitsP cs r
instance (cs : List Col) (rs : List (List Val)) : Decidable (allP cs rs) := by unfold allP; exact inferInstance
theorem f53 (r : List Val) (d : Bool) (cs : List Col) (c2 : Bool) (hl : cs.length ≤ 9223372036854775807) (ho : okR r) : Fx 53 [.fro none d (r.map vA), .cptr none [.fro none c2 (cs.map cA)]] (.bool (decide (¬ fitsP cs r))) := by
  refine fn_of ⟨false, [], []⟩ Try.func53 (by kernel_rfl) rfl (by kernel_rfl) (by kernel_rfl) (Nat.le_of_ble_eq_true rfl) rfl fun Q hQ => ?_
  simp only [vmA, Nat.reduceEqDiff, reduceIte, Nat.reduceAdd, Nat.reduceBEq, reduceCtorEq, Nat.reduceLT, Int.reduceLE, Int.reduceLT, Int.reduceEq, Nat.reduceMul, Nat.reduceLeDiff]
  refine callD (f54 cs c2 r d hl ho) ?_
  simp only [vmA, Nat.reduceEqDiff, reduceIte, Nat.reduceAdd, Nat.reduceBEq, reduceCtorEq, Nat.reduceLT, Int.reduceLE, Int.reduceLT, Int.reduceEq, Nat.reduceMul, Nat.reduceLeDiff]
  (refine hQ _ ?_; simp only [vmA, Nat.reduceEqDiff, reduceIte, Nat.reduceAdd, Nat.reduceBEq, reduceCtorEq, Nat.reduceLT, Int.reduceLE, Int.reduceLT, Int.reduceEq, Nat.reduceMul, Nat.reduceLeDiff, Try.f53, retG, resL, St.closeVs, St.closeV])
theorem f75w (cs : List Col) (c2 : Bool) (hc : cs.length ≤ 9223372036854775807) (xs : List (List Val)) (c : Bool) (hl : xs.length ≤ 9223372036854775807) (hs : ∀ r ∈ xs, okR r) : Fx 75 [.fro none c (xs.map rA), .clo 53 [.cptr none [.fro none c2 (cs.map cA)]]] (.int .i64 (idxL (fun r => ¬ fitsP cs r) xs 0)) := by
  refine fn_of ⟨false, [], []⟩ Try.func75 (by kernel_rfl) rfl (by kernel_rfl) (by kernel_rfl) (Nat.le_of_ble_eq_true rfl) rfl fun Q hQ => ?_
  simp only [vmA, Nat.reduceEqDiff, reduceIte, Nat.reduceAdd, Nat.reduceBEq, reduceCtorEq, Nat.reduceLT, Int.reduceLE, Int.reduceLT, Int.reduceEq, Nat.reduceMul, Nat.reduceLeDiff, List.length_map]
  refine WT_loop (fun (i : Nat) σ => i ≤ xs.length ∧ σ.sl 0 = .fro none c (xs.map rA) ∧ σ.sl 1 = .clo 53 [.cptr none [.fro none c2 (cs.map cA)]] ∧ σ.sl 7 = .int .i64 xs.length ∧ σ.sl 8 = .int .i64 i ∧ idxL (fun r => ¬ fitsP cs r) (xs.drop i) i = idxL (fun r => ¬ fitsP cs r) xs 0) (fun i => xs.length - i) 0 ⟨by omega, by simp [put_sl, put_en, put_none, init_sl, fresh_sl, fresh_en, ent_sl, ent_en, init_en], by simp [put_sl, put_en, put_none, init_sl, fresh_sl, fresh_en, ent_sl, ent_en, init_en], by simp [put_sl, put_en, put_none, init_sl, fresh_sl, fresh_en, ent_sl, ent_en, init_en], by simp [put_sl, put_en, put_none, init_sl, fresh_sl, fresh_en, ent_sl, ent_en, init_en], by simp⟩ ?_
  rintro i σ ⟨hi, e0, e1, e7, e8, hx⟩
  simp only [vmA, Nat.reduceEqDiff, reduceIte, Nat.reduceAdd, Nat.reduceBEq, reduceCtorEq, Nat.reduceLT, Int.reduceLE, Int.reduceLT, Int.reduceEq, Nat.reduceMul, Nat.reduceLeDiff, e0, e1, e7, e8, rA, List.length_map]
  refine ⟨fun hlt => ?_, fun hge => ?_⟩
  · refine ⟨hlt, by omega, callD (f53 xs[i]! false cs c2 hc (okRm hs (by omega))) ?_⟩
    rw [idxL_drop _ (by omega)] at hx
    simp only [vmA, Nat.reduceEqDiff, reduceIte, Nat.reduceAdd, Nat.reduceBEq, reduceCtorEq, Nat.reduceLT, Int.reduceLE, Int.reduceLT, Int.reduceEq, Nat.reduceMul, Nat.reduceLeDiff, e0, e1, e7, e8]
    refine ⟨fun hn => ?_, fun hn => ?_⟩
    · rw [if_pos hn] at hx
      (refine hQ _ ?_; simp only [vmA, Nat.reduceEqDiff, reduceIte, Nat.reduceAdd, Nat.reduceBEq, reduceCtorEq, Nat.reduceLT, Int.reduceLE, Int.reduceLT, Int.reduceEq, Nat.reduceMul, Nat.reduceLeDiff, Try.f75, retG, resL, St.closeVs, St.closeV])
      rw [hx]
    · rw [if_neg (by simpa using hn)] at hx
      rw [wr (by omega)]
      exact ⟨i + 1, ⟨by omega, rfl, hx⟩, by omega⟩
  · have : xs.drop i = [] := List.drop_of_length_le (by omega)
    rw [this, idxL] at hx
    (refine hQ _ ?_; simp only [vmA, Nat.reduceEqDiff, reduceIte, Nat.reduceAdd, Nat.reduceBEq, reduceCtorEq, Nat.reduceLT, Int.reduceLE, Int.reduceLT, Int.reduceEq, Nat.reduceMul, Nat.reduceLeDiff, Try.f75, retG, resL, St.closeVs, St.closeV])
    rw [← hx]
theorem f37w (cs : List Col) (c2 : Bool) (hc : cs.length ≤ 9223372036854775807) (xs : List (List Val)) (c : Bool) (hl : xs.length ≤ 9223372036854775807) (hs : ∀ r ∈ xs, okR r) : Fx 37 [.fro none c (xs.map rA), .clo 53 [.cptr none [.fro none c2 (cs.map cA)]]] (.bool (decide (∃ r ∈ xs, ¬ fitsP cs r))) := by
  refine fn_of ⟨false, [], []⟩ Try.func37 (by kernel_rfl) rfl (by kernel_rfl) (by kernel_rfl) (Nat.le_of_ble_eq_true rfl) rfl fun Q hQ => ?_
  simp only [vmA, Nat.reduceEqDiff, reduceIte, Nat.reduceAdd, Nat.reduceBEq, reduceCtorEq, Nat.reduceLT, Int.reduceLE, Int.reduceLT, Int.reduceEq, Nat.reduceMul, Nat.reduceLeDiff]
  refine callD (f75w cs c2 hc xs c hl hs) ?_
  simp only [vmA, Nat.reduceEqDiff, reduceIte, Nat.reduceAdd, Nat.reduceBEq, reduceCtorEq, Nat.reduceLT, Int.reduceLE, Int.reduceLT, Int.reduceEq, Nat.reduceMul, Nat.reduceLeDiff]
  (refine hQ _ ?_; simp only [vmA, Nat.reduceEqDiff, reduceIte, Nat.reduceAdd, Nat.reduceBEq, reduceCtorEq, Nat.reduceLT, Int.reduceLE, Int.reduceLT, Int.reduceEq, Nat.reduceMul, Nat.reduceLeDiff, Try.f37, retG, resL, St.closeVs, St.closeV])
  exact lB (idxL_ge (fun r => ¬ fitsP cs r) xs 0 (by omega))
theorem f21 (cs : List Col) (c : Bool) (rs : List (List Val)) (d : Bool) (hc : cs.length ≤ 9223372036854775807) (hl : rs.length ≤ 9223372036854775807) (hs : ∀ r ∈ rs, okR r) : Fx 21 [.fro none c (cs.map cA), .fro none d (rs.map rA)] (.bool (decide (allP cs rs))) := by
  refine fn_of ⟨false, [], []⟩ Try.func21 (by kernel_rfl) rfl (by kernel_rfl) (by kernel_rfl) (Nat.le_of_ble_eq_true rfl) rfl fun Q hQ => ?_
  simp only [vmA, Nat.reduceEqDiff, reduceIte, Nat.reduceAdd, Nat.reduceBEq, reduceCtorEq, Nat.reduceLT, Int.reduceLE, Int.reduceLT, Int.reduceEq, Nat.reduceMul, Nat.reduceLeDiff, captureL, capture, get_tmp, Option.bind_none]
  refine callD (f49 cs c hc) ?_
  simp only [vmA, Nat.reduceEqDiff, reduceIte, Nat.reduceAdd, Nat.reduceBEq, reduceCtorEq, Nat.reduceLT, Int.reduceLE, Int.reduceLT, Int.reduceEq, Nat.reduceMul, Nat.reduceLeDiff, captureL, capture, get_tmp, Option.bind_none]
  refine ⟨fun g1 => callD (f37w cs c hc rs d hl hs) ?_, fun g1 => ?_⟩
  · simp only [vmA, Nat.reduceEqDiff, reduceIte, Nat.reduceAdd, Nat.reduceBEq, reduceCtorEq, Nat.reduceLT, Int.reduceLE, Int.reduceLT, Int.reduceEq, Nat.reduceMul, Nat.reduceLeDiff]
    (refine hQ _ ?_; simp only [vmA, Nat.reduceEqDiff, reduceIte, Nat.reduceAdd, Nat.reduceBEq, reduceCtorEq, Nat.reduceLT, Int.reduceLE, Int.reduceLT, Int.reduceEq, Nat.reduceMul, Nat.reduceLeDiff, Try.f21, retG, resL, St.closeVs, St.closeV])
    refine lB ⟨fun hx => ⟨g1, fun r hr => Classical.byContradiction fun h2 => hx ⟨r, hr, h2⟩⟩, ?_⟩
    rintro z ⟨r, hr, h2⟩
    exact h2 (z.2 r hr)
  · (refine hQ _ ?_; simp only [vmA, Nat.reduceEqDiff, reduceIte, Nat.reduceAdd, Nat.reduceBEq, reduceCtorEq, Nat.reduceLT, Int.reduceLE, Int.reduceLT, Int.reduceEq, Nat.reduceMul, Nat.reduceLeDiff, Try.f21, retG, resL, St.closeVs, St.closeV])
    exact lF fun z => g1 z.1
theorem f67 (cs : List Col) (c : Bool) (rs : List (List Val)) (d : Bool) (hc : cs.length ≤ 9223372036854775807) (hl : rs.length ≤ 9223372036854775807) (hs : ∀ r ∈ rs, okR r) : Fx 67 [.fro none c (cs.map cA), .fro none d (rs.map rA)] (.bool (decide (allP cs rs))) := by
  refine fn_of ⟨false, [], []⟩ Try.func67 (by kernel_rfl) rfl (by kernel_rfl) (by kernel_rfl) (Nat.le_of_ble_eq_true rfl) rfl fun Q hQ => ?_
  simp only [vmA, Nat.reduceEqDiff, reduceIte, Nat.reduceAdd, Nat.reduceBEq, reduceCtorEq, Nat.reduceLT, Int.reduceLE, Int.reduceLT, Int.reduceEq, Nat.reduceMul, Nat.reduceLeDiff, List.length_map]
  refine WT_loop (fun (i : Nat) σ => (i ≤ rs.length ∧ ∀ v ∈ rs.take i, fitsP cs v) ∧ σ.sl 5 = .int .i64 i ∧ σ.sl 0 = .fro none c (cs.map cA) ∧ σ.sl 1 = .fro none d (rs.map rA)) (fun i => rs.length - i) (0) ⟨⟨Nat.zero_le _, by simp⟩, by simp [put_sl, put_en, put_none, init_sl, fresh_sl, fresh_en, ent_sl, ent_en, init_en], by simp [put_sl, put_en, put_none, init_sl, fresh_sl, fresh_en, ent_sl, ent_en, init_en], by simp [put_sl, put_en, put_none, init_sl, fresh_sl, fresh_en, ent_sl, ent_en, init_en]⟩ ?_
  rintro i σ ⟨hi, e5, e0, e1⟩
  obtain ⟨hi, hall⟩ := hi
  simp only [vmA, Nat.reduceEqDiff, reduceIte, Nat.reduceAdd, Nat.reduceBEq, reduceCtorEq, Nat.reduceLT, Int.reduceLE, Int.reduceLT, Int.reduceEq, Nat.reduceMul, Nat.reduceLeDiff, e5, e0, e1, rA, List.length_map]
  refine ⟨fun hlt => ⟨hlt, by omega, callD (f88 cs c rs[i]! false hc (okRm hs (by omega))) ?_⟩, fun hge => callD (f89 cs c hc) ?_⟩
  · simp only [vmA, Nat.reduceEqDiff, reduceIte, Nat.reduceAdd, Nat.reduceBEq, reduceCtorEq, Nat.reduceLT, Int.reduceLE, Int.reduceLT, Int.reduceEq, Nat.reduceMul, Nat.reduceLeDiff, e5, e0, e1, List.length_map]
    refine ⟨fun hn => ?_, fun hn => ?_⟩
    · (refine hQ _ ?_; simp only [vmA, Nat.reduceEqDiff, reduceIte, Nat.reduceAdd, Nat.reduceBEq, reduceCtorEq, Nat.reduceLT, Int.reduceLE, Int.reduceLT, Int.reduceEq, Nat.reduceMul, Nat.reduceLeDiff, Try.f67, retG, resL, St.closeVs, St.closeV, e5, e0, e1])
      exact lF fun z => hn (z.2 rs[i]! (by rw [getElem!_pos rs i (by omega)]; exact List.getElem_mem _))
    · rw [wr (by omega)]
      refine ⟨i + 1, ⟨⟨by omega, fun v hv => ?_⟩, rfl⟩, by omega⟩
      rw [List.take_succ_eq_append_getElem (by omega)] at hv
      rcases List.mem_append.1 hv with h | h
      · exact hall v h
      · have : v = rs[i]! := by rw [getElem!_pos rs i (by omega)]; simpa using h
        subst this; exact hn
  · simp only [vmA, Nat.reduceEqDiff, reduceIte, Nat.reduceAdd, Nat.reduceBEq, reduceCtorEq, Nat.reduceLT, Int.reduceLE, Int.reduceLT, Int.reduceEq, Nat.reduceMul, Nat.reduceLeDiff, e5, e0, e1, List.length_map]
    (refine hQ _ ?_; simp only [vmA, Nat.reduceEqDiff, reduceIte, Nat.reduceAdd, Nat.reduceBEq, reduceCtorEq, Nat.reduceLT, Int.reduceLE, Int.reduceLT, Int.reduceEq, Nat.reduceMul, Nat.reduceLeDiff, Try.f67, retG, resL, St.closeVs, St.closeV, e5, e0, e1])
    have : ∀ v ∈ rs, fitsP cs v := fun v hv => hall v (by rw [List.take_of_length_le (by omega)]; exact hv)
    exact lB ⟨fun h => ⟨h, this⟩, fun h => h.1⟩
theorem f51 (n : Int) (cs : List Col) (c2 : Bool) (hc : cs.length ≤ 1048576) : Fx 51 [.int .i64 n, .cptr none [.fro none c2 (cs.map cA)]] (.bool (decide (¬ (0 ≤ n ∧ n < cs.length)))) := by
  refine fn_of ⟨false, [], []⟩ Try.func51 (by kernel_rfl) rfl (by kernel_rfl) (by kernel_rfl) (Nat.le_of_ble_eq_true rfl) rfl fun Q hQ => ?_
  simp only [vmA, Nat.reduceEqDiff, reduceIte, Nat.reduceAdd, Nat.reduceBEq, reduceCtorEq, Nat.reduceLT, Int.reduceLE, Int.reduceLT, Int.reduceEq, Nat.reduceMul, Nat.reduceLeDiff, List.length_map]
  rw [wr (by omega)]
  refine callD (f52 _ _ _) ?_
  simp only [vmA, Nat.reduceEqDiff, reduceIte, Nat.reduceAdd, Nat.reduceBEq, reduceCtorEq, Nat.reduceLT, Int.reduceLE, Int.reduceLT, Int.reduceEq, Nat.reduceMul, Nat.reduceLeDiff]
  (refine hQ _ ?_; simp only [vmA, Nat.reduceEqDiff, reduceIte, Nat.reduceAdd, Nat.reduceBEq, reduceCtorEq, Nat.reduceLT, Int.reduceLE, Int.reduceLT, Int.reduceEq, Nat.reduceMul, Nat.reduceLeDiff, Try.f51, retG, resL, St.closeVs, St.closeV])
  exact lB ⟨fun h h2 => h ⟨h2.1, by omega⟩, fun h h2 => h ⟨h2.1, by omega⟩⟩
theorem f84 (cs : List Col) (c2 : Bool) (hc : cs.length ≤ 1048576) (xs : List Int) (c : Bool) (hl : xs.length ≤ 9223372036854775807) : Fx 84 [.fro none c (xs.map iA), .clo 51 [.cptr none [.fro none c2 (cs.map cA)]]] (.int .i64 (idxL (fun r : Int => ¬ (0 ≤ r ∧ r < cs.length)) xs 0)) := by
  refine fn_of ⟨false, [], []⟩ Try.func84 (by kernel_rfl) rfl (by kernel_rfl) (by kernel_rfl) (Nat.le_of_ble_eq_true rfl) rfl fun Q hQ => ?_
  simp only [vmA, Nat.reduceEqDiff, reduceIte, Nat.reduceAdd, Nat.reduceBEq, reduceCtorEq, Nat.reduceLT, Int.reduceLE, Int.reduceLT, Int.reduceEq, Nat.reduceMul, Nat.reduceLeDiff, List.length_map]
  refine WT_loop (fun (i : Nat) σ => i ≤ xs.length ∧ σ.sl 0 = .fro none c (xs.map iA) ∧ σ.sl 1 = .clo 51 [.cptr none [.fro none c2 (cs.map cA)]] ∧ σ.sl 7 = .int .i64 xs.length ∧ σ.sl 8 = .int .i64 i ∧ idxL (fun r : Int => ¬ (0 ≤ r ∧ r < cs.length)) (xs.drop i) i = idxL (fun r : Int => ¬ (0 ≤ r ∧ r < cs.length)) xs 0) (fun i => xs.length - i) 0 ⟨by omega, by simp [put_sl, put_en, put_none, init_sl, fresh_sl, fresh_en, ent_sl, ent_en, init_en], by simp [put_sl, put_en, put_none, init_sl, fresh_sl, fresh_en, ent_sl, ent_en, init_en], by simp [put_sl, put_en, put_none, init_sl, fresh_sl, fresh_en, ent_sl, ent_en, init_en], by simp [put_sl, put_en, put_none, init_sl, fresh_sl, fresh_en, ent_sl, ent_en, init_en], by simp⟩ ?_
  rintro i σ ⟨hi, e0, e1, e7, e8, hx⟩
  simp only [vmA, Nat.reduceEqDiff, reduceIte, Nat.reduceAdd, Nat.reduceBEq, reduceCtorEq, Nat.reduceLT, Int.reduceLE, Int.reduceLT, Int.reduceEq, Nat.reduceMul, Nat.reduceLeDiff, e0, e1, e7, e8, iA, List.length_map]
  refine ⟨fun hlt => ?_, fun hge => ?_⟩
  · refine ⟨hlt, by omega, callD (f51 xs[i]! cs c2 hc) ?_⟩
    rw [idxL_drop _ (by omega)] at hx
    simp only [vmA, Nat.reduceEqDiff, reduceIte, Nat.reduceAdd, Nat.reduceBEq, reduceCtorEq, Nat.reduceLT, Int.reduceLE, Int.reduceLT, Int.reduceEq, Nat.reduceMul, Nat.reduceLeDiff, e0, e1, e7, e8]
    refine ⟨fun hn => ?_, fun hn => ?_⟩
    · rw [if_pos hn] at hx
      (refine hQ _ ?_; simp only [vmA, Nat.reduceEqDiff, reduceIte, Nat.reduceAdd, Nat.reduceBEq, reduceCtorEq, Nat.reduceLT, Int.reduceLE, Int.reduceLT, Int.reduceEq, Nat.reduceMul, Nat.reduceLeDiff, Try.f84, retG, resL, St.closeVs, St.closeV])
      rw [hx]
    · rw [if_neg (by simpa using hn)] at hx
      rw [wr (by omega)]
      exact ⟨i + 1, ⟨by omega, rfl, hx⟩, by omega⟩
  · have : xs.drop i = [] := List.drop_of_length_le (by omega)
    rw [this, idxL] at hx
    (refine hQ _ ?_; simp only [vmA, Nat.reduceEqDiff, reduceIte, Nat.reduceAdd, Nat.reduceBEq, reduceCtorEq, Nat.reduceLT, Int.reduceLE, Int.reduceLT, Int.reduceEq, Nat.reduceMul, Nat.reduceLeDiff, Try.f84, retG, resL, St.closeVs, St.closeV])
    rw [← hx]
theorem f50 (cs : List Col) (c2 : Bool) (hc : cs.length ≤ 1048576) (xs : List Int) (c : Bool) (hl : xs.length ≤ 9223372036854775807) : Fx 50 [.fro none c (xs.map iA), .clo 51 [.cptr none [.fro none c2 (cs.map cA)]]] (.bool (decide (∃ r ∈ xs, ¬ (0 ≤ r ∧ r < cs.length)))) := by
  refine fn_of ⟨false, [], []⟩ Try.func50 (by kernel_rfl) rfl (by kernel_rfl) (by kernel_rfl) (Nat.le_of_ble_eq_true rfl) rfl fun Q hQ => ?_
  simp only [vmA, Nat.reduceEqDiff, reduceIte, Nat.reduceAdd, Nat.reduceBEq, reduceCtorEq, Nat.reduceLT, Int.reduceLE, Int.reduceLT, Int.reduceEq, Nat.reduceMul, Nat.reduceLeDiff]
  refine callD (f84 cs c2 hc xs c hl) ?_
  simp only [vmA, Nat.reduceEqDiff, reduceIte, Nat.reduceAdd, Nat.reduceBEq, reduceCtorEq, Nat.reduceLT, Int.reduceLE, Int.reduceLT, Int.reduceEq, Nat.reduceMul, Nat.reduceLeDiff]
  (refine hQ _ ?_; simp only [vmA, Nat.reduceEqDiff, reduceIte, Nat.reduceAdd, Nat.reduceBEq, reduceCtorEq, Nat.reduceLT, Int.reduceLE, Int.reduceLT, Int.reduceEq, Nat.reduceMul, Nat.reduceLeDiff, Try.f50, retG, resL, St.closeVs, St.closeV])
  exact lB (idxL_ge (fun r : Int => ¬ (0 ≤ r ∧ r < cs.length)) xs 0 (by omega))
