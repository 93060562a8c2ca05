/- WALK of functions of the seat, or plain laws for it: each theorem f<k> says what function k returns, for every world and all arguments that stand for the values named. Conditions: none but those ahead of each theorem. -/
import Derived.Test.YtklhdnjhgbglhaaGreatVEA
open Go Go.Vm Go.Proofs
set_option maxRecDepth 100000
set_option maxHeartbeats 8000000
set_option linter.unusedSimpArgs false
set_option linter.unusedVariables false
/-- A key that is written was turned since. -/
def lateW (h : Hs) (t : Tx) (k : Int) : Prop := t.bg < lastV h.vs k 0 ∨ ∃ u ∈ h.tx, u.st = 2 ∧ t.bg < u.fn ∧ hasW u.ws k
instance (h : Hs) (t : Tx) (k : Int) : Decidable (lateW h t k) := by unfold lateW; exact inferInstance
def lateP (h : Hs) (t : Tx) : Prop := ∃ w ∈ t.ws, lateW h t w.key
instance (h : Hs) (t : Tx) : Decidable (lateP h t) := by unfold lateP; exact inferInstance
theorem f220 (u t : Tx) (w : Wr) (hu : okX u) : Fx 220 [xA u, xC t, wC w] (.bool (decide (u.st = 2 ∧ t.bg < u.fn ∧ hasW u.ws w.key))) := by
  refine fn_of ⟨false, [], []⟩ Tryz.func220 (by kernel_rfl) rfl (by kernel_rfl) (by kernel_rfl) (Nat.le_of_ble_eq_true rfl) rfl fun Q hQ => ?_
  simp only [vmA, Nat.reduceEqDiff, reduceIte, Nat.reduceAdd, Nat.reduceBEq, reduceCtorEq, Nat.reduceLT, Int.reduceLE, Int.reduceLT, Int.reduceEq, Nat.reduceMul, Nat.reduceLeDiff, xA, xC, wC]
  refine ⟨fun h1 => ⟨fun h2 => ?_, fun h2 => ?_⟩, fun h1 => ?_⟩
  · refine callD (f113 u w.key hu) ?_
    simp only [vmA, Nat.reduceEqDiff, reduceIte, Nat.reduceAdd, Nat.reduceBEq, reduceCtorEq, Nat.reduceLT, Int.reduceLE, Int.reduceLT, Int.reduceEq, Nat.reduceMul, Nat.reduceLeDiff, xA, xC, wC]
    (refine hQ _ ?_; simp only [vmA, Nat.reduceEqDiff, reduceIte, Nat.reduceAdd, Nat.reduceBEq, reduceCtorEq, Nat.reduceLT, Int.reduceLE, Int.reduceLT, Int.reduceEq, Nat.reduceMul, Nat.reduceLeDiff, Tryz.f220, retG, resL, St.closeVs, St.closeV])
    exact leafB ⟨fun h => ⟨h1, h2, h⟩, fun h => h.2.2⟩
  · (refine hQ _ ?_; simp only [vmA, Nat.reduceEqDiff, reduceIte, Nat.reduceAdd, Nat.reduceBEq, reduceCtorEq, Nat.reduceLT, Int.reduceLE, Int.reduceLT, Int.reduceEq, Nat.reduceMul, Nat.reduceLeDiff, Tryz.f220, retG, resL, St.closeVs, St.closeV])
    exact leafF fun h => h2 h.2.1
  · (refine hQ _ ?_; simp only [vmA, Nat.reduceEqDiff, reduceIte, Nat.reduceAdd, Nat.reduceBEq, reduceCtorEq, Nat.reduceLT, Int.reduceLE, Int.reduceLT, Int.reduceEq, Nat.reduceMul, Nat.reduceLeDiff, Tryz.f220, retG, resL, St.closeVs, St.closeV])
    exact leafF fun h => h1 h.1
theorem f239 (t : Tx) (w : Wr) (xs : List Tx) (c : Bool) (hl : xs.length ≤ 9223372036854775807) (hs : ∀ u ∈ xs, okX u) : Fx 239 [.fro none c (xs.map xA), .clo 220 [xC t, wC w]] (.int .i64 (idxL (fun u => u.st = 2 ∧ t.bg < u.fn ∧ hasW u.ws w.key) xs 0)) := by
  refine fn_of ⟨false, [], []⟩ Tryz.func239 (by kernel_rfl) rfl (by kernel_rfl) (by kernel_rfl) (Nat.le_of_ble_eq_true rfl) rfl fun Q hQ => ?_
  simp only [vmA, Nat.reduceEqDiff, reduceIte, Nat.reduceAdd, Nat.reduceBEq, reduceCtorEq, Nat.reduceLT, Int.reduceLE, Int.reduceLT, Int.reduceEq, Nat.reduceMul, Nat.reduceLeDiff, List.length_map]
  refine WT_loop (fun (i : Nat) σ => i ≤ xs.length ∧ σ.sl 0 = .fro none c (xs.map xA) ∧ σ.sl 1 = .clo 220 [xC t, wC w] ∧ σ.sl 7 = .int .i64 xs.length ∧ σ.sl 8 = .int .i64 i ∧ idxL (fun u => u.st = 2 ∧ t.bg < u.fn ∧ hasW u.ws w.key) (xs.drop i) i = idxL (fun u => u.st = 2 ∧ t.bg < u.fn ∧ hasW u.ws w.key) xs 0) (fun i => xs.length - i) 0 ⟨by omega, by simp [vmI], by simp [vmI, xC, wC], by simp [vmI], by simp [vmI], by simp⟩ ?_
  rintro i σ ⟨hi, e0, e1, e7, e8, hx⟩
  simp only [vmA, Nat.reduceEqDiff, reduceIte, Nat.reduceAdd, Nat.reduceBEq, reduceCtorEq, Nat.reduceLT, Int.reduceLE, Int.reduceLT, Int.reduceEq, Nat.reduceMul, Nat.reduceLeDiff, e0, e1, e7, e8, xC, wC, xA, List.length_map]
  refine ⟨fun hlt => ?_, fun hge => ?_⟩
  · refine ⟨hlt, by omega, callD (f220 xs[i]! t w (hs _ (mem_get (by omega)))) ?_⟩
    rw [idxL_drop _ (by omega)] at hx
    simp only [vmA, Nat.reduceEqDiff, reduceIte, Nat.reduceAdd, Nat.reduceBEq, reduceCtorEq, Nat.reduceLT, Int.reduceLE, Int.reduceLT, Int.reduceEq, Nat.reduceMul, Nat.reduceLeDiff, e0, e1, e7, e8, xC, wC]
    refine ⟨fun hn => ?_, fun hn => ?_⟩
    · rw [if_pos hn] at hx
      (refine hQ _ ?_; simp only [vmA, Nat.reduceEqDiff, reduceIte, Nat.reduceAdd, Nat.reduceBEq, reduceCtorEq, Nat.reduceLT, Int.reduceLE, Int.reduceLT, Int.reduceEq, Nat.reduceMul, Nat.reduceLeDiff, Tryz.f239, retG, resL, St.closeVs, St.closeV])
      rw [hx]
    · rw [if_neg (by simpa using hn)] at hx
      rw [wr (by omega)]
      exact ⟨i + 1, ⟨by omega, rfl, hx⟩, by omega⟩
  · have : xs.drop i = [] := List.drop_of_length_le (by omega)
    rw [this, idxL] at hx
    (refine hQ _ ?_; simp only [vmA, Nat.reduceEqDiff, reduceIte, Nat.reduceAdd, Nat.reduceBEq, reduceCtorEq, Nat.reduceLT, Int.reduceLE, Int.reduceLT, Int.reduceEq, Nat.reduceMul, Nat.reduceLeDiff, Tryz.f239, retG, resL, St.closeVs, St.closeV])
    rw [← hx]
theorem f219 (t : Tx) (w : Wr) (xs : List Tx) (c : Bool) (hl : xs.length ≤ 9223372036854775807) (hs : ∀ u ∈ xs, okX u) : Fx 219 [.fro none c (xs.map xA), .clo 220 [xC t, wC w]] (.bool (decide (∃ zz ∈ xs, (fun u => u.st = 2 ∧ t.bg < u.fn ∧ hasW u.ws w.key) zz))) := by
  refine fn_of ⟨false, [], []⟩ Tryz.func219 (by kernel_rfl) rfl (by kernel_rfl) (by kernel_rfl) (Nat.le_of_ble_eq_true rfl) rfl fun Q hQ => ?_
  simp only [vmA, Nat.reduceEqDiff, reduceIte, Nat.reduceAdd, Nat.reduceBEq, reduceCtorEq, Nat.reduceLT, Int.reduceLE, Int.reduceLT, Int.reduceEq, Nat.reduceMul, Nat.reduceLeDiff, xC, wC]
  refine callD (f239 t w xs c hl hs) ?_
  simp only [vmA, Nat.reduceEqDiff, reduceIte, Nat.reduceAdd, Nat.reduceBEq, reduceCtorEq, Nat.reduceLT, Int.reduceLE, Int.reduceLT, Int.reduceEq, Nat.reduceMul, Nat.reduceLeDiff, xC, wC]
  (refine hQ _ ?_; simp only [vmA, Nat.reduceEqDiff, reduceIte, Nat.reduceAdd, Nat.reduceBEq, reduceCtorEq, Nat.reduceLT, Int.reduceLE, Int.reduceLT, Int.reduceEq, Nat.reduceMul, Nat.reduceLeDiff, Tryz.f219, retG, resL, St.closeVs, St.closeV])
  exact leafB (idxL_ge (fun u => u.st = 2 ∧ t.bg < u.fn ∧ hasW u.ws w.key) xs 0 (by omega))
theorem f218 (w : Wr) (h : Hs) (t : Tx) (ho : okH h) : Fx 218 [wA w, hC h, xC t] (.bool (decide (lateW h t w.key))) := by
  have h1 := ho.n
  have h2 := ho.m
  refine fn_of ⟨false, [], []⟩ Tryz.func218 (by kernel_rfl) rfl (by kernel_rfl) (by kernel_rfl) (Nat.le_of_ble_eq_true rfl) rfl fun Q hQ => ?_
  simp only [vmA, Nat.reduceEqDiff, reduceIte, Nat.reduceAdd, Nat.reduceBEq, reduceCtorEq, Nat.reduceLT, Int.reduceLE, Int.reduceLT, Int.reduceEq, Nat.reduceMul, Nat.reduceLeDiff, wA, hC, xC, captureL, capture, get_tmp, Option.bind_none]
  refine callD (f108 h.vs false w.key (by omega)) ?_
  simp only [vmA, Nat.reduceEqDiff, reduceIte, Nat.reduceAdd, Nat.reduceBEq, reduceCtorEq, Nat.reduceLT, Int.reduceLE, Int.reduceLT, Int.reduceEq, Nat.reduceMul, Nat.reduceLeDiff, wA, hC, xC, captureL, capture, get_tmp, Option.bind_none]
  refine ⟨fun h1 => ?_, fun h1 => ?_⟩
  · (refine hQ _ ?_; simp only [vmA, Nat.reduceEqDiff, reduceIte, Nat.reduceAdd, Nat.reduceBEq, reduceCtorEq, Nat.reduceLT, Int.reduceLE, Int.reduceLT, Int.reduceEq, Nat.reduceMul, Nat.reduceLeDiff, Tryz.f218, retG, resL, St.closeVs, St.closeV])
    exact leafT (.inl h1)
  · refine callD (f219 t w h.tx false (by omega) ho.tx) ?_
    simp only [vmA, Nat.reduceEqDiff, reduceIte, Nat.reduceAdd, Nat.reduceBEq, reduceCtorEq, Nat.reduceLT, Int.reduceLE, Int.reduceLT, Int.reduceEq, Nat.reduceMul, Nat.reduceLeDiff, wA, hC, xC, captureL, capture, get_tmp, Option.bind_none]
    (refine hQ _ ?_; simp only [vmA, Nat.reduceEqDiff, reduceIte, Nat.reduceAdd, Nat.reduceBEq, reduceCtorEq, Nat.reduceLT, Int.reduceLE, Int.reduceLT, Int.reduceEq, Nat.reduceMul, Nat.reduceLeDiff, Tryz.f218, retG, resL, St.closeVs, St.closeV])
    exact leafB ⟨fun e => .inr e, fun e => e.resolve_left h1⟩
theorem f212l (h : Hs) (t : Tx) (ho : okH h) (xs : List Wr) (c : Bool) (hl : xs.length ≤ 9223372036854775807) : Fx 212 [.fro none c (xs.map wA), .clo 218 [hC h, xC t]] (.int .i64 (idxL (fun w => lateW h t w.key) xs 0)) := by
  refine fn_of ⟨false, [], []⟩ Tryz.func212 (by kernel_rfl) rfl (by kernel_rfl) (by kernel_rfl) (Nat.le_of_ble_eq_true rfl) rfl fun Q hQ => ?_
  simp only [vmA, Nat.reduceEqDiff, reduceIte, Nat.reduceAdd, Nat.reduceBEq, reduceCtorEq, Nat.reduceLT, Int.reduceLE, Int.reduceLT, Int.reduceEq, Nat.reduceMul, Nat.reduceLeDiff, List.length_map]
  refine WT_loop (fun (i : Nat) σ => i ≤ xs.length ∧ σ.sl 0 = .fro none c (xs.map wA) ∧ σ.sl 1 = .clo 218 [hC h, xC t] ∧ σ.sl 7 = .int .i64 xs.length ∧ σ.sl 8 = .int .i64 i ∧ idxL (fun w => lateW h t w.key) (xs.drop i) i = idxL (fun w => lateW h t w.key) xs 0) (fun i => xs.length - i) 0 ⟨by omega, by simp [vmI], by simp [vmI, hC, xC], by simp [vmI], by simp [vmI], by simp⟩ ?_
  rintro i σ ⟨hi, e0, e1, e7, e8, hx⟩
  simp only [vmA, Nat.reduceEqDiff, reduceIte, Nat.reduceAdd, Nat.reduceBEq, reduceCtorEq, Nat.reduceLT, Int.reduceLE, Int.reduceLT, Int.reduceEq, Nat.reduceMul, Nat.reduceLeDiff, e0, e1, e7, e8, hC, xC, wA, List.length_map]
  refine ⟨fun hlt => ?_, fun hge => ?_⟩
  · refine ⟨hlt, by omega, callD (f218 xs[i]! h t ho) ?_⟩
    rw [idxL_drop _ (by omega)] at hx
    simp only [vmA, Nat.reduceEqDiff, reduceIte, Nat.reduceAdd, Nat.reduceBEq, reduceCtorEq, Nat.reduceLT, Int.reduceLE, Int.reduceLT, Int.reduceEq, Nat.reduceMul, Nat.reduceLeDiff, e0, e1, e7, e8, hC, xC]
    refine ⟨fun hn => ?_, fun hn => ?_⟩
    · rw [if_pos hn] at hx
      (refine hQ _ ?_; simp only [vmA, Nat.reduceEqDiff, reduceIte, Nat.reduceAdd, Nat.reduceBEq, reduceCtorEq, Nat.reduceLT, Int.reduceLE, Int.reduceLT, Int.reduceEq, Nat.reduceMul, Nat.reduceLeDiff, Tryz.f212, retG, resL, St.closeVs, St.closeV])
      rw [hx]
    · rw [if_neg (by simpa using hn)] at hx
      rw [wr (by omega)]
      exact ⟨i + 1, ⟨by omega, rfl, hx⟩, by omega⟩
  · have : xs.drop i = [] := List.drop_of_length_le (by omega)
    rw [this, idxL] at hx
    (refine hQ _ ?_; simp only [vmA, Nat.reduceEqDiff, reduceIte, Nat.reduceAdd, Nat.reduceBEq, reduceCtorEq, Nat.reduceLT, Int.reduceLE, Int.reduceLT, Int.reduceEq, Nat.reduceMul, Nat.reduceLeDiff, Tryz.f212, retG, resL, St.closeVs, St.closeV])
    rw [← hx]
theorem f217l (h : Hs) (t : Tx) (ho : okH h) (xs : List Wr) (c : Bool) (hl : xs.length ≤ 9223372036854775807) : Fx 217 [.fro none c (xs.map wA), .clo 218 [hC h, xC t]] (.bool (decide (∃ zz ∈ xs, (fun w => lateW h t w.key) zz))) := by
  refine fn_of ⟨false, [], []⟩ Tryz.func217 (by kernel_rfl) rfl (by kernel_rfl) (by kernel_rfl) (Nat.le_of_ble_eq_true rfl) rfl fun Q hQ => ?_
  simp only [vmA, Nat.reduceEqDiff, reduceIte, Nat.reduceAdd, Nat.reduceBEq, reduceCtorEq, Nat.reduceLT, Int.reduceLE, Int.reduceLT, Int.reduceEq, Nat.reduceMul, Nat.reduceLeDiff, hC, xC]
  refine callD (f212l h t ho xs c hl) ?_
  simp only [vmA, Nat.reduceEqDiff, reduceIte, Nat.reduceAdd, Nat.reduceBEq, reduceCtorEq, Nat.reduceLT, Int.reduceLE, Int.reduceLT, Int.reduceEq, Nat.reduceMul, Nat.reduceLeDiff, hC, xC]
  (refine hQ _ ?_; simp only [vmA, Nat.reduceEqDiff, reduceIte, Nat.reduceAdd, Nat.reduceBEq, reduceCtorEq, Nat.reduceLT, Int.reduceLE, Int.reduceLT, Int.reduceEq, Nat.reduceMul, Nat.reduceLeDiff, Tryz.f217, retG, resL, St.closeVs, St.closeV])
  exact leafB (idxL_ge (fun w => lateW h t w.key) xs 0 (by omega))
theorem f177 (h : Hs) (t : Tx) (ho : okH h) (ht : okX t) : Fx 177 [hA h, xA t] (.bool (decide (lateP h t))) := by
  refine fn_of ⟨false, [], []⟩ Tryz.func177 (by kernel_rfl) rfl (by kernel_rfl) (by kernel_rfl) (Nat.le_of_ble_eq_true rfl) rfl fun Q hQ => ?_
  simp only [vmA, Nat.reduceEqDiff, reduceIte, Nat.reduceAdd, Nat.reduceBEq, reduceCtorEq, Nat.reduceLT, Int.reduceLE, Int.reduceLT, Int.reduceEq, Nat.reduceMul, Nat.reduceLeDiff, hA, xA, captureL, capture, get_tmp, Option.bind_none]
  refine callD (f217l h t ho t.ws false ht.2.1) ?_
  simp only [vmA, Nat.reduceEqDiff, reduceIte, Nat.reduceAdd, Nat.reduceBEq, reduceCtorEq, Nat.reduceLT, Int.reduceLE, Int.reduceLT, Int.reduceEq, Nat.reduceMul, Nat.reduceLeDiff, hA, xA]
  (refine hQ _ ?_; simp only [vmA, Nat.reduceEqDiff, reduceIte, Nat.reduceAdd, Nat.reduceBEq, reduceCtorEq, Nat.reduceLT, Int.reduceLE, Int.reduceLT, Int.reduceEq, Nat.reduceMul, Nat.reduceLeDiff, Tryz.f177, retG, resL, St.closeVs, St.closeV])
  rfl
