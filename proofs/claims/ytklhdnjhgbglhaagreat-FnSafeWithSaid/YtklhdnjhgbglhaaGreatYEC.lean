/- WALK, or plain laws for it: theorem f<k> says what function k returns. Conditions: none but those ahead of each theorem. -/
import Derived.Test.YtklhdnjhgbglhaaGreatYEB
set_option linter.unusedVariables false
set_option linter.unusedSimpArgs false
open Nat renaming reduceEqDiff → sN1, reduceAdd → sN2, reduceBEq → sN3, reduceLT → sN4, reduceMul → sN5, reduceLeDiff → sN6, reduceSub → sN7
open Int renaming reduceLE → sI1, reduceLT → sI2, reduceEq → sI3
open Go Go.Vm Go.Proofs
set_option maxRecDepth 100000
set_option maxHeartbeats 8000000
theorem f242 (xs : List Int) (c : Bool) (k : Int) (hl : xs.length ≤ 9223372036854775807) : Fx 242 [.fro none c (xs.map iA), .int .i64 k] (.int .i64 (idxL (fun x => x = k) xs 0)) := by
  refine fn_of ⟨false, [], []⟩ Tryz.func242 (by kernel_rfl) rfl (by kernel_rfl) (by kernel_rfl) (Nat.le_of_ble_eq_true rfl) rfl fun Q hQ => ?_
  simp only [vmA, sN1, reduceIte, sN2, sN3, reduceCtorEq, sN4, sI1, sI2, sI3, sN5, sN6, List.length_map]
  refine WT_loop (fun (i : Nat) σ => i ≤ xs.length ∧ σ.sl 0 = .fro none c (xs.map iA) ∧ σ.sl 1 = .int .i64 k ∧ σ.sl 7 = .int .i64 xs.length ∧ σ.sl 8 = .int .i64 i ∧ idxL (fun x => x = k) (xs.drop i) i = idxL (fun x => x = k) xs 0) (fun i => xs.length - i) 0 ⟨by omega, by simp [vmI], by simp [vmI], by simp [vmI], by simp [vmI], by simp⟩ ?_
  rintro i σ ⟨hi, e0, e1, e7, e8, hx⟩
  simp only [vmA, sN1, reduceIte, sN2, sN3, reduceCtorEq, sN4, sI1, sI2, sI3, sN5, sN6, e0, e1, e7, e8, List.length_map]
  refine ⟨fun hlt => ?_, fun hge => ?_⟩
  · rw [idxL_drop _ (by omega)] at hx
    refine ⟨hlt, by omega, fun hn => ?_, fun hn => ?_⟩
    · rw [if_pos hn.symm] at hx
      (refine hQ _ ?_; simp only [vmA, sN1, reduceIte, sN2, sN3, reduceCtorEq, sN4, sI1, sI2, sI3, sN5, sN6, Tryz.f242, retG, resL, St.closeVs, St.closeV])
      rw [hx]
    · rw [if_neg (fun e => hn e.symm)] at hx
      rw [wr (by omega)]
      exact ⟨i + 1, ⟨by omega, rfl, hx⟩, by omega⟩
  · have : xs.drop i = [] := List.drop_of_length_le (by omega)
    rw [this, idxL] at hx
    (refine hQ _ ?_; simp only [vmA, sN1, reduceIte, sN2, sN3, reduceCtorEq, sN4, sI1, sI2, sI3, sN5, sN6, Tryz.f242, retG, resL, St.closeVs, St.closeV])
    rw [← hx]
theorem f231 (xs : List Int) (c : Bool) (k : Int) (hl : xs.length ≤ 9223372036854775807) : Fx 231 [.fro none c (xs.map iA), .int .i64 k] (.bool (decide (k ∈ xs))) := by
  refine fn_of ⟨false, [], []⟩ Tryz.func231 (by kernel_rfl) rfl (by kernel_rfl) (by kernel_rfl) (Nat.le_of_ble_eq_true rfl) rfl fun Q hQ => ?_
  simp only [vmA, sN1, reduceIte, sN2, sN3, reduceCtorEq, sN4, sI1, sI2, sI3, sN5, sN6]
  refine callD (f242 xs c k hl) ?_
  simp only [vmA, sN1, reduceIte, sN2, sN3, reduceCtorEq, sN4, sI1, sI2, sI3, sN5, sN6]
  (refine hQ _ ?_; simp only [vmA, sN1, reduceIte, sN2, sN3, reduceCtorEq, sN4, sI1, sI2, sI3, sN5, sN6, Tryz.f231, retG, resL, St.closeVs, St.closeV])
  exact leafB ((idxL_ge (fun x => x = k) xs 0 (by omega)).trans ⟨fun ⟨x, h, e⟩ => e ▸ h, fun h => ⟨k, h, rfl⟩⟩)
theorem f230 (w : Wr) (b : Tx) (hb : okX b) : Fx 230 [wA w, xC b] (.bool (decide (w.key ∈ b.rd))) := by
  refine fn_of ⟨false, [], []⟩ Tryz.func230 (by kernel_rfl) rfl (by kernel_rfl) (by kernel_rfl) (Nat.le_of_ble_eq_true rfl) rfl fun Q hQ => ?_
  simp only [vmA, sN1, reduceIte, sN2, sN3, reduceCtorEq, sN4, sI1, sI2, sI3, sN5, sN6, wA, xC]
  refine callD (f231 b.rd false w.key hb.1) ?_
  simp only [vmA, sN1, reduceIte, sN2, sN3, reduceCtorEq, sN4, sI1, sI2, sI3, sN5, sN6]
  (refine hQ _ ?_; simp only [vmA, sN1, reduceIte, sN2, sN3, reduceCtorEq, sN4, sI1, sI2, sI3, sN5, sN6, Tryz.f230, retG, resL, St.closeVs, St.closeV])
theorem f212r (b : Tx) (hb : okX b) (xs : List Wr) (c : Bool) (hl : xs.length ≤ 9223372036854775807) : Fx 212 [.fro none c (xs.map wA), .clo 230 [xC b]] (.int .i64 (idxL (fun w => w.key ∈ b.rd) xs 0)) := by
  refine fn_of ⟨false, [], []⟩ Tryz.func212 (by kernel_rfl) rfl (by kernel_rfl) (by kernel_rfl) (Nat.le_of_ble_eq_true rfl) rfl fun Q hQ => ?_
  simp only [vmA, sN1, reduceIte, sN2, sN3, reduceCtorEq, sN4, sI1, sI2, sI3, sN5, sN6, List.length_map]
  refine WT_loop (fun (i : Nat) σ => i ≤ xs.length ∧ σ.sl 0 = .fro none c (xs.map wA) ∧ σ.sl 1 = .clo 230 [xC b] ∧ σ.sl 7 = .int .i64 xs.length ∧ σ.sl 8 = .int .i64 i ∧ idxL (fun w => w.key ∈ b.rd) (xs.drop i) i = idxL (fun w => w.key ∈ b.rd) xs 0) (fun i => xs.length - i) 0 ⟨by omega, by simp [vmI], by simp [vmI, xC], by simp [vmI], by simp [vmI], by simp⟩ ?_
  rintro i σ ⟨hi, e0, e1, e7, e8, hx⟩
  simp only [vmA, sN1, reduceIte, sN2, sN3, reduceCtorEq, sN4, sI1, sI2, sI3, sN5, sN6, e0, e1, e7, e8, xC, wA, List.length_map]
  refine ⟨fun hlt => ?_, fun hge => ?_⟩
  · refine ⟨hlt, by omega, callD (f230 xs[i]! b hb) ?_⟩
    rw [idxL_drop _ (by omega)] at hx
    simp only [vmA, sN1, reduceIte, sN2, sN3, reduceCtorEq, sN4, sI1, sI2, sI3, sN5, sN6, e0, e1, e7, e8, xC]
    refine ⟨fun hn => ?_, fun hn => ?_⟩
    · rw [if_pos hn] at hx
      (refine hQ _ ?_; simp only [vmA, sN1, reduceIte, sN2, sN3, reduceCtorEq, sN4, sI1, sI2, sI3, sN5, sN6, Tryz.f212, retG, resL, St.closeVs, St.closeV])
      rw [hx]
    · rw [if_neg (by simpa using hn)] at hx
      rw [wr (by omega)]
      exact ⟨i + 1, ⟨by omega, rfl, hx⟩, by omega⟩
  · have : xs.drop i = [] := List.drop_of_length_le (by omega)
    rw [this, idxL] at hx
    (refine hQ _ ?_; simp only [vmA, sN1, reduceIte, sN2, sN3, reduceCtorEq, sN4, sI1, sI2, sI3, sN5, sN6, Tryz.f212, retG, resL, St.closeVs, St.closeV])
    rw [← hx]
theorem f217r (b : Tx) (hb : okX b) (xs : List Wr) (c : Bool) (hl : xs.length ≤ 9223372036854775807) : Fx 217 [.fro none c (xs.map wA), .clo 230 [xC b]] (.bool (decide (∃ zz ∈ xs, (fun w => w.key ∈ b.rd) zz))) := by
  refine fn_of ⟨false, [], []⟩ Tryz.func217 (by kernel_rfl) rfl (by kernel_rfl) (by kernel_rfl) (Nat.le_of_ble_eq_true rfl) rfl fun Q hQ => ?_
  simp only [vmA, sN1, reduceIte, sN2, sN3, reduceCtorEq, sN4, sI1, sI2, sI3, sN5, sN6, xC]
  refine callD (f212r b hb xs c hl) ?_
  simp only [vmA, sN1, reduceIte, sN2, sN3, reduceCtorEq, sN4, sI1, sI2, sI3, sN5, sN6, xC]
  (refine hQ _ ?_; simp only [vmA, sN1, reduceIte, sN2, sN3, reduceCtorEq, sN4, sI1, sI2, sI3, sN5, sN6, Tryz.f217, retG, resL, St.closeVs, St.closeV])
  exact leafB (idxL_ge (fun w => w.key ∈ b.rd) xs 0 (by omega))
theorem f229 (a b : Tx) (ha : okX a) (hb : okX b) : Fx 229 [xA a, xA b] (.bool (decide (∃ w ∈ a.ws, w.key ∈ b.rd))) := by
  refine fn_of ⟨false, [], []⟩ Tryz.func229 (by kernel_rfl) rfl (by kernel_rfl) (by kernel_rfl) (Nat.le_of_ble_eq_true rfl) rfl fun Q hQ => ?_
  simp only [vmA, sN1, reduceIte, sN2, sN3, reduceCtorEq, sN4, sI1, sI2, sI3, sN5, sN6, xA, captureL, capture, get_tmp, Option.bind_none]
  refine callD (f217r b hb a.ws false ha.2.1) ?_
  simp only [vmA, sN1, reduceIte, sN2, sN3, reduceCtorEq, sN4, sI1, sI2, sI3, sN5, sN6, xA]
  (refine hQ _ ?_; simp only [vmA, sN1, reduceIte, sN2, sN3, reduceCtorEq, sN4, sI1, sI2, sI3, sN5, sN6, Tryz.f229, retG, resL, St.closeVs, St.closeV])
theorem f232 (w : Wr) (b : Tx) (hb : okX b) : Fx 232 [wA w, xC b] (.bool (decide (hasW b.ws w.key))) := by
  refine fn_of ⟨false, [], []⟩ Tryz.func232 (by kernel_rfl) rfl (by kernel_rfl) (by kernel_rfl) (Nat.le_of_ble_eq_true rfl) rfl fun Q hQ => ?_
  simp only [vmA, sN1, reduceIte, sN2, sN3, reduceCtorEq, sN4, sI1, sI2, sI3, sN5, sN6, wA, xC]
  refine callD (f113 b w.key hb) ?_
  simp only [vmA, sN1, reduceIte, sN2, sN3, reduceCtorEq, sN4, sI1, sI2, sI3, sN5, sN6]
  (refine hQ _ ?_; simp only [vmA, sN1, reduceIte, sN2, sN3, reduceCtorEq, sN4, sI1, sI2, sI3, sN5, sN6, Tryz.f232, retG, resL, St.closeVs, St.closeV])
theorem f212q (b : Tx) (hb : okX b) (xs : List Wr) (c : Bool) (hl : xs.length ≤ 9223372036854775807) : Fx 212 [.fro none c (xs.map wA), .clo 232 [xC b]] (.int .i64 (idxL (fun w => hasW b.ws w.key) xs 0)) := by
  refine fn_of ⟨false, [], []⟩ Tryz.func212 (by kernel_rfl) rfl (by kernel_rfl) (by kernel_rfl) (Nat.le_of_ble_eq_true rfl) rfl fun Q hQ => ?_
  simp only [vmA, sN1, reduceIte, sN2, sN3, reduceCtorEq, sN4, sI1, sI2, sI3, sN5, sN6, List.length_map]
  refine WT_loop (fun (i : Nat) σ => i ≤ xs.length ∧ σ.sl 0 = .fro none c (xs.map wA) ∧ σ.sl 1 = .clo 232 [xC b] ∧ σ.sl 7 = .int .i64 xs.length ∧ σ.sl 8 = .int .i64 i ∧ idxL (fun w => hasW b.ws w.key) (xs.drop i) i = idxL (fun w => hasW b.ws w.key) xs 0) (fun i => xs.length - i) 0 ⟨by omega, by simp [vmI], by simp [vmI, xC], by simp [vmI], by simp [vmI], by simp⟩ ?_
  rintro i σ ⟨hi, e0, e1, e7, e8, hx⟩
  simp only [vmA, sN1, reduceIte, sN2, sN3, reduceCtorEq, sN4, sI1, sI2, sI3, sN5, sN6, e0, e1, e7, e8, xC, wA, List.length_map]
  refine ⟨fun hlt => ?_, fun hge => ?_⟩
  · refine ⟨hlt, by omega, callD (f232 xs[i]! b hb) ?_⟩
    rw [idxL_drop _ (by omega)] at hx
    simp only [vmA, sN1, reduceIte, sN2, sN3, reduceCtorEq, sN4, sI1, sI2, sI3, sN5, sN6, e0, e1, e7, e8, xC]
    refine ⟨fun hn => ?_, fun hn => ?_⟩
    · rw [if_pos hn] at hx
      (refine hQ _ ?_; simp only [vmA, sN1, reduceIte, sN2, sN3, reduceCtorEq, sN4, sI1, sI2, sI3, sN5, sN6, Tryz.f212, retG, resL, St.closeVs, St.closeV])
      rw [hx]
    · rw [if_neg (by simpa using hn)] at hx
      rw [wr (by omega)]
      exact ⟨i + 1, ⟨by omega, rfl, hx⟩, by omega⟩
  · have : xs.drop i = [] := List.drop_of_length_le (by omega)
    rw [this, idxL] at hx
    (refine hQ _ ?_; simp only [vmA, sN1, reduceIte, sN2, sN3, reduceCtorEq, sN4, sI1, sI2, sI3, sN5, sN6, Tryz.f212, retG, resL, St.closeVs, St.closeV])
    rw [← hx]
theorem f217q (b : Tx) (hb : okX b) (xs : List Wr) (c : Bool) (hl : xs.length ≤ 9223372036854775807) : Fx 217 [.fro none c (xs.map wA), .clo 232 [xC b]] (.bool (decide (∃ zz ∈ xs, (fun w => hasW b.ws w.key) zz))) := by
  refine fn_of ⟨false, [], []⟩ Tryz.func217 (by kernel_rfl) rfl (by kernel_rfl) (by kernel_rfl) (Nat.le_of_ble_eq_true rfl) rfl fun Q hQ => ?_
  simp only [vmA, sN1, reduceIte, sN2, sN3, reduceCtorEq, sN4, sI1, sI2, sI3, sN5, sN6, xC]
  refine callD (f212q b hb xs c hl) ?_
  simp only [vmA, sN1, reduceIte, sN2, sN3, reduceCtorEq, sN4, sI1, sI2, sI3, sN5, sN6, xC]
  (refine hQ _ ?_; simp only [vmA, sN1, reduceIte, sN2, sN3, reduceCtorEq, sN4, sI1, sI2, sI3, sN5, sN6, Tryz.f217, retG, resL, St.closeVs, St.closeV])
  exact leafB (idxL_ge (fun w => hasW b.ws w.key) xs 0 (by omega))
def relP (a b : Tx) (k : Int) : Prop := (k = 1 ∧ a.fn < b.fn ∧ ∃ w ∈ a.ws, hasW b.ws w.key) ∨ (k = 2 ∧ a.fn ≤ b.bg ∧ ∃ w ∈ a.ws, w.key ∈ b.rd) ∨ (k ≠ 1 ∧ k ≠ 2 ∧ a.bg < b.fn ∧ ∃ w ∈ b.ws, w.key ∈ a.rd)
instance (a b : Tx) (k : Int) : Decidable (relP a b k) := by unfold relP; exact inferInstance
theorem f194 (a b : Tx) (k : Int) (ha : okX a) (hb : okX b) : Fx 194 [xA a, xA b, .int .i64 k] (.bool (decide (relP a b k))) := by
  refine fn_of ⟨false, [], []⟩ Tryz.func194 (by kernel_rfl) rfl (by kernel_rfl) (by kernel_rfl) (Nat.le_of_ble_eq_true rfl) rfl fun Q hQ => ?_
  simp only [vmA, sN1, reduceIte, sN2, sN3, reduceCtorEq, sN4, sI1, sI2, sI3, sN5, sN6, xA, captureL, capture, get_tmp, Option.bind_none]
  refine ⟨fun h1 => ⟨fun h2 => callD (f217q b hb a.ws false ha.2.1) ?_, fun h2 => ?_⟩, fun h1 => ⟨fun h2 => ⟨fun h3 => callD (f229 a b ha hb) ?_, fun h3 => ?_⟩, fun h2 => ⟨fun h3 => callD (f229 b a hb ha) ?_, fun h3 => ?_⟩⟩⟩
  · simp only [vmA, sN1, reduceIte, sN2, sN3, reduceCtorEq, sN4, sI1, sI2, sI3, sN5, sN6, xA]
    (refine hQ _ ?_; simp only [vmA, sN1, reduceIte, sN2, sN3, reduceCtorEq, sN4, sI1, sI2, sI3, sN5, sN6, Tryz.f194, retG, resL, St.closeVs, St.closeV])
    exact leafB ⟨fun e => .inl ⟨h1, h2, e⟩, fun e => by
      rcases e with e | e | e
      · exact e.2.2
      · omega
      · exact absurd h1 e.1⟩
  · (refine hQ _ ?_; simp only [vmA, sN1, reduceIte, sN2, sN3, reduceCtorEq, sN4, sI1, sI2, sI3, sN5, sN6, Tryz.f194, retG, resL, St.closeVs, St.closeV])
    exact leafF fun e => by
      rcases e with e | e | e
      · exact h2 e.2.1
      · omega
      · exact absurd h1 e.1
  · simp only [vmA, sN1, reduceIte, sN2, sN3, reduceCtorEq, sN4, sI1, sI2, sI3, sN5, sN6, xA]
    (refine hQ _ ?_; simp only [vmA, sN1, reduceIte, sN2, sN3, reduceCtorEq, sN4, sI1, sI2, sI3, sN5, sN6, Tryz.f194, retG, resL, St.closeVs, St.closeV])
    exact leafB ⟨fun e => .inr (.inl ⟨h2, h3, e⟩), fun e => by
      rcases e with e | e | e
      · exact absurd e.1 h1
      · exact e.2.2
      · exact absurd h2 e.2.1⟩
  · (refine hQ _ ?_; simp only [vmA, sN1, reduceIte, sN2, sN3, reduceCtorEq, sN4, sI1, sI2, sI3, sN5, sN6, Tryz.f194, retG, resL, St.closeVs, St.closeV])
    exact leafF fun e => by
      rcases e with e | e | e
      · exact absurd e.1 h1
      · exact h3 e.2.1
      · exact absurd h2 e.2.1
  · simp only [vmA, sN1, reduceIte, sN2, sN3, reduceCtorEq, sN4, sI1, sI2, sI3, sN5, sN6, xA]
    (refine hQ _ ?_; simp only [vmA, sN1, reduceIte, sN2, sN3, reduceCtorEq, sN4, sI1, sI2, sI3, sN5, sN6, Tryz.f194, retG, resL, St.closeVs, St.closeV])
    exact leafB ⟨fun e => .inr (.inr ⟨h1, h2, h3, e⟩), fun e => by
      rcases e with e | e | e
      · exact absurd e.1 h1
      · exact absurd e.1 h2
      · exact e.2.2.2⟩
  · (refine hQ _ ?_; simp only [vmA, sN1, reduceIte, sN2, sN3, reduceCtorEq, sN4, sI1, sI2, sI3, sN5, sN6, Tryz.f194, retG, resL, St.closeVs, St.closeV])
    exact leafF fun e => by
      rcases e with e | e | e
      · exact absurd e.1 h1
      · exact absurd e.1 h2
      · exact h3 e.2.2.1
