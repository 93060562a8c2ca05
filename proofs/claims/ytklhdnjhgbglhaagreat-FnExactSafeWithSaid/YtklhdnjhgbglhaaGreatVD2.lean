/- WALK of functions of the seat, or plain laws for it: each theorem f<k> says what function k returns, for every world and all arguments that stand for the values named. Conditions: none but those ahead of each theorem. -/
import Derived.Test.YtklhdnjhgbglhaaGreatVD1
open Go Go.Vm Go.Proofs
set_option maxRecDepth 100000
set_option maxHeartbeats 8000000
set_option linter.unusedSimpArgs false
set_option linter.unusedVariables false
set_option maxHeartbeats 8000000
set_option linter.unusedSimpArgs false
set_option linter.unusedVariables false
theorem f224 (w : Wr) (left : Int) (hs : okW w) (h0 : 0 ≤ left) (h1 : left ≤ 1048576) : Fx 224 [wA w, .int .i64 left] (.int .i64 (szw w left)) := by
  refine fn_of false Tryz.func224 (by kernel_rfl) rfl (by kernel_rfl) (by kernel_rfl) (Nat.le_of_ble_eq_true rfl) rfl fun Q hQ => ?_
  simp only [vmA, Nat.reduceEqDiff, reduceIte, Nat.reduceAdd, Nat.reduceBEq, reduceCtorEq, Nat.reduceLT, Int.reduceLE, Int.reduceLT, Int.reduceEq, Nat.reduceMul, Nat.reduceLeDiff, wA]
  refine callD (f69 w.row false left hs.2 hs.1 h0 h1) ?_
  simp only [vmA, Nat.reduceEqDiff, reduceIte, Nat.reduceAdd, Nat.reduceBEq, reduceCtorEq, Nat.reduceLT, Int.reduceLE, Int.reduceLT, Int.reduceEq, Nat.reduceMul, Nat.reduceLeDiff]
  have hb := szw_ok w left h0
  refine ⟨fun h => ?_, fun h => ?_⟩
  · (refine hQ _ ?_; simp only [vmA, Nat.reduceEqDiff, reduceIte, Nat.reduceAdd, Nat.reduceBEq, reduceCtorEq, Nat.reduceLT, Int.reduceLE, Int.reduceLT, Int.reduceEq, Nat.reduceMul, Nat.reduceLeDiff, Tryz.f224, retG, resL, St.closeVs, St.closeV])
    show AV.int .i64 (-1) = AV.int .i64 (szw w left)
    have : szw w left < 0 := h
    rw [show szw w left = -1 by omega]
  · (refine hQ _ ?_; simp only [vmA, Nat.reduceEqDiff, reduceIte, Nat.reduceAdd, Nat.reduceBEq, reduceCtorEq, Nat.reduceLT, Int.reduceLE, Int.reduceLT, Int.reduceEq, Nat.reduceMul, Nat.reduceLeDiff, Tryz.f224, retG, resL, St.closeVs, St.closeV])
    rfl
theorem f187 (xs : List Wr) (c : Bool) (left : Int) (hs : ∀ v ∈ xs, okW v) (hl : xs.length ≤ 9223372036854775807) (h0 : 0 ≤ left) (h1 : left ≤ 1048576) : Fx 187 [.fro none c (xs.map wA), .int .i64 left] (.int .i64 (szS szw xs left)) := by
  refine fn_of false Tryz.func187 (by kernel_rfl) rfl (by kernel_rfl) (by kernel_rfl) (Nat.le_of_ble_eq_true rfl) rfl fun Q hQ => ?_
  simp only [vmA, Nat.reduceEqDiff, reduceIte, Nat.reduceAdd, Nat.reduceBEq, reduceCtorEq, Nat.reduceLT, Int.reduceLE, Int.reduceLT, Int.reduceEq, Nat.reduceMul, Nat.reduceLeDiff]
  rw [wr (by omega)]
  refine ⟨fun h => ?_, fun h => ?_⟩
  · (refine hQ _ ?_; simp only [vmA, Nat.reduceEqDiff, reduceIte, Nat.reduceAdd, Nat.reduceBEq, reduceCtorEq, Nat.reduceLT, Int.reduceLE, Int.reduceLT, Int.reduceEq, Nat.reduceMul, Nat.reduceLeDiff, Tryz.f187, retG, resL, St.closeVs, St.closeV])
    simp [szS, h]
  refine WT_loop (fun (p : Nat × Int) σ => p.1 ≤ xs.length ∧ 0 ≤ p.2 ∧ p.2 ≤ left ∧ szL szw (xs.drop p.1) p.2 = szS szw xs left ∧ σ.sl 0 = .fro none c (xs.map wA) ∧ σ.sl 5 = .int .i64 p.1 ∧ σ.sl 1 = .int .i64 p.2) (fun p => xs.length - p.1) (0, left - xs.length)
    ⟨by omega, by omega, by omega, by simp [szS, h], by simp [vmI], by simp [vmI], by simp [vmI]⟩ ?_
  rintro ⟨i, l⟩ σ ⟨hi, hl0, hl1, hz, e0, e5, e1⟩
  dsimp only at hi hl0 hl1 hz e5 e1
  simp only [vmA, Nat.reduceEqDiff, reduceIte, Nat.reduceAdd, Nat.reduceBEq, reduceCtorEq, Nat.reduceLT, Int.reduceLE, Int.reduceLT, Int.reduceEq, Nat.reduceMul, Nat.reduceLeDiff, e0, e5, e1, wA]
  refine ⟨fun hlt => ⟨hlt, by omega, callD (f224 xs[i]! l (hs _ (by rw [getElem!_pos xs i (by omega)]; exact List.getElem_mem _)) hl0 (by omega)) ?_⟩, fun hge => ?_⟩
  · rw [szL_drop szw (by omega)] at hz
    have hb := szw_ok xs[i]! l hl0
    simp only [vmA, Nat.reduceEqDiff, reduceIte, Nat.reduceAdd, Nat.reduceBEq, reduceCtorEq, Nat.reduceLT, Int.reduceLE, Int.reduceLT, Int.reduceEq, Nat.reduceMul, Nat.reduceLeDiff, e0, e5]
    refine ⟨fun hneg => ?_, fun hpos => ?_⟩
    · (refine hQ _ ?_; simp only [vmA, Nat.reduceEqDiff, reduceIte, Nat.reduceAdd, Nat.reduceBEq, reduceCtorEq, Nat.reduceLT, Int.reduceLE, Int.reduceLT, Int.reduceEq, Nat.reduceMul, Nat.reduceLeDiff, Tryz.f187, retG, resL, St.closeVs, St.closeV])
      rw [if_pos hneg] at hz; rw [hz]
    · rw [if_neg hpos] at hz
      rw [wr (by omega)]
      refine ⟨(i + 1, szw xs[i]! l), ⟨by dsimp only; omega, by dsimp only; omega, by dsimp only; omega, hz, ?_⟩, by dsimp only; omega⟩
      simp
  · have : xs.drop i = [] := List.drop_of_length_le (by omega)
    rw [this, szL] at hz
    (refine hQ _ ?_; simp only [vmA, Nat.reduceEqDiff, reduceIte, Nat.reduceAdd, Nat.reduceBEq, reduceCtorEq, Nat.reduceLT, Int.reduceLE, Int.reduceLT, Int.reduceEq, Nat.reduceMul, Nat.reduceLeDiff, Tryz.f187, retG, resL, St.closeVs, St.closeV, e1])
    rw [hz]
/-- The same, owned through and through. -/
def wO (w : Wr) : AV := .agg [.int .i64 w.key, .own 3 (w.row.map vA), .bool w.gone]
theorem froize_wO (w : Wr) : froize (wO w) = wA w := by
  have := map_froize_vA w.row
  simp only [wO, wA, froize, froizeL, froizeL_eq, this]
theorem map_froize_wO (ws : List Wr) : (ws.map wO).map froize = ws.map wA := by simp [froize_wO]
theorem f227o (w : Wr) (hl : w.row.length ≤ 1048576) : Fx 227 [wA w] (wO w) := by
  refine fn_of true Tryz.func227 (by kernel_rfl) rfl (by kernel_rfl) (by kernel_rfl) (Nat.le_of_ble_eq_true rfl) rfl fun Q hQ => ?_
  simp only [vmA, Nat.reduceEqDiff, reduceIte, Nat.reduceAdd, Nat.reduceBEq, reduceCtorEq, Nat.reduceLT, Int.reduceLE, Int.reduceLT, Int.reduceEq, Nat.reduceMul, Nat.reduceLeDiff, wA, Option.bind_none]
  refine callD (f74 w.row false hl) ?_
  simp only [vmA, Nat.reduceEqDiff, reduceIte, Nat.reduceAdd, Nat.reduceBEq, reduceCtorEq, Nat.reduceLT, Int.reduceLE, Int.reduceLT, Int.reduceEq, Nat.reduceMul, Nat.reduceLeDiff, Option.bind_none]
  (refine hQ _ ?_; simp only [vmA, Nat.reduceEqDiff, reduceIte, Nat.reduceAdd, Nat.reduceBEq, reduceCtorEq, Nat.reduceLT, Int.reduceLE, Int.reduceLT, Int.reduceEq, Nat.reduceMul, Nat.reduceLeDiff, Tryz.f227, retG, resL, St.closeVs, St.closeV, Option.bind_none])
  rfl
theorem f192o (xs : List Wr) (c : Bool) (hl : xs.length ≤ 1048576) (hs : ∀ w ∈ xs, w.row.length ≤ 1048576) : Fx 192 [.fro none c (xs.map wA)] (.own 3 (xs.map wO)) := by
  refine fn_of false Tryz.func192 (by kernel_rfl) rfl (by kernel_rfl) (by kernel_rfl) (Nat.le_of_ble_eq_true rfl) rfl fun Q hQ => ?_
  simp only [vmA, Nat.reduceEqDiff, reduceIte, Nat.reduceAdd, Nat.reduceBEq, reduceCtorEq, Nat.reduceLT, Int.reduceLE, Int.reduceLT, Int.reduceEq, Nat.reduceMul, Nat.reduceLeDiff]
  refine ⟨by omega, WT_loop (fun (i : Nat) σ => i ≤ xs.length ∧ σ.sl 0 = .fro none c (xs.map wA) ∧ σ.sl 4 = .int .i64 i ∧ σ.sl 3 = .hd 448 1 0 xs.length true ∧ (σ.en 448).live = true ∧ (σ.en 448).gen = 1 ∧ (σ.en 448).frz = false ∧ (σ.en 448).sz = 3 ∧ (σ.en 448).elems = upL wO (.agg [.int .i64 0, .fro none true [], .bool false]) xs i) (fun i => xs.length - i) 0 ?_ ?_⟩
  · simp [vmI, upL_zero]
  rintro i σ ⟨hi, e0, e4, e3, l1, l2, l3, l4, l5⟩
  simp only [vmA, Nat.reduceEqDiff, reduceIte, Nat.reduceAdd, Nat.reduceBEq, reduceCtorEq, Nat.reduceLT, Int.reduceLE, Int.reduceLT, Int.reduceEq, Nat.reduceMul, Nat.reduceLeDiff, e0, e4, e3, wO, wA, l1, l2, l3, l4, l5, upL_length wO _ xs hi]
  refine ⟨fun hlt => ?_, fun hge => ?_⟩
  · refine ⟨hlt, by omega, callD (f227o xs[i]! (hs _ (by rw [getElem!_pos xs i (by omega)]; exact List.getElem_mem _))) ?_⟩
    simp only [vmA, Nat.reduceEqDiff, reduceIte, Nat.reduceAdd, Nat.reduceBEq, reduceCtorEq, Nat.reduceLT, Int.reduceLE, Int.reduceLT, Int.reduceEq, Nat.reduceMul, Nat.reduceLeDiff, e0, e4, e3, wO, wA, l1, l2, l3, l4, l5, upL_length wO _ xs hi, upL_get wO _ xs (show i < xs.length by omega), Nat.le_refl]
    refine ⟨hlt, i + 1, ⟨by omega, by rw [wr (by omega)]; rfl, ?_⟩, by omega⟩
    exact upL_set wO _ xs (by omega)
  · obtain rfl : i = xs.length := by omega
    (refine hQ _ ?_; simp only [vmA, Nat.reduceEqDiff, reduceIte, Nat.reduceAdd, Nat.reduceBEq, reduceCtorEq, Nat.reduceLT, Int.reduceLE, Int.reduceLT, Int.reduceEq, Nat.reduceMul, Nat.reduceLeDiff, Tryz.f192, retG, resL, St.closeVs, St.closeV, l1, l2, l3, l4, l5, upL_full, Nat.le_refl, List.take_length])
theorem f228 (w : Wr) (hl : w.row.length ≤ 1048576) : Fx 228 [wA w, wA w] (.bool true) := by
  refine fn_of false Tryz.func228 (by kernel_rfl) rfl (by kernel_rfl) (by kernel_rfl) (Nat.le_of_ble_eq_true rfl) rfl fun Q hQ => ?_
  simp only [vmA, Nat.reduceEqDiff, reduceIte, Nat.reduceAdd, Nat.reduceBEq, reduceCtorEq, Nat.reduceLT, Int.reduceLE, Int.reduceLT, Int.reduceEq, Nat.reduceMul, Nat.reduceLeDiff, wA]
  refine callD (f78 w.row false false hl) ?_
  simp only [vmA, Nat.reduceEqDiff, reduceIte, Nat.reduceAdd, Nat.reduceBEq, reduceCtorEq, Nat.reduceLT, Int.reduceLE, Int.reduceLT, Int.reduceEq, Nat.reduceMul, Nat.reduceLeDiff]
  (refine hQ _ ?_; simp only [vmA, Nat.reduceEqDiff, reduceIte, Nat.reduceAdd, Nat.reduceBEq, reduceCtorEq, Nat.reduceLT, Int.reduceLE, Int.reduceLT, Int.reduceEq, Nat.reduceMul, Nat.reduceLeDiff, Tryz.f228, retG, resL, St.closeVs, St.closeV])
theorem f193 (xs : List Wr) (c c2 : Bool) (hl : xs.length ≤ 1048576) (hs : ∀ w ∈ xs, w.row.length ≤ 1048576) : Fx 193 [.fro none c (xs.map wA), .fro none c2 (xs.map wA)] (.bool true) := by
  refine fn_of false Tryz.func193 (by kernel_rfl) rfl (by kernel_rfl) (by kernel_rfl) (Nat.le_of_ble_eq_true rfl) rfl fun Q hQ => ?_
  simp only [vmA, Nat.reduceEqDiff, reduceIte, Nat.reduceAdd, Nat.reduceBEq, reduceCtorEq, Nat.reduceLT, Int.reduceLE, Int.reduceLT, Int.reduceEq, Nat.reduceMul, Nat.reduceLeDiff]
  refine WT_loop (fun (i : Nat) σ => i ≤ xs.length ∧ σ.sl 0 = .fro none c (xs.map wA) ∧ σ.sl 1 = .fro none c2 (xs.map wA) ∧ σ.sl 5 = .int .i64 i) (fun i => xs.length - i) 0 ⟨by omega, by simp [vmI], by simp [vmI], by simp [vmI]⟩ ?_
  rintro i σ ⟨hi, e0, e1, e5⟩
  simp only [vmA, Nat.reduceEqDiff, reduceIte, Nat.reduceAdd, Nat.reduceBEq, reduceCtorEq, Nat.reduceLT, Int.reduceLE, Int.reduceLT, Int.reduceEq, Nat.reduceMul, Nat.reduceLeDiff, e0, e1, e5, wA]
  refine ⟨fun hlt => ?_, fun hge => ?_⟩
  · refine ⟨hlt, by omega, hlt, by omega, callD (f228 xs[i]! (okmem hs (by omega))) ?_⟩
    simp only [vmA, Nat.reduceEqDiff, reduceIte, Nat.reduceAdd, Nat.reduceBEq, reduceCtorEq, Nat.reduceLT, Int.reduceLE, Int.reduceLT, Int.reduceEq, Nat.reduceMul, Nat.reduceLeDiff, e0, e1, e5]
    refine ⟨i + 1, ⟨by omega, by rw [wr (by omega)]; rfl⟩, by omega⟩
  · (refine hQ _ ?_; simp only [vmA, Nat.reduceEqDiff, reduceIte, Nat.reduceAdd, Nat.reduceBEq, reduceCtorEq, Nat.reduceLT, Int.reduceLE, Int.reduceLT, Int.reduceEq, Nat.reduceMul, Nat.reduceLeDiff, Tryz.f193, retG, resL, St.closeVs, St.closeV])
theorem szL_mem {α : Type} {f : α → Int → Int} (hf : SzOk f) : ∀ (xs : List α) (l : Int), 0 ≤ l → 0 ≤ szL f xs l → ∀ x ∈ xs, ∃ l', 0 ≤ l' ∧ l' ≤ l ∧ 0 ≤ f x l'
  | [], l, _, _, x, hx => by simp at hx
  | y :: ys, l, hl, h, x, hx => by
    rw [szL] at h
    split at h
    · omega
    · rename_i hn
      have hb := hf y l hl
      rcases List.mem_cons.1 hx with rfl | hx
      · exact ⟨l, hl, Int.le_refl _, by omega⟩
      · obtain ⟨l', h1, h2, h3⟩ := szL_mem hf ys (f y l) (by omega) h x hx
        exact ⟨l', h1, by omega, h3⟩
theorem szS_mem {α : Type} {f : α → Int → Int} (hf : SzOk f) {xs : List α} {l : Int} (h : 0 ≤ szS f xs l) : xs.length ≤ l ∧ ∀ x ∈ xs, ∃ l', 0 ≤ l' ∧ l' ≤ l ∧ 0 ≤ f x l' := by
  unfold szS at h
  split at h
  · omega
  · refine ⟨by omega, fun x hx => ?_⟩
    obtain ⟨l', h1, h2, h3⟩ := szL_mem hf xs _ (by omega) h x hx
    exact ⟨l', h1, by omega, h3⟩
theorem f191 (xs : List Int) (c : Bool) (hl : xs.length ≤ 1048576) : Fx 191 [.fro none c (xs.map iA)] (.own 1 (xs.map iA)) := by
  refine fn_of false Tryz.func191 (by kernel_rfl) rfl (by kernel_rfl) (by kernel_rfl) (Nat.le_of_ble_eq_true rfl) rfl fun Q hQ => ?_
  simp only [vmA, Nat.reduceEqDiff, reduceIte, Nat.reduceAdd, Nat.reduceBEq, reduceCtorEq, Nat.reduceLT, Int.reduceLE, Int.reduceLT, Int.reduceEq, Nat.reduceMul, Nat.reduceLeDiff]
  refine ⟨by omega, WT_loop (fun (i : Nat) σ => i ≤ xs.length ∧ σ.sl 0 = .fro none c (xs.map iA) ∧ σ.sl 4 = .int .i64 i ∧ σ.sl 3 = .hd 448 1 0 xs.length true ∧ (σ.en 448).live = true ∧ (σ.en 448).gen = 1 ∧ (σ.en 448).frz = false ∧ (σ.en 448).sz = 1 ∧ (σ.en 448).elems = upL iA (.int .i64 0) xs i) (fun i => xs.length - i) 0 ?_ ?_⟩
  · simp [vmI, upL_zero]
  rintro i σ ⟨hi, e0, e4, e3, l1, l2, l3, l4, l5⟩
  simp only [vmA, Nat.reduceEqDiff, reduceIte, Nat.reduceAdd, Nat.reduceBEq, reduceCtorEq, Nat.reduceLT, Int.reduceLE, Int.reduceLT, Int.reduceEq, Nat.reduceMul, Nat.reduceLeDiff, e0, e4, e3, l1, l2, l3, l4, l5, upL_length iA _ xs hi]
  refine ⟨fun hlt => ?_, fun hge => ?_⟩
  · refine ⟨hlt, by omega, hlt, ?_⟩
    simp only [vmA, Nat.reduceEqDiff, reduceIte, Nat.reduceAdd, Nat.reduceBEq, reduceCtorEq, Nat.reduceLT, Int.reduceLE, Int.reduceLT, Int.reduceEq, Nat.reduceMul, Nat.reduceLeDiff, e0, e4, e3, l1, l2, l3, l4, l5, upL_length iA _ xs hi, upL_get iA _ xs (show i < xs.length by omega), Nat.le_refl]
    refine ⟨i + 1, ⟨by omega, by rw [wr (by omega)]; rfl, ?_⟩, by omega⟩
    exact upL_set iA _ xs (by omega)
  · obtain rfl : i = xs.length := by omega
    (refine hQ _ ?_; simp only [vmA, Nat.reduceEqDiff, reduceIte, Nat.reduceAdd, Nat.reduceBEq, reduceCtorEq, Nat.reduceLT, Int.reduceLE, Int.reduceLT, Int.reduceEq, Nat.reduceMul, Nat.reduceLeDiff, Tryz.f191, retG, resL, St.closeVs, St.closeV, l1, l2, l3, l4, l5, upL_full, Nat.le_refl, List.take_length])
theorem f43 (xs : List Int) (c c2 : Bool) (hl : xs.length ≤ 9223372036854775807) : Fx 43 [.fro none c (xs.map iA), .fro none c2 (xs.map iA)] (.bool true) := by
  refine fn_of false Tryz.func43 (by kernel_rfl) rfl (by kernel_rfl) (by kernel_rfl) (Nat.le_of_ble_eq_true rfl) rfl fun Q hQ => ?_
  simp only [vmA, Nat.reduceEqDiff, reduceIte, Nat.reduceAdd, Nat.reduceBEq, reduceCtorEq, Nat.reduceLT, Int.reduceLE, Int.reduceLT, Int.reduceEq, Nat.reduceMul, Nat.reduceLeDiff]
  refine WT_loop (fun (i : Nat) σ => i ≤ xs.length ∧ σ.sl 0 = .fro none c (xs.map iA) ∧ σ.sl 1 = .fro none c2 (xs.map iA) ∧ σ.sl 5 = .int .i64 i) (fun i => xs.length - i) 0 ⟨by omega, by simp [vmI], by simp [vmI], by simp [vmI]⟩ ?_
  rintro i σ ⟨hi, e0, e1, e5⟩
  simp only [vmA, Nat.reduceEqDiff, reduceIte, Nat.reduceAdd, Nat.reduceBEq, reduceCtorEq, Nat.reduceLT, Int.reduceLE, Int.reduceLT, Int.reduceEq, Nat.reduceMul, Nat.reduceLeDiff, e0, e1, e5]
  refine ⟨fun hlt => ?_, fun hge => ?_⟩
  · refine ⟨hlt, by omega, hlt, by omega, ?_⟩
    exact ⟨i + 1, ⟨by omega, by rw [wr (by omega)]; rfl⟩, by omega⟩
  · (refine hQ _ ?_; simp only [vmA, Nat.reduceEqDiff, reduceIte, Nat.reduceAdd, Nat.reduceBEq, reduceCtorEq, Nat.reduceLT, Int.reduceLE, Int.reduceLT, Int.reduceEq, Nat.reduceMul, Nat.reduceLeDiff, Tryz.f43, retG, resL, St.closeVs, St.closeV])
theorem f44 (xs : List Int) (k : Int) (hk : 0 ≤ k) (hl : k + xs.length ≤ 4611686018427387904) : FxR 44 [.own 1 (xs.map iA), .int .i64 k] fun r l => r = .int .i64 (k + xs.length) ∧ l = .own 1 (((List.range xs.length).map fun i : Nat => k + (i : Int)).map iA) := by
  refine fn_ofW false (k := 0) Tryz.func44 (by kernel_rfl) rfl (by kernel_rfl) (by kernel_rfl) (Nat.le_of_ble_eq_true rfl) rfl ⟨_, _, .inl rfl⟩ rfl fun Q hQ => ?_
  simp only [vmA, Nat.reduceEqDiff, reduceIte, Nat.reduceAdd, Nat.reduceBEq, reduceCtorEq, Nat.reduceLT, Int.reduceLE, Int.reduceLT, Int.reduceEq, Nat.reduceMul, Nat.reduceLeDiff, List.length_map]
  refine WT_loop (fun (p : Nat × List Int) σ => (p.1 ≤ xs.length ∧ p.2.length = xs.length ∧ ∀ i, i < p.1 → p.2[i]! = k + i) ∧ σ.sl 0 = .hd 0 1 0 xs.length false ∧ (σ.en 0).live = true ∧ (σ.en 0).gen = 1 ∧ (σ.en 0).frz = false ∧ (σ.en 0).sz = 1 ∧ (σ.en 0).elems = p.2.map iA ∧ σ.sl 1 = .int .i64 (k + p.1) ∧ σ.sl 5 = .int .i64 p.1) (fun p => xs.length - p.1) (0, xs) ⟨⟨by simp, rfl, by simp⟩, by simp [vmI], by simp [vmI], by simp [vmI], by simp [vmI], by simp [vmI], by simp [vmI], by simp [vmI], by simp [vmI]⟩ ?_
  rintro ⟨i, ys⟩ σ ⟨⟨hi, hyl, hy⟩, e0, l1, l2, l3, l4, l5, e1, e5⟩
  dsimp only at hi hyl hy l5 e1 e5
  simp only [vmA, Nat.reduceEqDiff, reduceIte, Nat.reduceAdd, Nat.reduceBEq, reduceCtorEq, Nat.reduceLT, Int.reduceLE, Int.reduceLT, Int.reduceEq, Nat.reduceMul, Nat.reduceLeDiff, e0, l1, l2, l3, l4, l5, e1, e5, List.length_map, hyl]
  refine ⟨fun hlt => ⟨hlt, by omega, ?_⟩, fun hge => ?_⟩
  · rw [wr (by omega), wr (by omega)]
    refine ⟨(i + 1, ys.set i (k + i)), ⟨⟨by dsimp only; omega, by simpa using hyl, fun j hj => ?_⟩, ?_⟩, by dsimp only; omega⟩
    · dsimp only at hj ⊢
      by_cases hji : j = i
      · subst hji; rw [getElem!_pos _ j (by simp; omega), List.getElem_set_self]
      · rw [getElem!_pos _ j (by simp; omega), List.getElem_set_ne (by omega), ← getElem!_pos ys j (by omega)]; exact hy j (by omega)
    · exact ⟨by rw [List.map_set], leafJ (by dsimp only; omega), rfl⟩
  · (refine hQ _ ?_; simp only [vmA, Nat.reduceEqDiff, reduceIte, Nat.reduceAdd, Nat.reduceBEq, reduceCtorEq, Nat.reduceLT, Int.reduceLE, Int.reduceLT, Int.reduceEq, Nat.reduceMul, Nat.reduceLeDiff, Tryz.f44, retG, resL, St.closeVs, St.closeV, leftV, ghostW, e0, l1, l2, l3, l4, l5, e1, e5, List.length_map, hyl, Int.add_zero])
    refine ⟨leafJ (by omega), ?_⟩
    rw [List.take_of_length_le (by simp; omega)]
    congr 2
    refine List.ext_getElem (by simp; omega) fun j h1 h2 => ?_
    have := hy j (by omega)
    rw [getElem!_pos ys j h1] at this
    simpa using this
theorem f81 (xs : List Val) (k : Int) (hk : 0 ≤ k) (hl : k + 3 * xs.length ≤ 4611686018427387904) : FxR 81 [.own 3 (xs.map vA), .int .i64 k] fun r l => ∃ (k' : Int) (ys : List Val), r = .int .i64 k' ∧ k ≤ k' ∧ k' ≤ k + 3 * xs.length ∧ l = .own 3 (ys.map vA) ∧ ys.length = xs.length :=
  (f81p xs k hk hl).mono fun r l ⟨h1, h2⟩ => ⟨_, _, h1, by omega, by omega, h2, mkVs_length _ _⟩
theorem set_wO (ws : List Wr) (i : Nat) (a : Int) (r : List Val) (b : Bool) : (ws.map wO).set i (.agg [.int .i64 a, .own 3 (r.map vA), .bool b]) = (ws.set i ⟨a, r, b⟩).map wO := by rw [List.map_set]; rfl
theorem mod_wO (ws : List Wr) (i : Nat) (r : List Val) (h : i < ws.length) : (ws.map wO).modify i (fun x => reEl x ((leaves x).set 1 (.own 3 (r.map vA)))) = (ws.set i ⟨ws[i]!.key, r, ws[i]!.gone⟩).map wO := by
  have hl : i < (ws.map wO).length := by simpa using h
  rw [List.map_set, List.modify_eq_take_cons_drop hl]
  conv => rhs; rw [List.set_eq_take_append_cons_drop, if_pos hl]
  rw [List.getElem_map, getElem!_pos ws i h]
  rfl
theorem f140 (ws : List Wr) (k : Int) (hk : 0 ≤ k) (hr : ∀ w ∈ ws, w.row.length ≤ 1048576) (hl : k + 3145730 * ws.length ≤ 4611686018427387904) : FxR 140 [.own 3 (ws.map wO), .int .i64 k] fun r l => ∃ (k' : Int) (ys : List Wr), r = .int .i64 k' ∧ k ≤ k' ∧ k' ≤ k + 3145730 * ws.length ∧ l = .own 3 (ys.map wO) ∧ ys.length = ws.length ∧ ∀ w ∈ ys, w.row.length ≤ 1048576 := by
  refine fn_ofW false (k := 0) Tryz.func140 (by kernel_rfl) rfl (by kernel_rfl) (by kernel_rfl) (Nat.le_of_ble_eq_true rfl) rfl ⟨_, _, .inl rfl⟩ rfl fun Q hQ => ?_
  simp only [vmA, Nat.reduceEqDiff, reduceIte, Nat.reduceAdd, Nat.reduceBEq, reduceCtorEq, Nat.reduceLT, Int.reduceLE, Int.reduceLT, Int.reduceEq, Nat.reduceMul, Nat.reduceLeDiff, List.length_map]
  refine WT_loop (fun (p : Nat × List Wr × Int) σ => (p.1 ≤ ws.length ∧ p.2.1.length = ws.length ∧ (∀ w ∈ p.2.1, w.row.length ≤ 1048576) ∧ k ≤ p.2.2 ∧ p.2.2 ≤ k + 3145730 * p.1) ∧ σ.sl 0 = .hd 0 1 0 ws.length false ∧ (σ.en 0).live = true ∧ (σ.en 0).gen = 1 ∧ (σ.en 0).frz = false ∧ (σ.en 0).sz = 3 ∧ (σ.en 0).elems = p.2.1.map wO ∧ σ.sl 1 = .int .i64 p.2.2 ∧ σ.sl 5 = .int .i64 p.1) (fun p => ws.length - p.1) (0, ws, k) ⟨⟨by simp, rfl, hr, by simp, by simp⟩, by simp [vmI], by simp [vmI], by simp [vmI], by simp [vmI], by simp [vmI], by simp [vmI], by simp [vmI], by simp [vmI]⟩ ?_
  rintro ⟨i, ys, m⟩ σ ⟨⟨hi, hyl, hyr, hm0, hm1⟩, e0, l1, l2, l3, l4, l5, e1, e5⟩
  dsimp only at hi hyl hyr hm0 hm1 l5 e1 e5
  simp only [vmA, Nat.reduceEqDiff, reduceIte, Nat.reduceAdd, Nat.reduceBEq, reduceCtorEq, Nat.reduceLT, Int.reduceLE, Int.reduceLT, Int.reduceEq, Nat.reduceMul, Nat.reduceLeDiff, e0, l1, l2, l3, l4, l5, e1, e5, List.length_map, hyl, wO, set_wO, List.length_set]
  refine ⟨fun hlt => ⟨hlt, by omega, hlt, by omega, ?_⟩, fun hge => ?_⟩
  · rw [get_set ys i _ (by omega), wr (x := m + 1) (by omega)]
    have hyi : ys[i]!.row.length ≤ 1048576 := by rw [getElem!_pos ys i (by omega)]; exact hyr _ (List.getElem_mem _)
    refine ⟨by omega, ?_⟩
    refine callR (f81 ys[i]!.row (m + 1) (by omega) (by omega)) ?_
    rintro _ _ ⟨k', r, rfl, hk0, hk1, rfl, hrl⟩
    have hm := mod_wO (ys.set i ⟨m, ys[i]!.row, ys[i]!.gone⟩) i r (by simp; omega)
    rw [get_set ys i _ (by omega), List.set_set] at hm
    simp only [vmA, Nat.reduceEqDiff, reduceIte, Nat.reduceAdd, Nat.reduceBEq, reduceCtorEq, Nat.reduceLT, Int.reduceLE, Int.reduceLT, Int.reduceEq, Nat.reduceMul, Nat.reduceLeDiff, e0, l1, l2, l3, l4, l5, e1, e5, List.length_map, hyl, hm, wO, set_wO, List.length_set]
    refine ⟨hlt, by omega, ?_⟩
    simp (disch := omega) only [wr]
    refine ⟨(i + 1, (ys.set i ⟨m, r, ys[i]!.gone⟩).set i _, k' + 1), ⟨⟨by dsimp only; omega, by dsimp only; simp [hyl], fun w hw => ?_, by dsimp only; omega, by dsimp only; omega⟩, rfl, leafJ (by dsimp only), rfl⟩, by dsimp only; omega⟩
    dsimp only at hw
    rcases List.mem_or_eq_of_mem_set hw with h | h
    · rcases List.mem_or_eq_of_mem_set h with h | h
      · exact hyr _ h
      · rw [h]; dsimp only; omega
    · rw [h, get_set ys i _ (by omega)]; dsimp only; omega
  · (refine hQ _ ?_; simp only [vmA, Nat.reduceEqDiff, reduceIte, Nat.reduceAdd, Nat.reduceBEq, reduceCtorEq, Nat.reduceLT, Int.reduceLE, Int.reduceLT, Int.reduceEq, Nat.reduceMul, Nat.reduceLeDiff, Tryz.f140, retG, resL, St.closeVs, St.closeV, leftV, ghostW, e0, l1, l2, l3, l4, l5, e1, e5, List.length_map, hyl])
    refine ⟨m, ys, rfl, hm0, by omega, ?_, hyl, hyr⟩
    rw [List.take_of_length_le (by simp; omega)]
