/- WALK of functions of the seat, or plain laws for it: each theorem f<k> says what function k returns, for every world and all arguments that stand for the values named. Conditions: none but those ahead of each theorem. -/
import Derived.Test.YtklhdnjhgbglhaaGreatVD4
import Derived.Test.YtklhdnjhgbglhaaGreatVB5
open Go Go.Vm Go.Proofs
set_option maxRecDepth 100000
set_option maxHeartbeats 8000000
set_option linter.unusedSimpArgs false
set_option linter.unusedVariables false
set_option maxHeartbeats 8000000
set_option linter.unusedSimpArgs false
set_option linter.unusedVariables false
def smX (t : Tx) : Prop := t.rd.length ≤ 1048576 ∧ t.ws.length ≤ 1048576 ∧ ∀ w ∈ t.ws, w.row.length ≤ 1048576
def xO (t : Tx) : AV := .agg [.int .i64 t.st, .int .i64 t.bg, .int .i64 t.fn, .own 1 (t.rd.map iA), .own 3 (t.ws.map wO)]
theorem froize_xO (t : Tx) : froize (xO t) = xA t := by
  have h1 := map_froize_iA t.rd
  have h2 := map_froize_wO t.ws
  simp only [xO, xA, froize, froizeL, froizeL_eq, h1, h2]
theorem map_froize_xO (ts : List Tx) : (ts.map xO).map froize = ts.map xA := by simp [froize_xO]
theorem f186 (xs : List Int) (c : Bool) (left : Int) (hl : xs.length ≤ 9223372036854775807) (h0 : 0 ≤ left) (h1 : left ≤ 1048576) : FxR 186 [.fro none c (xs.map iA), .int .i64 left] fun r l => (∃ n : Int, r = .int .i64 n ∧ -1 ≤ n ∧ n ≤ left ∧ (0 ≤ n → xs.length ≤ 1048576)) ∧ l = .und := by
  refine fn_ofR ⟨false, [], []⟩ Tryz.func186 (by kernel_rfl) rfl (by kernel_rfl) (by kernel_rfl) (Nat.le_of_ble_eq_true rfl) rfl fun Q hQ => ?_
  simp only [vmA, Nat.reduceEqDiff, reduceIte, Nat.reduceAdd, Nat.reduceBEq, reduceCtorEq, Nat.reduceLT, Int.reduceLE, Int.reduceLT, Int.reduceEq, Nat.reduceMul, Nat.reduceLeDiff, List.length_map]
  rw [wr (by omega)]
  refine ⟨fun h => ?_, fun h => ?_⟩
  · (refine hQ _ ?_; simp only [vmA, Nat.reduceEqDiff, reduceIte, Nat.reduceAdd, Nat.reduceBEq, reduceCtorEq, Nat.reduceLT, Int.reduceLE, Int.reduceLT, Int.reduceEq, Nat.reduceMul, Nat.reduceLeDiff, Tryz.f186, retG, resL, St.closeVs, St.closeV])
    exact ⟨-1, rfl, by omega, by omega, by omega⟩
  · (refine hQ _ ?_; simp only [vmA, Nat.reduceEqDiff, reduceIte, Nat.reduceAdd, Nat.reduceBEq, reduceCtorEq, Nat.reduceLT, Int.reduceLE, Int.reduceLT, Int.reduceEq, Nat.reduceMul, Nat.reduceLeDiff, Tryz.f186, retG, resL, St.closeVs, St.closeV])
    exact ⟨_, rfl, by omega, by omega, fun _ => by omega⟩
theorem szS_wr {ws : List Wr} {l : Int} (h : 0 ≤ szS szw ws l) (hl : l ≤ 1048576) : ws.length ≤ 1048576 ∧ ∀ w ∈ ws, w.row.length ≤ 1048576 := by
  obtain ⟨h6, h7⟩ := szS_mem szw_ok h
  refine ⟨by omega, fun w hw => ?_⟩
  obtain ⟨l2, _, h8, h9⟩ := h7 w hw
  obtain ⟨h10, _⟩ := szS_mem szv_ok (show 0 ≤ szS szv w.row l2 from h9)
  omega
theorem f124 (t : Tx) (left : Int) (hs : okX t) (h0 : 0 ≤ left) (h1 : left ≤ 1048576) : FxR 124 [xA t, .int .i64 left] fun r l => (∃ n : Int, r = .int .i64 n ∧ -1 ≤ n ∧ n ≤ left ∧ (0 ≤ n → smX t)) ∧ l = .und := by
  refine fn_ofR ⟨false, [], []⟩ Tryz.func124 (by kernel_rfl) rfl (by kernel_rfl) (by kernel_rfl) (Nat.le_of_ble_eq_true rfl) rfl fun Q hQ => ?_
  simp only [vmA, Nat.reduceEqDiff, reduceIte, Nat.reduceAdd, Nat.reduceBEq, reduceCtorEq, Nat.reduceLT, Int.reduceLE, Int.reduceLT, Int.reduceEq, Nat.reduceMul, Nat.reduceLeDiff, xA]
  refine callR (f186 t.rd false left hs.1 h0 h1) ?_
  rintro _ _ ⟨⟨m, rfl, hm0, hm1, hm⟩, rfl⟩
  simp only [vmA, Nat.reduceEqDiff, reduceIte, Nat.reduceAdd, Nat.reduceBEq, reduceCtorEq, Nat.reduceLT, Int.reduceLE, Int.reduceLT, Int.reduceEq, Nat.reduceMul, Nat.reduceLeDiff]
  refine ⟨fun h => ?_, fun h => ?_⟩
  · (refine hQ _ ?_; simp only [vmA, Nat.reduceEqDiff, reduceIte, Nat.reduceAdd, Nat.reduceBEq, reduceCtorEq, Nat.reduceLT, Int.reduceLE, Int.reduceLT, Int.reduceEq, Nat.reduceMul, Nat.reduceLeDiff, Tryz.f124, retG, resL, St.closeVs, St.closeV])
    exact ⟨-1, rfl, by omega, by omega, by omega⟩
  have hb : szS szw t.ws m = -1 ∨ (0 ≤ szS szw t.ws m ∧ szS szw t.ws m ≤ m) := szS_ok szw_ok t.ws m (by omega)
  refine callD (f187 t.ws false m hs.2.2 hs.2.1 (by omega) (by omega)) ?_
  simp only [vmA, Nat.reduceEqDiff, reduceIte, Nat.reduceAdd, Nat.reduceBEq, reduceCtorEq, Nat.reduceLT, Int.reduceLE, Int.reduceLT, Int.reduceEq, Nat.reduceMul, Nat.reduceLeDiff]
  refine ⟨fun h2 => ?_, fun h2 => ?_⟩
  · (refine hQ _ ?_; simp only [vmA, Nat.reduceEqDiff, reduceIte, Nat.reduceAdd, Nat.reduceBEq, reduceCtorEq, Nat.reduceLT, Int.reduceLE, Int.reduceLT, Int.reduceEq, Nat.reduceMul, Nat.reduceLeDiff, Tryz.f124, retG, resL, St.closeVs, St.closeV])
    exact ⟨-1, rfl, by omega, by omega, by omega⟩
  · (refine hQ _ ?_; simp only [vmA, Nat.reduceEqDiff, reduceIte, Nat.reduceAdd, Nat.reduceBEq, reduceCtorEq, Nat.reduceLT, Int.reduceLE, Int.reduceLT, Int.reduceEq, Nat.reduceMul, Nat.reduceLeDiff, Tryz.f124, retG, resL, St.closeVs, St.closeV])
    exact ⟨_, rfl, by omega, by omega, fun h3 => ⟨hm (by omega), szS_wr h3 (by omega)⟩⟩
theorem f68 (xs : List Tx) (c : Bool) (left : Int) (hs : ∀ t ∈ xs, okX t) (hl : xs.length ≤ 9223372036854775807) (h0 : 0 ≤ left) (h1 : left ≤ 1048576) : FxR 68 [.fro none c (xs.map xA), .int .i64 left] fun r l => (∃ n : Int, r = .int .i64 n ∧ -1 ≤ n ∧ n ≤ left ∧ (0 ≤ n → xs.length ≤ 1048576 ∧ ∀ t ∈ xs, smX t)) ∧ l = .und := by
  refine fn_ofR ⟨false, [], []⟩ Tryz.func68 (by kernel_rfl) rfl (by kernel_rfl) (by kernel_rfl) (Nat.le_of_ble_eq_true rfl) rfl fun Q hQ => ?_
  simp only [vmA, Nat.reduceEqDiff, reduceIte, Nat.reduceAdd, Nat.reduceBEq, reduceCtorEq, Nat.reduceLT, Int.reduceLE, Int.reduceLT, Int.reduceEq, Nat.reduceMul, Nat.reduceLeDiff, List.length_map]
  rw [wr (by omega)]
  refine ⟨fun h => ?_, fun h => ?_⟩
  · (refine hQ _ ?_; simp only [vmA, Nat.reduceEqDiff, reduceIte, Nat.reduceAdd, Nat.reduceBEq, reduceCtorEq, Nat.reduceLT, Int.reduceLE, Int.reduceLT, Int.reduceEq, Nat.reduceMul, Nat.reduceLeDiff, Tryz.f68, retG, resL, St.closeVs, St.closeV])
    exact ⟨-1, rfl, by omega, by omega, by omega⟩
  refine WT_loop (fun (zz : Nat × Int) σ => ((zz.1 ≤ xs.length ∧ 0 ≤ zz.2 ∧ zz.2 ≤ left) ∧ (∀ j, j < zz.1 → smX xs[j]!)) ∧ σ.sl 5 = .int .i64 zz.1 ∧ σ.sl 1 = .int .i64 zz.2 ∧ σ.sl 0 = .fro none c (xs.map xA)) (fun zz => xs.length - zz.1) ((0, left - xs.length)) ⟨⟨⟨by dsimp only; omega, by dsimp only; omega, by dsimp only; omega⟩, by intro j hj; exact absurd hj (Nat.not_lt_zero _)⟩, by simp [vmI], by simp [vmI], by simp [vmI]⟩ ?_
  rintro ⟨i, n⟩ σ ⟨hi, e5, e1, e0⟩
  try dsimp only at e5 e1 e0 hi
  obtain ⟨⟨hi, hn0, hn1⟩, hall⟩ := hi
  simp only [vmA, Nat.reduceEqDiff, reduceIte, Nat.reduceAdd, Nat.reduceBEq, reduceCtorEq, Nat.reduceLT, Int.reduceLE, Int.reduceLT, Int.reduceEq, Nat.reduceMul, Nat.reduceLeDiff, e5, e1, e0, xA, List.length_map]
  refine ⟨fun hlt => ⟨hlt, by omega, ?_⟩, fun hge => ?_⟩
  · refine callR (f124 xs[i]! n (hs _ (by rw [getElem!_pos xs i (by omega)]; exact List.getElem_mem _)) hn0 (by omega)) ?_
    rintro _ _ ⟨⟨m, rfl, hm0, hm1, hm⟩, rfl⟩
    simp only [vmA, Nat.reduceEqDiff, reduceIte, Nat.reduceAdd, Nat.reduceBEq, reduceCtorEq, Nat.reduceLT, Int.reduceLE, Int.reduceLT, Int.reduceEq, Nat.reduceMul, Nat.reduceLeDiff, e5, e1, e0, xA, List.length_map]
    refine ⟨fun hneg => ?_, fun hpos => ?_⟩
    · (refine hQ _ ?_; simp only [vmA, Nat.reduceEqDiff, reduceIte, Nat.reduceAdd, Nat.reduceBEq, reduceCtorEq, Nat.reduceLT, Int.reduceLE, Int.reduceLT, Int.reduceEq, Nat.reduceMul, Nat.reduceLeDiff, Tryz.f68, retG, resL, St.closeVs, St.closeV, e5, e1, e0])
      exact ⟨-1, rfl, by omega, by omega, by omega⟩
    · rw [wr (by omega)]
      refine ⟨(i + 1, m), ⟨⟨⟨by dsimp only; omega, by dsimp only; omega, by dsimp only; omega⟩, fun j hj => ?_⟩, rfl, rfl⟩, by dsimp only; omega⟩
      rcases Nat.lt_or_eq_of_le (Nat.le_of_lt_succ hj) with h2 | rfl
      · exact hall j h2
      · exact hm (by omega)
  · (refine hQ _ ?_; simp only [vmA, Nat.reduceEqDiff, reduceIte, Nat.reduceAdd, Nat.reduceBEq, reduceCtorEq, Nat.reduceLT, Int.reduceLE, Int.reduceLT, Int.reduceEq, Nat.reduceMul, Nat.reduceLeDiff, Tryz.f68, retG, resL, St.closeVs, St.closeV, e5, e1, e0])
    refine ⟨n, rfl, by omega, by omega, fun _ => ⟨by omega, fun v hv => ?_⟩⟩
    obtain ⟨j, hj, rfl⟩ := List.mem_iff_getElem.1 hv
    have := hall j (by omega)
    rwa [getElem!_pos xs j hj] at this
theorem f135 (t : Tx) (hl : smX t) : Fx 135 [xA t] (xO t) := by
  refine fn_of true Tryz.func135 (by kernel_rfl) rfl (by kernel_rfl) (by kernel_rfl) (Nat.le_of_ble_eq_true rfl) rfl fun Q hQ => ?_
  simp only [vmA, Nat.reduceEqDiff, reduceIte, Nat.reduceAdd, Nat.reduceBEq, reduceCtorEq, Nat.reduceLT, Int.reduceLE, Int.reduceLT, Int.reduceEq, Nat.reduceMul, Nat.reduceLeDiff, xA, Option.bind_none]
  refine callD (f191 t.rd false hl.1) ?_
  simp only [vmA, Nat.reduceEqDiff, reduceIte, Nat.reduceAdd, Nat.reduceBEq, reduceCtorEq, Nat.reduceLT, Int.reduceLE, Int.reduceLT, Int.reduceEq, Nat.reduceMul, Nat.reduceLeDiff, Option.bind_none]
  refine callD (f192o t.ws false hl.2.1 hl.2.2) ?_
  simp only [vmA, Nat.reduceEqDiff, reduceIte, Nat.reduceAdd, Nat.reduceBEq, reduceCtorEq, Nat.reduceLT, Int.reduceLE, Int.reduceLT, Int.reduceEq, Nat.reduceMul, Nat.reduceLeDiff, Option.bind_none]
  (refine hQ _ ?_; simp only [vmA, Nat.reduceEqDiff, reduceIte, Nat.reduceAdd, Nat.reduceBEq, reduceCtorEq, Nat.reduceLT, Int.reduceLE, Int.reduceLT, Int.reduceEq, Nat.reduceMul, Nat.reduceLeDiff, Tryz.f135, retG, resL, St.closeVs, St.closeV, Option.bind_none])
  rfl
theorem f73 (xs : List Tx) (c : Bool) (hl : xs.length ≤ 1048576) (hs : ∀ t ∈ xs, smX t) : Fx 73 [.fro none c (xs.map xA)] (.own 5 (xs.map xO)) := by
  refine fn_of false Tryz.func73 (by kernel_rfl) rfl (by kernel_rfl) (by kernel_rfl) (Nat.le_of_ble_eq_true rfl) rfl fun Q hQ => ?_
  simp only [vmA, Nat.reduceEqDiff, reduceIte, Nat.reduceAdd, Nat.reduceBEq, reduceCtorEq, Nat.reduceLT, Int.reduceLE, Int.reduceLT, Int.reduceEq, Nat.reduceMul, Nat.reduceLeDiff]
  refine ⟨by omega, WT_loop (fun (i : Nat) σ => i ≤ xs.length ∧ σ.sl 0 = .fro none c (xs.map xA) ∧ σ.sl 4 = .int .i64 i ∧ σ.sl 3 = .hd 448 1 0 xs.length true ∧ (σ.en 448).live = true ∧ (σ.en 448).gen = 1 ∧ (σ.en 448).frz = false ∧ (σ.en 448).sz = 5 ∧ (σ.en 448).elems = upL xO (.agg [.int .i64 0, .int .i64 0, .int .i64 0, .fro none true [], .fro none true []]) xs i) (fun i => xs.length - i) 0 ?_ ?_⟩
  · simp [vmI, upL_zero]
  rintro i σ ⟨hi, e0, e4, e3, l1, l2, l3, l4, l5⟩
  simp only [vmA, Nat.reduceEqDiff, reduceIte, Nat.reduceAdd, Nat.reduceBEq, reduceCtorEq, Nat.reduceLT, Int.reduceLE, Int.reduceLT, Int.reduceEq, Nat.reduceMul, Nat.reduceLeDiff, e0, e4, e3, xO, xA, l1, l2, l3, l4, l5, upL_length xO _ xs hi]
  refine ⟨fun hlt => ?_, fun hge => ?_⟩
  · refine ⟨hlt, by omega, callD (f135 xs[i]! (hs _ (by rw [getElem!_pos xs i (by omega)]; exact List.getElem_mem _))) ?_⟩
    simp only [vmA, Nat.reduceEqDiff, reduceIte, Nat.reduceAdd, Nat.reduceBEq, reduceCtorEq, Nat.reduceLT, Int.reduceLE, Int.reduceLT, Int.reduceEq, Nat.reduceMul, Nat.reduceLeDiff, e0, e4, e3, xO, xA, l1, l2, l3, l4, l5, upL_length xO _ xs hi, upL_get xO _ xs (show i < xs.length by omega), Nat.le_refl]
    refine ⟨hlt, i + 1, ⟨by omega, by rw [wr (by omega)]; rfl, ?_⟩, by omega⟩
    exact upL_set xO _ xs (by omega)
  · obtain rfl : i = xs.length := by omega
    (refine hQ _ ?_; simp only [vmA, Nat.reduceEqDiff, reduceIte, Nat.reduceAdd, Nat.reduceBEq, reduceCtorEq, Nat.reduceLT, Int.reduceLE, Int.reduceLT, Int.reduceEq, Nat.reduceMul, Nat.reduceLeDiff, Tryz.f73, retG, resL, St.closeVs, St.closeV, l1, l2, l3, l4, l5, upL_full, Nat.le_refl, List.take_length])
theorem f138 (t : Tx) (hl : smX t) : Fx 138 [xA t, xA t] (.bool true) := by
  refine fn_of ⟨false, [], []⟩ Tryz.func138 (by kernel_rfl) rfl (by kernel_rfl) (by kernel_rfl) (Nat.le_of_ble_eq_true rfl) rfl fun Q hQ => ?_
  simp only [vmA, Nat.reduceEqDiff, reduceIte, Nat.reduceAdd, Nat.reduceBEq, reduceCtorEq, Nat.reduceLT, Int.reduceLE, Int.reduceLT, Int.reduceEq, Nat.reduceMul, Nat.reduceLeDiff, xA]
  refine callD (f43 t.rd false false (by have := hl.1; omega)) ?_
  simp only [vmA, Nat.reduceEqDiff, reduceIte, Nat.reduceAdd, Nat.reduceBEq, reduceCtorEq, Nat.reduceLT, Int.reduceLE, Int.reduceLT, Int.reduceEq, Nat.reduceMul, Nat.reduceLeDiff, xA]
  refine callD (f193 t.ws false false hl.2.1 hl.2.2) ?_
  simp only [vmA, Nat.reduceEqDiff, reduceIte, Nat.reduceAdd, Nat.reduceBEq, reduceCtorEq, Nat.reduceLT, Int.reduceLE, Int.reduceLT, Int.reduceEq, Nat.reduceMul, Nat.reduceLeDiff, xA]
  (refine hQ _ ?_; simp only [vmA, Nat.reduceEqDiff, reduceIte, Nat.reduceAdd, Nat.reduceBEq, reduceCtorEq, Nat.reduceLT, Int.reduceLE, Int.reduceLT, Int.reduceEq, Nat.reduceMul, Nat.reduceLeDiff, Tryz.f138, retG, resL, St.closeVs, St.closeV])
theorem f77 (xs : List Tx) (c c2 : Bool) (hl : xs.length ≤ 1048576) (hs : ∀ t ∈ xs, smX t) : Fx 77 [.fro none c (xs.map xA), .fro none c2 (xs.map xA)] (.bool true) := by
  refine fn_of ⟨false, [], []⟩ Tryz.func77 (by kernel_rfl) rfl (by kernel_rfl) (by kernel_rfl) (Nat.le_of_ble_eq_true rfl) rfl fun Q hQ => ?_
  simp only [vmA, Nat.reduceEqDiff, reduceIte, Nat.reduceAdd, Nat.reduceBEq, reduceCtorEq, Nat.reduceLT, Int.reduceLE, Int.reduceLT, Int.reduceEq, Nat.reduceMul, Nat.reduceLeDiff, List.length_map]
  refine WT_loop (fun (i : Nat) σ => (i ≤ xs.length) ∧ σ.sl 5 = .int .i64 i ∧ σ.sl 0 = .fro none c (xs.map xA) ∧ σ.sl 1 = .fro none c2 (xs.map xA)) (fun i => xs.length - i) (0) ⟨Nat.zero_le _, by simp [vmI], by simp [vmI], by simp [vmI]⟩ ?_
  rintro i σ ⟨hi, e5, e0, e1⟩
  simp only [vmA, Nat.reduceEqDiff, reduceIte, Nat.reduceAdd, Nat.reduceBEq, reduceCtorEq, Nat.reduceLT, Int.reduceLE, Int.reduceLT, Int.reduceEq, Nat.reduceMul, Nat.reduceLeDiff, e5, e0, e1, xA, List.length_map]
  refine ⟨fun h => ⟨h, by omega, h, by omega, callD (f138 xs[i]! (hs _ (by rw [getElem!_pos xs i (by omega)]; exact List.getElem_mem _))) ?_⟩, fun h => ?_⟩
  · simp only [vmA, Nat.reduceEqDiff, reduceIte, Nat.reduceAdd, Nat.reduceBEq, reduceCtorEq, Nat.reduceLT, Int.reduceLE, Int.reduceLT, Int.reduceEq, Nat.reduceMul, Nat.reduceLeDiff, e5, e0, e1, xA, List.length_map]
    rw [wr (by omega)]
    exact ⟨i + 1, ⟨by omega, rfl⟩, by omega⟩
  · (refine hQ _ ?_; simp only [vmA, Nat.reduceEqDiff, reduceIte, Nat.reduceAdd, Nat.reduceBEq, reduceCtorEq, Nat.reduceLT, Int.reduceLE, Int.reduceLT, Int.reduceEq, Nat.reduceMul, Nat.reduceLeDiff, Tryz.f77, retG, resL, St.closeVs, St.closeV])
