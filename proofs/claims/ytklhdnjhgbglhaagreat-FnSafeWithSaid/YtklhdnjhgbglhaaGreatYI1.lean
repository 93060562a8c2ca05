/- WALK, or plain laws for it: theorem f<k> says what function k returns. Conditions: none but those ahead of each theorem. -/
import Derived.Test.YtklhdnjhgbglhaaGreatYEH
import Derived.Test.YtklhdnjhgbglhaaGreatYN2
set_option linter.unusedVariables false
set_option linter.unusedSimpArgs false
open Nat renaming reduceEqDiff → sN1, reduceAdd → sN2, reduceBEq → sN3, reduceLT → sN4, reduceMul → sN5, reduceLeDiff → sN6, reduceSub → sN7
open Int renaming reduceLE → sI1, reduceLT → sI2, reduceEq → sI3
open Go Go.Vm Go.Proofs
set_option maxRecDepth 100000
set_option maxHeartbeats 8000000
theorem f168 (a b : Int) : Fx 168 [.int .i64 a, .int .i64 b] (.bool (decide (a < b))) := by
  refine fn_of false Tryz.func168 (by kernel_rfl) rfl (by kernel_rfl) (by kernel_rfl) (Nat.le_of_ble_eq_true rfl) rfl fun Q hQ => ?_
  simp only [vmA, sN1, reduceIte, sN2, sN3, reduceCtorEq, sN4, sI1, sI2, sI3, sN5, sN6]
  refine callD (f211 a) ?_
  simp only [vmA, sN1, reduceIte, sN2, sN3, reduceCtorEq, sN4, sI1, sI2, sI3, sN5, sN6]
  (refine hQ _ ?_; simp only [vmA, sN1, reduceIte, sN2, sN3, reduceCtorEq, sN4, sI1, sI2, sI3, sN5, sN6, Tryz.f168, retG, resL, St.closeVs, St.closeV])
theorem f160 (n : Int) (h0 : 0 ≤ n) (h1 : n < 256) : FxR 160 [.int .u64 n] fun r l => (∃ k : Int, r = .int .i64 k) ∧ l = .und := by
  refine fn_ofR false Tryz.func160 (by kernel_rfl) rfl (by kernel_rfl) (by kernel_rfl) (Nat.le_of_ble_eq_true rfl) rfl fun Q hQ => ?_
  have hA : (4294967296 ≤ n) = False := eq_false (by omega)
  have hB : (65536 ≤ n) = False := eq_false (by omega)
  have hC : (256 ≤ n) = False := eq_false (by omega)
  simp only [vmA, sN1, reduceIte, sN2, sN3, reduceCtorEq, sN4, sI1, sI2, sI3, sN5, sN6, tt188, hA, hB, hC, false_implies, not_false_eq_true, true_implies]
  refine ⟨⟨?_, ?_⟩, ?_⟩
  · simp [IntKind.wrap, IntKind.bits, IntKind.signed]; omega
  · refine Int.lt_of_lt_of_le (b := 256) ?_ (by decide)
    simp [IntKind.wrap, IntKind.bits, IntKind.signed]; omega
  · (refine hQ _ ?_; simp only [vmA, sN1, reduceIte, sN2, sN3, reduceCtorEq, sN4, sI1, sI2, sI3, sN5, sN6, Tryz.f160, retG, resL, St.closeVs, St.closeV])
    exact ⟨_, rfl⟩
theorem f98 (n : Int) (h0 : 0 ≤ n) (h1 : n < 256) : FxR 98 [.int .u64 n] fun r l => (∃ k : Int, r = .int .i64 k) ∧ l = .und := by
  refine fn_ofR false Tryz.func98 (by kernel_rfl) rfl (by kernel_rfl) (by kernel_rfl) (Nat.le_of_ble_eq_true rfl) rfl fun Q hQ => ?_
  simp only [vmA, sN1, reduceIte, sN2, sN3, reduceCtorEq, sN4, sI1, sI2, sI3, sN5, sN6, Bool.false_eq_true, if_false]
  refine callR (f160 n h0 h1) ?_
  rintro _ _ ⟨⟨k, rfl⟩, rfl⟩
  simp only [vmA, sN1, reduceIte, sN2, sN3, reduceCtorEq, sN4, sI1, sI2, sI3, sN5, sN6]
  (refine hQ _ ?_; simp only [vmA, sN1, reduceIte, sN2, sN3, reduceCtorEq, sN4, sI1, sI2, sI3, sN5, sN6, Tryz.f98, retG, resL, St.closeVs, St.closeV])
  exact ⟨k, rfl⟩
theorem leafN {k : IntKind} {a b : Int} (h : a = b) : AV.int k a = AV.int k b := by rw [h]
theorem set_iA (ys : List Int) (i : Nat) (v : Int) : (ys.map iA).set i (.int .i64 v) = (ys.set i v).map iA := by rw [List.map_set]
def swp (ys : List Int) (j : Nat) : List Int := (ys.set j ys[j - 1]!).set (j - 1) ys[j]!
theorem swp_length (ys : List Int) (j : Nat) : (swp ys j).length = ys.length := by simp [swp]
theorem swp_perm {ys : List Int} {j : Nat} (h0 : 0 < j) (h : j < ys.length) : (swp ys j).Perm ys := by
  unfold swp
  rw [getElem!_pos ys j h, getElem!_pos ys (j - 1) (by omega)]
  exact List.set_set_perm (by omega) (by omega)
theorem swp_at {ys : List Int} {j : Nat} (h0 : 0 < j) (h : j < ys.length) {p : Nat} (hp : p < ys.length) : (swp ys j)[p]! = if p = j then ys[j - 1]! else if p = j - 1 then ys[j]! else ys[p]! := by
  rw [getElem!_pos _ p (by rw [swp_length]; exact hp)]
  unfold swp
  rw [List.getElem_set, List.getElem_set]
  by_cases h1 : j - 1 = p
  · rw [if_pos h1, if_neg (by omega), if_pos h1.symm]
  · rw [if_neg h1]
    by_cases h2 : j = p
    · rw [if_pos h2, if_pos h2.symm]
    · rw [if_neg h2, if_neg (Ne.symm h2), if_neg (Ne.symm h1), getElem!_pos ys p hp]
def OrdX (ys : List Int) (i j : Nat) : Prop := (∀ p q, p < q → q ≤ i → p ≠ j → q ≠ j → ys[p]! ≤ ys[q]!) ∧ ∀ q, j < q → q ≤ i → ys[j]! ≤ ys[q]!
theorem OrdX.swp {ys : List Int} {i j : Nat} (h : OrdX ys i j) (h0 : 0 < j) (hj : j ≤ i) (hi : i < ys.length) (hlt : ys[j]! < ys[j - 1]!) : OrdX (swp ys j) i (j - 1) := by
  obtain ⟨h1, h2⟩ := h
  refine ⟨fun p q hpq hq hp1 hq1 => ?_, fun q hq hqi => ?_⟩
  · rw [swp_at h0 (by omega) (by omega), swp_at h0 (by omega) (by omega), if_neg hp1, if_neg hq1]
    by_cases hp : p = j
    · rw [if_pos hp, if_neg (by omega)]; exact h1 _ _ (by omega) hq (by omega) (by omega)
    · rw [if_neg hp]
      by_cases hq2 : q = j
      · rw [if_pos hq2]; exact h1 _ _ (by omega) (by omega) hp (by omega)
      · rw [if_neg hq2]; exact h1 _ _ hpq hq hp hq2
  · rw [swp_at h0 (by omega) (by omega), swp_at h0 (by omega) (by omega), if_neg (by omega), if_pos rfl]
    by_cases hq2 : q = j
    · rw [if_pos hq2]; omega
    · rw [if_neg hq2, if_neg (by omega)]; exact h2 q (by omega) hqi
theorem OrdX.done {ys : List Int} {i j : Nat} (h : OrdX ys i j) (hj : j ≤ i) (hd : j = 0 ∨ ¬ ys[j]! < ys[j - 1]!) : ∀ p q, p < q → q < i + 1 → ys[p]! ≤ ys[q]! := fun p q hpq hq => by
  obtain ⟨h1, h2⟩ := h
  by_cases hp : p = j
  · subst hp; exact h2 q hpq (by omega)
  · by_cases hq2 : q = j
    · subst hq2
      have h3 : ys[p]! ≤ ys[q - 1]! := by
        by_cases h4 : p = q - 1
        · rw [h4]; exact Int.le_refl _
        · exact h1 p (q - 1) (by omega) (by omega) hp (by omega)
      rcases hd with h4 | h4 <;> omega
    · exact h1 p q hpq (by omega) hp hq2
theorem f197 (xs : List Int) (hl : xs.length ≤ 1048576) : FxR 197 [.own 1 (xs.map iA), .int .i64 0, .int .i64 xs.length] fun r l => r = .tup [] ∧ ∃ ys : List Int, l = .own 1 (ys.map iA) ∧ ys.Perm xs ∧ ∀ p q, p < q → q < ys.length → ys[p]! ≤ ys[q]! := by
  refine fn_ofWN false (k := 0) Tryz.func197 (by kernel_rfl) rfl (by kernel_rfl) (by kernel_rfl) (Nat.le_of_ble_eq_true rfl) rfl ⟨_, _, .inl rfl⟩ rfl fun Q hQ hN => ?_
  simp only [tr_seq, tr_block, tr_loop, tr_cond, tr_skip, tr_exit, tr_ret, tr_reg]
  rw [tr_calm (by kernel_rfl), tr_cut 15 (by kernel_rfl)]
  simp only [vmA, sN1, reduceIte, sN2, sN3, reduceCtorEq, sN4, sI1, sI2, sI3, sN5, sN6, List.length_map]
  rw [wr (by omega)]
  refine WT_loop (fun (p : Nat × List Int) σ => (p.1 ≤ xs.length + 1 ∧ p.2.Perm xs ∧ ∀ u v, u < v → v < p.1 → v < xs.length → p.2[u]! ≤ p.2[v]!) ∧ σ.sl 0 = .hd 0 1 0 xs.length false ∧ (σ.en 0).live = true ∧ (σ.en 0).gen = 1 ∧ (σ.en 0).frz = false ∧ (σ.en 0).sz = 1 ∧ (σ.en 0).elems = p.2.map iA ∧ σ.sl 1 = .int .i64 0 ∧ σ.sl 2 = .int .i64 xs.length ∧ σ.sl 6 = .int .i64 p.1) (fun p => xs.length + 1 - p.1) (1, xs) ⟨⟨by dsimp only; omega, .refl _, fun u v h1 h2 => absurd h1 (by dsimp only at h2; omega)⟩, by simp [vmI], by simp [vmI], by simp [vmI], by simp [vmI], by simp [vmI], by simp [vmI], by simp [vmI], by simp [vmI], by simp [vmI]⟩ ?_
  rintro ⟨i, ys⟩ σ ⟨⟨hi, hp, hs⟩, e0, l1, l2, l3, l4, l5, e1, e2, e6⟩
  dsimp only at hi hp hs l5 e6
  have hyl := hp.length_eq
  simp only [vmA, sN1, reduceIte, sN2, sN3, reduceCtorEq, sN4, sI1, sI2, sI3, sN5, sN6, e0, l1, l2, l3, l4, l5, e1, e2, e6, List.length_map, hyl]
  refine ⟨fun hlt => ?_, fun hge => ?_⟩
  · refine WT_loop (fun (p : Nat × List Int) σ => (p.1 ≤ i ∧ p.2.Perm xs ∧ OrdX p.2 i p.1) ∧ σ.sl 0 = .hd 0 1 0 xs.length false ∧ (σ.en 0).live = true ∧ (σ.en 0).gen = 1 ∧ (σ.en 0).frz = false ∧ (σ.en 0).sz = 1 ∧ (σ.en 0).elems = p.2.map iA ∧ σ.sl 1 = .int .i64 0 ∧ σ.sl 2 = .int .i64 xs.length ∧ σ.sl 6 = .int .i64 i ∧ σ.sl 7 = .int .i64 p.1) (fun p => p.1) (i, ys) ⟨⟨Nat.le_refl _, hp, ⟨fun p q h1 h2 h3 h4 => hs p q h1 (by omega) (by omega), fun q h1 h2 => absurd h1 (by omega)⟩⟩, by simp [vmI, e0], by simp [vmI, l1], by simp [vmI, l2], by simp [vmI, l3], by simp [vmI, l4], by simp [vmI, l5], by simp [vmI, e1], by simp [vmI, e2], by simp [vmI, e6], by simp [vmI]⟩ ?_
    clear e0 l1 l2 l3 l4 l5 e1 e2 e6
    rintro ⟨j, zs⟩ σ ⟨⟨hj, hpz, ho⟩, e0, l1, l2, l3, l4, l5, e1, e2, e6, e7⟩
    dsimp only at hj hpz ho l5 e7
    have hzl := hpz.length_eq
    simp only [vmA, sN1, reduceIte, sN2, sN3, reduceCtorEq, sN4, sI1, sI2, sI3, sN5, sN6, e0, l1, l2, l3, l4, l5, e1, e2, e6, e7, List.length_map, hzl]
    have hj1 : ((j : Int) - 1).toNat = j - 1 := by omega
    have hend : (j = 0 ∨ ¬ zs[j]! < zs[j - 1]!) → ∀ u v, u < v → v < i + 1 → v < xs.length → zs[u]! ≤ zs[v]! := fun h u v h1 h2 _ => ho.done hj h u v h1 h2
    refine ⟨fun h0 => ?_, fun h0 => ?_⟩
    · rw [wr (by omega)]
      refine ⟨by omega, by omega, by omega, by omega, callD (f168 _ _) ?_⟩
      simp only [vmA, sN1, reduceIte, sN2, sN3, reduceCtorEq, sN4, sI1, sI2, sI3, sN5, sN6, e0, l1, l2, l3, l4, l5, e1, e2, e6, e7, List.length_map, hzl, hj1, set_iA]
      refine ⟨fun hlt2 => ?_, fun hnl => ?_⟩
      · rw [wr (by omega), hj1]
        refine ⟨⟨by omega, by omega⟩, by omega, by omega, by omega, by omega, by omega, ?_⟩
        simp only [vmA, sN1, reduceIte, sN2, sN3, reduceCtorEq, sN4, sI1, sI2, sI3, sN5, sN6, e0, l1, l2, l3, l4, l5, e1, e2, e6, e7, List.length_map, hzl, hj1, set_iA, List.length_set]
        refine ⟨⟨by omega, by omega⟩, by omega, (j - 1, swp zs j), ⟨⟨by dsimp only; omega, (swp_perm (by omega) (by omega)).trans hpz, ho.swp (by omega) hj (by omega) hlt2⟩, rfl, leafN (by dsimp only; omega)⟩, by dsimp only; omega⟩
      · rw [wr (by omega)]
        exact ⟨(i + 1, zs), ⟨⟨by dsimp only; omega, hpz, hend (.inr hnl)⟩, rfl, rfl⟩, by dsimp only; omega⟩
    · rw [wr (by omega)]
      exact ⟨(i + 1, zs), ⟨⟨by dsimp only; omega, hpz, hend (.inl (by omega))⟩, rfl, rfl⟩, by dsimp only; omega⟩
  · (refine hN _ ?_; simp only [vmA, sN1, reduceIte, sN2, sN3, reduceCtorEq, sN4, sI1, sI2, sI3, sN5, sN6, Tryz.f197, retG, resL, St.closeVs, St.closeV, leftV, ghostW, e0, l1, l2, l3, l4, l5, e1, e2, e6, List.length_map, hyl])
    refine ⟨ys, ?_, hp, fun p q h1 h2 => hs p q h1 (by omega) (by omega)⟩
    rw [List.take_of_length_le (by simp; omega)]
theorem f149 (xs : List Int) (k : Int) (hl : xs.length ≤ 12) : FxR 149 [.own 1 (xs.map iA), .int .i64 0, .int .i64 xs.length, .int .i64 k] fun r l => r = .tup [] ∧ ∃ ys : List Int, l = .own 1 (ys.map iA) ∧ ys.Perm xs ∧ ∀ p q, p < q → q < ys.length → ys[p]! ≤ ys[q]! := by
  refine fn_ofW false (k := 0) Tryz.func149 (by kernel_rfl) rfl (by kernel_rfl) (by kernel_rfl) (Nat.le_of_ble_eq_true rfl) rfl ⟨_, _, .inl rfl⟩ rfl fun Q hQ => ?_
  simp only [vmA, sN1, reduceIte, sN2, sN3, reduceCtorEq, sN4, sI1, sI2, sI3, sN5, sN6, List.length_map]
  refine WT_loop (fun (_ : Unit) σ => σ.sl 0 = .hd 0 1 0 xs.length false ∧ (σ.en 0).live = true ∧ (σ.en 0).gen = 1 ∧ (σ.en 0).frz = false ∧ (σ.en 0).sz = 1 ∧ (σ.en 0).elems = xs.map iA ∧ σ.sl 1 = .int .i64 0 ∧ σ.sl 2 = .int .i64 xs.length) (fun _ => 0) () ⟨by simp [vmI], by simp [vmI], by simp [vmI], by simp [vmI], by simp [vmI], by simp [vmI], by simp [vmI], by simp [vmI]⟩ ?_
  rintro _ σ ⟨e0, l1, l2, l3, l4, l5, e1, e2⟩
  have hw : IntKind.i64.wrap ((xs.length : Int) - 0) = xs.length := by rw [wr (by omega)]; omega
  have hA : ((xs.length : Int) ≤ 12) = True := eq_true (by omega)
  simp only [vmA, sN1, reduceIte, sN2, sN3, reduceCtorEq, sN4, sI1, sI2, sI3, sN5, sN6, e0, l1, l2, l3, l4, l5, e1, e2, List.length_map, hw, hA, true_implies, not_true_eq_false, false_implies]
  refine callR (f197 xs (by omega)) ?_
  rintro _ _ ⟨rfl, ys, rfl, hp, hs⟩
  have hyl := hp.length_eq
  simp only [vmA, sN1, reduceIte, sN2, sN3, reduceCtorEq, sN4, sI1, sI2, sI3, sN5, sN6, e0, l1, l2, l3, l4, l5, e1, e2, List.length_map, hyl]
  (refine hQ _ ?_; simp only [vmA, sN1, reduceIte, sN2, sN3, reduceCtorEq, sN4, sI1, sI2, sI3, sN5, sN6, Tryz.f149, retG, resL, St.closeVs, St.closeV, leftV, ghostW, e0, l1, l2, l3, l4, l5, e1, e2, List.length_map, hyl])
  exact ⟨ys, by rw [List.take_of_length_le (by simp; omega)], hp, hs⟩
theorem f89 (xs : List Int) (hl : xs.length ≤ 12) : FxR 89 [.own 1 (xs.map iA)] fun r l => r = .tup [] ∧ ∃ ys : List Int, l = .own 1 (ys.map iA) ∧ ys.Perm xs ∧ ∀ p q, p < q → q < ys.length → ys[p]! ≤ ys[q]! := by
  refine fn_ofWN false (k := 0) Tryz.func89 (by kernel_rfl) rfl (by kernel_rfl) (by kernel_rfl) (Nat.le_of_ble_eq_true rfl) rfl ⟨_, _, .inl rfl⟩ rfl fun Q hQ hN => ?_
  simp only [tr_seq, tr_block, tr_loop, tr_cond, tr_skip, tr_exit, tr_ret, tr_reg]
  have hw : IntKind.u64.wrap (xs.length : Int) = xs.length := by simp [IntKind.wrap, IntKind.bits, IntKind.signed]; omega
  simp only [vmA, sN1, reduceIte, sN2, sN3, reduceCtorEq, sN4, sI1, sI2, sI3, sN5, sN6, List.length_map, tt128, hw]
  refine callR (f98 xs.length (by omega) (by omega)) ?_
  rintro _ _ ⟨⟨k, rfl⟩, rfl⟩
  simp only [vmA, sN1, reduceIte, sN2, sN3, reduceCtorEq, sN4, sI1, sI2, sI3, sN5, sN6, List.length_map, tt128, hw]
  refine callR (f149 xs k hl) ?_
  rintro _ _ ⟨rfl, ys, rfl, hp, hs⟩
  have hyl := hp.length_eq
  simp only [vmA, sN1, reduceIte, sN2, sN3, reduceCtorEq, sN4, sI1, sI2, sI3, sN5, sN6, List.length_map, hyl]
  (refine hN _ ?_; simp only [vmA, sN1, reduceIte, sN2, sN3, reduceCtorEq, sN4, sI1, sI2, sI3, sN5, sN6, Tryz.f89, retG, resL, St.closeVs, St.closeV, leftV, ghostW, List.length_map, hyl])
  exact ⟨ys, by rw [List.take_of_length_le (by simp; omega)], hp, hs⟩
