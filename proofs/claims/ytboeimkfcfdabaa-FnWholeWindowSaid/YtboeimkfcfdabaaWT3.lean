/- WALK of functions of the seat, or plain laws for it: each theorem f<k> says what function k returns, for every world and all arguments that stand for the values named. Conditions: none but those ahead of each theorem. -/
import Derived.Test.YtboeimkfcfdabaaWT2
import Derived.Test.YtboeimkfcfdabaaWKc
import Derived.Test.YtboeimkfcfdabaaWE1
open Go Go.Vm Go.Proofs
set_option maxRecDepth 100000
set_option maxHeartbeats 8000000
set_option linter.unusedSimpArgs false
set_option linter.unusedVariables false
set_option maxHeartbeats 8000000
set_option linter.unusedSimpArgs false
set_option linter.unusedVariables false
theorem app_vA (vs : List Val) (a b : Int) (s : ByteArray) : vs.map vA ++ [.agg [.int .i64 a, .int .i64 b, .str s]] = (vs ++ [Val.mk a b s]).map vA := by rw [List.map_append]; rfl
theorem app_vA3 (vs : List Val) (a b a2 b2 a3 b3 : Int) (s s2 s3 : ByteArray) : vs.map vA ++ [.agg [.int .i64 a, .int .i64 b, .str s], .agg [.int .i64 a2, .int .i64 b2, .str s2], .agg [.int .i64 a3, .int .i64 b3, .str s3]] = (vs ++ [Val.mk a b s, Val.mk a2 b2 s2, Val.mk a3 b3 s3]).map vA := by rw [List.map_append]; rfl
theorem f91 (xs : List UInt8) (c : Bool) (p : Int) (col : Col) (hl : xs.length ≤ 2000) (h0 : 0 ≤ p) (h1 : p ≤ 1099511627000) : FxR 91 [rdP xs c p, cA col] fun r l => ∃ (v : Val) (q : Int), r = vA v ∧ v.s.size ≤ 20 ∧ p ≤ q ∧ q ≤ p + 2 ∧ l = rdP xs c q := by
  obtain ⟨k, e⟩ := col
  cases e
  · refine fn_ofW ⟨false, [], []⟩ (k := 0) Try.func91 (by kernel_rfl) rfl (by kernel_rfl) (by kernel_rfl) (Nat.le_of_ble_eq_true rfl) rfl ⟨_, _, .inr ⟨_, _, rfl⟩⟩ rfl fun Q hQ => ?_
    simp only [vmA, Nat.reduceEqDiff, reduceIte, Nat.reduceAdd, Nat.reduceBEq, reduceCtorEq, Nat.reduceLT, Int.reduceLE, Int.reduceLT, Int.reduceEq, Nat.reduceMul, Nat.reduceLeDiff, rdP, rdA, vA, cA, app_vA, app_vA3]
    refine ⟨fun h => callR (f35 xs c p 4 hl (by omega) (by omega)) ?_, fun _ => ⟨fun h => callR (f35 xs c p 4 hl (by omega) (by omega)) ?_, fun _ => callR (f35 xs c p 2 hl (by omega) (by omega)) ?_⟩⟩
    · rintro _ _ ⟨j, rfl, hj0, hjn, rfl⟩
      simp only [vmA, Nat.reduceEqDiff, reduceIte, Nat.reduceAdd, Nat.reduceBEq, reduceCtorEq, Nat.reduceLT, Int.reduceLE, Int.reduceLT, Int.reduceEq, Nat.reduceMul, Nat.reduceLeDiff, rdP, rdA, vA, cA, app_vA, app_vA3]
      (refine hQ _ ?_; simp only [vmA, Nat.reduceEqDiff, reduceIte, Nat.reduceAdd, Nat.reduceBEq, reduceCtorEq, Nat.reduceLT, Int.reduceLE, Int.reduceLT, Int.reduceEq, Nat.reduceMul, Nat.reduceLeDiff, Try.f91, retG, resL, St.closeVs, St.closeV, leftV, ghostW, rdP, rdA, vA, cA, app_vA, app_vA3])
      exact ⟨⟨1, j, ⟨⟨[]⟩⟩⟩, p + 1, rfl, by show (0 : Nat) ≤ 20; omega, by omega, by omega, rfl⟩
    · rintro _ _ ⟨j, rfl, hj0, hjn, rfl⟩
      obtain rfl | rfl | rfl | rfl : j = 0 ∨ j = 1 ∨ j = 2 ∨ j = 3 := by omega
      · simp only [vmA, Nat.reduceEqDiff, reduceIte, Nat.reduceAdd, Nat.reduceBEq, reduceCtorEq, Nat.reduceLT, Int.reduceLE, Int.reduceLT, Int.reduceEq, Nat.reduceMul, Nat.reduceLeDiff, rdP, rdA, vA, cA, app_vA, app_vA3, Int.toNat_zero, Int.toNat_one, Int.reduceToNat]
        refine ⟨by omega, ?_⟩
        (refine hQ _ ?_; simp only [vmA, Nat.reduceEqDiff, reduceIte, Nat.reduceAdd, Nat.reduceBEq, reduceCtorEq, Nat.reduceLT, Int.reduceLE, Int.reduceLT, Int.reduceEq, Nat.reduceMul, Nat.reduceLeDiff, Try.f91, retG, resL, St.closeVs, St.closeV, leftV, ghostW, rdP, rdA, vA, cA, app_vA, app_vA3])
        exact ⟨⟨2, 0, _⟩, p + 1, rfl, by decide, by omega, by omega, rfl⟩
      · simp only [vmA, Nat.reduceEqDiff, reduceIte, Nat.reduceAdd, Nat.reduceBEq, reduceCtorEq, Nat.reduceLT, Int.reduceLE, Int.reduceLT, Int.reduceEq, Nat.reduceMul, Nat.reduceLeDiff, rdP, rdA, vA, cA, app_vA, app_vA3, Int.toNat_zero, Int.toNat_one, Int.reduceToNat]
        refine ⟨by omega, ?_⟩
        (refine hQ _ ?_; simp only [vmA, Nat.reduceEqDiff, reduceIte, Nat.reduceAdd, Nat.reduceBEq, reduceCtorEq, Nat.reduceLT, Int.reduceLE, Int.reduceLT, Int.reduceEq, Nat.reduceMul, Nat.reduceLeDiff, Try.f91, retG, resL, St.closeVs, St.closeV, leftV, ghostW, rdP, rdA, vA, cA, app_vA, app_vA3])
        exact ⟨⟨2, 0, _⟩, p + 1, rfl, by decide, by omega, by omega, rfl⟩
      · simp only [vmA, Nat.reduceEqDiff, reduceIte, Nat.reduceAdd, Nat.reduceBEq, reduceCtorEq, Nat.reduceLT, Int.reduceLE, Int.reduceLT, Int.reduceEq, Nat.reduceMul, Nat.reduceLeDiff, rdP, rdA, vA, cA, app_vA, app_vA3, Int.toNat_zero, Int.toNat_one, Int.reduceToNat]
        refine ⟨by omega, ?_⟩
        (refine hQ _ ?_; simp only [vmA, Nat.reduceEqDiff, reduceIte, Nat.reduceAdd, Nat.reduceBEq, reduceCtorEq, Nat.reduceLT, Int.reduceLE, Int.reduceLT, Int.reduceEq, Nat.reduceMul, Nat.reduceLeDiff, Try.f91, retG, resL, St.closeVs, St.closeV, leftV, ghostW, rdP, rdA, vA, cA, app_vA, app_vA3])
        exact ⟨⟨2, 0, _⟩, p + 1, rfl, by decide, by omega, by omega, rfl⟩
      · simp only [vmA, Nat.reduceEqDiff, reduceIte, Nat.reduceAdd, Nat.reduceBEq, reduceCtorEq, Nat.reduceLT, Int.reduceLE, Int.reduceLT, Int.reduceEq, Nat.reduceMul, Nat.reduceLeDiff, rdP, rdA, vA, cA, app_vA, app_vA3, Int.toNat_zero, Int.toNat_one, Int.reduceToNat]
        refine ⟨by omega, ?_⟩
        (refine hQ _ ?_; simp only [vmA, Nat.reduceEqDiff, reduceIte, Nat.reduceAdd, Nat.reduceBEq, reduceCtorEq, Nat.reduceLT, Int.reduceLE, Int.reduceLT, Int.reduceEq, Nat.reduceMul, Nat.reduceLeDiff, Try.f91, retG, resL, St.closeVs, St.closeV, leftV, ghostW, rdP, rdA, vA, cA, app_vA, app_vA3])
        exact ⟨⟨2, 0, _⟩, p + 1, rfl, by decide, by omega, by omega, rfl⟩
    · rintro _ _ ⟨j, rfl, hj0, hjn, rfl⟩
      simp only [vmA, Nat.reduceEqDiff, reduceIte, Nat.reduceAdd, Nat.reduceBEq, reduceCtorEq, Nat.reduceLT, Int.reduceLE, Int.reduceLT, Int.reduceEq, Nat.reduceMul, Nat.reduceLeDiff, rdP, rdA, vA, cA, app_vA, app_vA3]
      (refine hQ _ ?_; simp only [vmA, Nat.reduceEqDiff, reduceIte, Nat.reduceAdd, Nat.reduceBEq, reduceCtorEq, Nat.reduceLT, Int.reduceLE, Int.reduceLT, Int.reduceEq, Nat.reduceMul, Nat.reduceLeDiff, Try.f91, retG, resL, St.closeVs, St.closeV, leftV, ghostW, rdP, rdA, vA, cA, app_vA, app_vA3])
      exact ⟨⟨3, j, ⟨⟨[]⟩⟩⟩, p + 1, rfl, by show (0 : Nat) ≤ 20; omega, by omega, by omega, rfl⟩
  · refine fn_ofW ⟨false, [], []⟩ (k := 0) Try.func91 (by kernel_rfl) rfl (by kernel_rfl) (by kernel_rfl) (Nat.le_of_ble_eq_true rfl) rfl ⟨_, _, .inr ⟨_, _, rfl⟩⟩ rfl fun Q hQ => ?_
    simp only [vmA, Nat.reduceEqDiff, reduceIte, Nat.reduceAdd, Nat.reduceBEq, reduceCtorEq, Nat.reduceLT, Int.reduceLE, Int.reduceLT, Int.reduceEq, Nat.reduceMul, Nat.reduceLeDiff, rdP, rdA, vA, cA, app_vA, app_vA3]
    refine callR (f35 xs c p 5 hl (by omega) (by omega)) ?_
    rintro _ _ ⟨j, rfl, hj0, hjn, rfl⟩
    simp only [vmA, Nat.reduceEqDiff, reduceIte, Nat.reduceAdd, Nat.reduceBEq, reduceCtorEq, Nat.reduceLT, Int.reduceLE, Int.reduceLT, Int.reduceEq, Nat.reduceMul, Nat.reduceLeDiff, rdP, rdA, vA, cA, app_vA, app_vA3]
    refine ⟨fun h => ?_, fun h => ?_⟩
    · (refine hQ _ ?_; simp only [vmA, Nat.reduceEqDiff, reduceIte, Nat.reduceAdd, Nat.reduceBEq, reduceCtorEq, Nat.reduceLT, Int.reduceLE, Int.reduceLT, Int.reduceEq, Nat.reduceMul, Nat.reduceLeDiff, Try.f91, retG, resL, St.closeVs, St.closeV, leftV, ghostW, rdP, rdA, vA, cA, app_vA, app_vA3])
      exact ⟨v0, p + 1, rfl, by show (0 : Nat) ≤ 20; omega, by omega, by omega, rfl⟩
    refine ⟨fun h => callR (f35 xs c (p + 1) 4 hl (by omega) (by omega)) ?_, fun _ => ⟨fun h => callR (f35 xs c (p + 1) 4 hl (by omega) (by omega)) ?_, fun _ => callR (f35 xs c (p + 1) 2 hl (by omega) (by omega)) ?_⟩⟩
    · rintro _ _ ⟨j, rfl, hj0, hjn, rfl⟩
      simp only [vmA, Nat.reduceEqDiff, reduceIte, Nat.reduceAdd, Nat.reduceBEq, reduceCtorEq, Nat.reduceLT, Int.reduceLE, Int.reduceLT, Int.reduceEq, Nat.reduceMul, Nat.reduceLeDiff, rdP, rdA, vA, cA, app_vA, app_vA3]
      (refine hQ _ ?_; simp only [vmA, Nat.reduceEqDiff, reduceIte, Nat.reduceAdd, Nat.reduceBEq, reduceCtorEq, Nat.reduceLT, Int.reduceLE, Int.reduceLT, Int.reduceEq, Nat.reduceMul, Nat.reduceLeDiff, Try.f91, retG, resL, St.closeVs, St.closeV, leftV, ghostW, rdP, rdA, vA, cA, app_vA, app_vA3])
      exact ⟨⟨1, j, ⟨⟨[]⟩⟩⟩, (p + 1) + 1, rfl, by show (0 : Nat) ≤ 20; omega, by omega, by omega, rfl⟩
    · rintro _ _ ⟨j, rfl, hj0, hjn, rfl⟩
      obtain rfl | rfl | rfl | rfl : j = 0 ∨ j = 1 ∨ j = 2 ∨ j = 3 := by omega
      · simp only [vmA, Nat.reduceEqDiff, reduceIte, Nat.reduceAdd, Nat.reduceBEq, reduceCtorEq, Nat.reduceLT, Int.reduceLE, Int.reduceLT, Int.reduceEq, Nat.reduceMul, Nat.reduceLeDiff, rdP, rdA, vA, cA, app_vA, app_vA3, Int.toNat_zero, Int.toNat_one, Int.reduceToNat]
        refine ⟨by omega, ?_⟩
        (refine hQ _ ?_; simp only [vmA, Nat.reduceEqDiff, reduceIte, Nat.reduceAdd, Nat.reduceBEq, reduceCtorEq, Nat.reduceLT, Int.reduceLE, Int.reduceLT, Int.reduceEq, Nat.reduceMul, Nat.reduceLeDiff, Try.f91, retG, resL, St.closeVs, St.closeV, leftV, ghostW, rdP, rdA, vA, cA, app_vA, app_vA3])
        exact ⟨⟨2, 0, _⟩, (p + 1) + 1, rfl, by decide, by omega, by omega, rfl⟩
      · simp only [vmA, Nat.reduceEqDiff, reduceIte, Nat.reduceAdd, Nat.reduceBEq, reduceCtorEq, Nat.reduceLT, Int.reduceLE, Int.reduceLT, Int.reduceEq, Nat.reduceMul, Nat.reduceLeDiff, rdP, rdA, vA, cA, app_vA, app_vA3, Int.toNat_zero, Int.toNat_one, Int.reduceToNat]
        refine ⟨by omega, ?_⟩
        (refine hQ _ ?_; simp only [vmA, Nat.reduceEqDiff, reduceIte, Nat.reduceAdd, Nat.reduceBEq, reduceCtorEq, Nat.reduceLT, Int.reduceLE, Int.reduceLT, Int.reduceEq, Nat.reduceMul, Nat.reduceLeDiff, Try.f91, retG, resL, St.closeVs, St.closeV, leftV, ghostW, rdP, rdA, vA, cA, app_vA, app_vA3])
        exact ⟨⟨2, 0, _⟩, (p + 1) + 1, rfl, by decide, by omega, by omega, rfl⟩
      · simp only [vmA, Nat.reduceEqDiff, reduceIte, Nat.reduceAdd, Nat.reduceBEq, reduceCtorEq, Nat.reduceLT, Int.reduceLE, Int.reduceLT, Int.reduceEq, Nat.reduceMul, Nat.reduceLeDiff, rdP, rdA, vA, cA, app_vA, app_vA3, Int.toNat_zero, Int.toNat_one, Int.reduceToNat]
        refine ⟨by omega, ?_⟩
        (refine hQ _ ?_; simp only [vmA, Nat.reduceEqDiff, reduceIte, Nat.reduceAdd, Nat.reduceBEq, reduceCtorEq, Nat.reduceLT, Int.reduceLE, Int.reduceLT, Int.reduceEq, Nat.reduceMul, Nat.reduceLeDiff, Try.f91, retG, resL, St.closeVs, St.closeV, leftV, ghostW, rdP, rdA, vA, cA, app_vA, app_vA3])
        exact ⟨⟨2, 0, _⟩, (p + 1) + 1, rfl, by decide, by omega, by omega, rfl⟩
      · simp only [vmA, Nat.reduceEqDiff, reduceIte, Nat.reduceAdd, Nat.reduceBEq, reduceCtorEq, Nat.reduceLT, Int.reduceLE, Int.reduceLT, Int.reduceEq, Nat.reduceMul, Nat.reduceLeDiff, rdP, rdA, vA, cA, app_vA, app_vA3, Int.toNat_zero, Int.toNat_one, Int.reduceToNat]
        refine ⟨by omega, ?_⟩
        (refine hQ _ ?_; simp only [vmA, Nat.reduceEqDiff, reduceIte, Nat.reduceAdd, Nat.reduceBEq, reduceCtorEq, Nat.reduceLT, Int.reduceLE, Int.reduceLT, Int.reduceEq, Nat.reduceMul, Nat.reduceLeDiff, Try.f91, retG, resL, St.closeVs, St.closeV, leftV, ghostW, rdP, rdA, vA, cA, app_vA, app_vA3])
        exact ⟨⟨2, 0, _⟩, (p + 1) + 1, rfl, by decide, by omega, by omega, rfl⟩
    · rintro _ _ ⟨j, rfl, hj0, hjn, rfl⟩
      simp only [vmA, Nat.reduceEqDiff, reduceIte, Nat.reduceAdd, Nat.reduceBEq, reduceCtorEq, Nat.reduceLT, Int.reduceLE, Int.reduceLT, Int.reduceEq, Nat.reduceMul, Nat.reduceLeDiff, rdP, rdA, vA, cA, app_vA, app_vA3]
      (refine hQ _ ?_; simp only [vmA, Nat.reduceEqDiff, reduceIte, Nat.reduceAdd, Nat.reduceBEq, reduceCtorEq, Nat.reduceLT, Int.reduceLE, Int.reduceLT, Int.reduceEq, Nat.reduceMul, Nat.reduceLeDiff, Try.f91, retG, resL, St.closeVs, St.closeV, leftV, ghostW, rdP, rdA, vA, cA, app_vA, app_vA3])
      exact ⟨⟨3, j, ⟨⟨[]⟩⟩⟩, (p + 1) + 1, rfl, by show (0 : Nat) ≤ 20; omega, by omega, by omega, rfl⟩

/-- A row that is drawn. -/
def okD (r : List Val) : Prop := r.length ≤ 20 ∧ ∀ v ∈ r, v.s.size ≤ 20
theorem f74 (xs : List UInt8) (c c2 : Bool) (p n : Int) (cols : List Col) (hl : xs.length ≤ 2000) (h0 : 0 ≤ p) (h1 : p ≤ 1099511620000) (hn : n = 0 ∨ 0 < n ∧ n ≤ 1000000) (hc : cols.length ≤ 10) : FxR 74 [rdP xs c p, .fro none c2 (cols.map cA), .int .i64 n] fun r l => ∃ (vs : List Val) (q : Int), r = .own 3 (vs.map vA) ∧ okD vs ∧ p ≤ q ∧ q ≤ p + 100 ∧ l = rdP xs c q := by
  refine fn_ofW ⟨false, [], []⟩ (k := 0) Try.func74 (by kernel_rfl) rfl (by kernel_rfl) (by kernel_rfl) (Nat.le_of_ble_eq_true rfl) rfl ⟨_, _, .inr ⟨_, _, rfl⟩⟩ rfl fun Q hQ => ?_
  simp only [vmA, Nat.reduceEqDiff, reduceIte, Nat.reduceAdd, Nat.reduceBEq, reduceCtorEq, Nat.reduceLT, Int.reduceLE, Int.reduceLT, Int.reduceEq, Nat.reduceMul, Nat.reduceLeDiff, rdP, rdA, vA, cA, app_vA, app_vA3, List.length_map]
  refine WT_loopR (fun (zz : List Val × Int × Nat) σ => (zz.1.length ≤ cols.length ∧ (∀ v ∈ zz.1, v.s.size ≤ 20) ∧ p ≤ zz.2.1 ∧ zz.2.1 ≤ p + 2 * zz.1.length) ∧ σ.sl 8 = .int .i64 zz.1.length ∧ σ.sl 0 = .ptr 0 1 0 0 ∧ (σ.en 0).live = true ∧ (σ.en 0).gen = 1 ∧ (σ.en 0).frz = false ∧ (σ.en 0).sz = 2 ∧ (σ.en 0).elems = [rdA xs c zz.2.1] ∧ σ.sl 1 = .fro none c2 (cols.map cA) ∧ σ.sl 2 = .int .i64 n ∧ σ.sl 7 = .hd 448 zz.2.2 0 zz.1.length false ∧ (σ.en 448).live = true ∧ (σ.en 448).gen = zz.2.2 ∧ (σ.en 448).frz = false ∧ (σ.en 448).sz = 3 ∧ (σ.en 448).elems = zz.1.map vA) (fun zz => cols.length - zz.1.length) 7 ?_ ?_
  · simp only [vmA, Nat.reduceEqDiff, reduceIte, Nat.reduceAdd, Nat.reduceBEq, reduceCtorEq, Nat.reduceLT, Int.reduceLE, Int.reduceLT, Int.reduceEq, Nat.reduceMul, Nat.reduceLeDiff, reown, rdP, rdA, vA, cA, app_vA, app_vA3]
    exact ⟨([], p, 1), ⟨Nat.zero_le _, by simp, by dsimp only; omega, by show p ≤ p + 2 * ((0 : Nat) : Int); omega⟩, rfl, rfl, rfl, rfl, rfl⟩
  rintro ⟨vs, q, γ⟩ σ ⟨hi, e8, e0, m0a, m0b, m0c, m0d, m0e, e1, e2, e7, m448a, m448b, m448c, m448d, m448e⟩
  try dsimp only at e8 e0 m0a m0b m0c m0d m0e e1 e2 e7 m448a m448b m448c m448d m448e hi
  obtain ⟨i1, i2, i3, i4⟩ := hi
  simp only [vmA, Nat.reduceEqDiff, reduceIte, Nat.reduceAdd, Nat.reduceBEq, reduceCtorEq, Nat.reduceLT, Int.reduceLE, Int.reduceLT, Int.reduceEq, Nat.reduceMul, Nat.reduceLeDiff, e8, e0, m0a, m0b, m0c, m0d, m0e, e1, e2, e7, m448a, m448b, m448c, m448d, m448e, rdP, rdA, vA, cA, app_vA, app_vA3, List.length_map]
  refine ⟨fun h => ⟨h, by omega, callR (f91 xs c q cols[vs.length]! hl (by omega) (by omega)) ?_⟩, fun h => callR (f92g xs c q n hl (by omega) (by omega) hn) ?_⟩
  · rintro _ _ ⟨v, q2, rfl, hv, hq0, hq1, rfl⟩
    simp only [vmA, Nat.reduceEqDiff, reduceIte, Nat.reduceAdd, Nat.reduceBEq, reduceCtorEq, Nat.reduceLT, Int.reduceLE, Int.reduceLT, Int.reduceEq, Nat.reduceMul, Nat.reduceLeDiff, e8, e0, m0a, m0b, m0c, m0d, m0e, e1, e2, e7, m448a, m448b, m448c, m448d, m448e, rdP, rdA, vA, cA, app_vA, app_vA3, List.length_map, reown]
    rw [List.take_of_length_le (by simp), List.length_map, wr (by omega)]
    exact ⟨⟨by omega, by omega⟩, by simp, (vs ++ [v], q2, γ + 1 + 1), ⟨⟨by simp; omega, fun w hw => (by
      rcases List.mem_append.1 hw with hw | hw
      · exact i2 w hw
      · simp at hw; subst hw; exact hv), by dsimp only; omega, by simp; omega⟩, leafJ (by simp), rfl, by simp, rfl, rfl⟩, by simp; omega⟩
  · rintro _ _ ⟨b, q2, rfl, hq0, hq1, rfl⟩
    cases b
    · simp only [vmA, Nat.reduceEqDiff, reduceIte, Nat.reduceAdd, Nat.reduceBEq, reduceCtorEq, Nat.reduceLT, Int.reduceLE, Int.reduceLT, Int.reduceEq, Nat.reduceMul, Nat.reduceLeDiff, e8, e0, m0a, m0b, m0c, m0d, m0e, e1, e2, e7, m448a, m448b, m448c, m448d, m448e, rdP, rdA, vA, cA, app_vA, app_vA3, List.length_map]
      (refine hQ _ ?_; simp only [vmA, Nat.reduceEqDiff, reduceIte, Nat.reduceAdd, Nat.reduceBEq, reduceCtorEq, Nat.reduceLT, Int.reduceLE, Int.reduceLT, Int.reduceEq, Nat.reduceMul, Nat.reduceLeDiff, Try.f74, retG, resL, St.closeVs, St.closeV, leftV, ghostW, e8, e0, m0a, m0b, m0c, m0d, m0e, e1, e2, e7, m448a, m448b, m448c, m448d, m448e, rdP, rdA, vA, cA, app_vA, app_vA3, List.length_map])
      exact ⟨vs, q2, rfl, ⟨by omega, i2⟩, by omega, by omega, rfl⟩
    · simp only [vmA, Nat.reduceEqDiff, reduceIte, Nat.reduceAdd, Nat.reduceBEq, reduceCtorEq, Nat.reduceLT, Int.reduceLE, Int.reduceLT, Int.reduceEq, Nat.reduceMul, Nat.reduceLeDiff, e8, e0, m0a, m0b, m0c, m0d, m0e, e1, e2, e7, m448a, m448b, m448c, m448d, m448e, rdP, rdA, vA, cA, app_vA, app_vA3, List.length_map]
      refine callR (f35 xs c q2 3 hl (by omega) (by omega)) ?_
      rintro _ _ ⟨j, rfl, hj0, hjn, rfl⟩
      simp only [vmA, Nat.reduceEqDiff, reduceIte, Nat.reduceAdd, Nat.reduceBEq, reduceCtorEq, Nat.reduceLT, Int.reduceLE, Int.reduceLT, Int.reduceEq, Nat.reduceMul, Nat.reduceLeDiff, e8, e0, m0a, m0b, m0c, m0d, m0e, e1, e2, e7, m448a, m448b, m448c, m448d, m448e, rdP, rdA, vA, cA, app_vA, app_vA3, List.length_map]
      refine ⟨fun h => ?_, fun _ => ⟨fun h => ?_, fun _ => ?_⟩⟩
      · refine ⟨⟨by omega, by omega⟩, ?_⟩
        (refine hQ _ ?_; simp only [vmA, Nat.reduceEqDiff, reduceIte, Nat.reduceAdd, Nat.reduceBEq, reduceCtorEq, Nat.reduceLT, Int.reduceLE, Int.reduceLT, Int.reduceEq, Nat.reduceMul, Nat.reduceLeDiff, Try.f74, retG, resL, St.closeVs, St.closeV, leftV, ghostW, e8, e0, m0a, m0b, m0c, m0d, m0e, e1, e2, e7, m448a, m448b, m448c, m448d, m448e, rdP, rdA, vA, cA, app_vA, app_vA3, List.length_map])
        refine ⟨by simp, _, q2 + 1, by rw [List.take_of_length_le (by simp)], ⟨by simp; omega, fun w hw => ?_⟩, by omega, by omega, rfl⟩
        rcases List.mem_append.1 hw with hw | hw
        · exact i2 w hw
        · simp at hw; subst hw; exact Nat.zero_le _
      · refine ⟨fun h2 => callR (f35 xs c (q2 + 1) vs.length hl (by omega) (by omega)) ?_, fun _ => ?_⟩
        · rintro _ _ ⟨j2, rfl, hj20, hj2n, rfl⟩
          simp only [vmA, Nat.reduceEqDiff, reduceIte, Nat.reduceAdd, Nat.reduceBEq, reduceCtorEq, Nat.reduceLT, Int.reduceLE, Int.reduceLT, Int.reduceEq, Nat.reduceMul, Nat.reduceLeDiff, e8, e0, m0a, m0b, m0c, m0d, m0e, e1, e2, e7, m448a, m448b, m448c, m448d, m448e, rdP, rdA, vA, cA, app_vA, app_vA3, List.length_map]
          refine callR (f93 xs c (q2 + 1 + 1) 3 hl (by omega) (by omega) (.inr (by omega))) ?_
          rintro _ _ ⟨v, q3, rfl, hv, hq3, hq4, rfl⟩
          simp only [vmA, Nat.reduceEqDiff, reduceIte, Nat.reduceAdd, Nat.reduceBEq, reduceCtorEq, Nat.reduceLT, Int.reduceLE, Int.reduceLT, Int.reduceEq, Nat.reduceMul, Nat.reduceLeDiff, e8, e0, m0a, m0b, m0c, m0d, m0e, e1, e2, e7, m448a, m448b, m448c, m448d, m448e, rdP, rdA, vA, cA, app_vA, app_vA3, List.length_map]
          refine ⟨⟨by omega, by omega⟩, by omega, ?_⟩
          (refine hQ _ ?_; simp only [vmA, Nat.reduceEqDiff, reduceIte, Nat.reduceAdd, Nat.reduceBEq, reduceCtorEq, Nat.reduceLT, Int.reduceLE, Int.reduceLT, Int.reduceEq, Nat.reduceMul, Nat.reduceLeDiff, Try.f74, retG, resL, St.closeVs, St.closeV, leftV, ghostW, e8, e0, m0a, m0b, m0c, m0d, m0e, e1, e2, e7, m448a, m448b, m448c, m448d, m448e, rdP, rdA, vA, cA, app_vA, app_vA3, List.length_map, set_vA])
          refine ⟨by simp, _, q3, by rw [List.take_of_length_le (by simp)], ⟨by simp; omega, fun w hw => ?_⟩, by omega, by omega, rfl⟩
          rcases List.mem_or_eq_of_mem_set hw with hw | rfl
          · exact i2 w hw
          · exact hv
        · (refine hQ _ ?_; simp only [vmA, Nat.reduceEqDiff, reduceIte, Nat.reduceAdd, Nat.reduceBEq, reduceCtorEq, Nat.reduceLT, Int.reduceLE, Int.reduceLT, Int.reduceEq, Nat.reduceMul, Nat.reduceLeDiff, Try.f74, retG, resL, St.closeVs, St.closeV, leftV, ghostW, e8, e0, m0a, m0b, m0c, m0d, m0e, e1, e2, e7, m448a, m448b, m448c, m448d, m448e, rdP, rdA, vA, cA, app_vA, app_vA3, List.length_map])
          exact ⟨vs, q2 + 1, rfl, ⟨by omega, i2⟩, by omega, by omega, rfl⟩
      · refine callR (f93 xs c (q2 + 1) 0 hl (by omega) (by omega) (.inl rfl)) ?_
        rintro _ _ ⟨v, q3, rfl, hv, hq3, hq4, rfl⟩
        simp only [vmA, Nat.reduceEqDiff, reduceIte, Nat.reduceAdd, Nat.reduceBEq, reduceCtorEq, Nat.reduceLT, Int.reduceLE, Int.reduceLT, Int.reduceEq, Nat.reduceMul, Nat.reduceLeDiff, e8, e0, m0a, m0b, m0c, m0d, m0e, e1, e2, e7, m448a, m448b, m448c, m448d, m448e, rdP, rdA, vA, cA, app_vA, app_vA3, List.length_map]
        refine callR (f93 xs c q3 0 hl (by omega) (by omega) (.inl rfl)) ?_
        rintro _ _ ⟨v2, q4, rfl, hv2, hq5, hq6, rfl⟩
        simp only [vmA, Nat.reduceEqDiff, reduceIte, Nat.reduceAdd, Nat.reduceBEq, reduceCtorEq, Nat.reduceLT, Int.reduceLE, Int.reduceLT, Int.reduceEq, Nat.reduceMul, Nat.reduceLeDiff, e8, e0, m0a, m0b, m0c, m0d, m0e, e1, e2, e7, m448a, m448b, m448c, m448d, m448e, rdP, rdA, vA, cA, app_vA, app_vA3, List.length_map]
        refine callR (f93 xs c q4 0 hl (by omega) (by omega) (.inl rfl)) ?_
        rintro _ _ ⟨v3, q5, rfl, hv3, hq7, hq8, rfl⟩
        simp only [vmA, Nat.reduceEqDiff, reduceIte, Nat.reduceAdd, Nat.reduceBEq, reduceCtorEq, Nat.reduceLT, Int.reduceLE, Int.reduceLT, Int.reduceEq, Nat.reduceMul, Nat.reduceLeDiff, e8, e0, m0a, m0b, m0c, m0d, m0e, e1, e2, e7, m448a, m448b, m448c, m448d, m448e, rdP, rdA, vA, cA, app_vA, app_vA3, List.length_map]
        refine ⟨⟨by omega, by omega⟩, ?_⟩
        (refine hQ _ ?_; simp only [vmA, Nat.reduceEqDiff, reduceIte, Nat.reduceAdd, Nat.reduceBEq, reduceCtorEq, Nat.reduceLT, Int.reduceLE, Int.reduceLT, Int.reduceEq, Nat.reduceMul, Nat.reduceLeDiff, Try.f74, retG, resL, St.closeVs, St.closeV, leftV, ghostW, e8, e0, m0a, m0b, m0c, m0d, m0e, e1, e2, e7, m448a, m448b, m448c, m448d, m448e, rdP, rdA, vA, cA, app_vA, app_vA3, List.length_map])
        refine ⟨by simp, _, q5, by rw [List.take_of_length_le (by simp)], ⟨by simp; omega, fun w hw => ?_⟩, by omega, by omega, rfl⟩
        rcases List.mem_append.1 hw with hw | hw
        · exact i2 w hw
        · simp at hw; rcases hw with rfl | rfl | rfl <;> assumption
