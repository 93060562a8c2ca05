/- WALK, or plain laws for it: theorem f<k> says what function k returns. Conditions: none but those ahead of each theorem. -/
import Derived.Test.YtklhdnjhgbglhaaGreatYH1
set_option linter.unusedVariables false
set_option linter.unusedSimpArgs false
open Nat renaming reduceEqDiff → sN1, reduceAdd → sN2, reduceBEq → sN3, reduceLT → sN4, reduceMul → sN5, reduceLeDiff → sN6, reduceSub → sN7
open Int renaming reduceLE → sI1, reduceLT → sI2, reduceEq → sI3
open Go Go.Vm Go.Proofs
set_option maxRecDepth 100000
set_option maxHeartbeats 8000000
set_option maxHeartbeats 8000000
set_option maxHeartbeats 8000000
theorem xor_nonneg {x y : Int} (hx : 0 ≤ x ∧ x < 4611686018427387904) (hy : 0 ≤ y ∧ y < 4611686018427387904) : 0 ≤ IntKind.i64.wrap ((BitVec.ofInt IntKind.i64.bits x ^^^ BitVec.ofInt IntKind.i64.bits y).toNat : Int) := by
  have hb : IntKind.i64.bits = 64 := rfl
  have h1 : (BitVec.ofInt 64 x).toNat = x.toNat := by
    rw [BitVec.toNat_ofInt]; omega
  have h2 : (BitVec.ofInt 64 y).toNat = y.toNat := by
    rw [BitVec.toNat_ofInt]; omega
  have h3 : (BitVec.ofInt 64 x ^^^ BitVec.ofInt 64 y).toNat < 2 ^ 62 := by
    rw [BitVec.toNat_xor, h1, h2]
    exact Nat.xor_lt_two_pow (by omega) (by omega)
  show 0 ≤ IntKind.i64.wrap ((BitVec.ofInt 64 x ^^^ BitVec.ofInt 64 y).toNat : Int)
  rw [wr (by omega)]
  omega
theorem tm {a b : Int} (ha : 0 ≤ a) (hb : 0 < b) : 0 ≤ a.tmod b ∧ a.tmod b < b := ⟨Int.tmod_nonneg _ ha, Int.tmod_lt_of_pos _ hb⟩
theorem tdv {a b : Int} (ha : 0 ≤ a) (hb : 0 < b) : 0 ≤ a.tdiv b ∧ a.tdiv b ≤ a := by
  rw [Int.tdiv_eq_ediv_of_nonneg ha]
  exact ⟨Int.ediv_nonneg ha (by omega), Int.ediv_le_self _ ha⟩
def rdA (xs : List UInt8) (c : Bool) (p : Int) : AV := .agg [.fro none c (xs.map bA), .int .i64 p]
abbrev rdP (xs : List UInt8) (c : Bool) (p : Int) : AV := .pt 2 [rdA xs c p] 0 0
theorem f61 (xs : List UInt8) (c : Bool) (p n : Int) (hl : xs.length ≤ 2000) (h0 : 0 ≤ p) (h1 : p ≤ 1099511627776) :
    FxR 61 [rdP xs c p, .int .i64 n] fun r l => ∃ k, r = .int .i64 k ∧ 0 ≤ k ∧ (k < n ∨ k = 0) ∧ l = rdP xs c (p + 1) := by
  refine fn_ofW false (k := 0) Tryz.func61 (by kernel_rfl) rfl (by kernel_rfl) (by kernel_rfl) (Nat.le_of_ble_eq_true rfl) rfl ⟨_, _, .inr ⟨_, _, rfl⟩⟩ rfl fun Q hQ => ?_
  simp only [vmA, sN1, reduceIte, sN2, sN3, reduceCtorEq, sN4, sI1, sI2, sI3, sN5, sN6, rdA, rdP]
  rw [wr (x := p + 1) (by omega)]
  refine ⟨fun hn => ?_, fun hn => ⟨fun hz => ?_, fun hz => ⟨fun hlt => ?_, fun hge => ?_⟩⟩⟩
  · (refine hQ _ ?_; simp only [vmA, sN1, reduceIte, sN2, sN3, reduceCtorEq, sN4, sI1, sI2, sI3, sN5, sN6, Tryz.f61, retG, resL, St.closeVs, St.closeV, leftV, ghostW])
    exact ⟨0, rfl, by omega, .inr rfl, rfl⟩
  · (refine hQ _ ?_; simp only [vmA, sN1, reduceIte, sN2, sN3, reduceCtorEq, sN4, sI1, sI2, sI3, sN5, sN6, Tryz.f61, retG, resL, St.closeVs, St.closeV, leftV, ghostW])
    exact ⟨0, rfl, by omega, .inr rfl, rfl⟩
  · have hn0 : ¬ n = 0 := by omega
    rw [wr (x := p + 1 - 1) (by omega)] at hlt ⊢
    refine ⟨⟨by omega, hlt⟩, by omega, ?_⟩
    simp only [vmA, sN1, reduceIte, sN2, sN3, reduceCtorEq, sN4, sI1, sI2, sI3, sN5, sN6, bA, hn0]
    (refine hQ _ ?_; simp only [vmA, sN1, reduceIte, sN2, sN3, reduceCtorEq, sN4, sI1, sI2, sI3, sN5, sN6, Tryz.f61, retG, resL, St.closeVs, St.closeV, leftV, ghostW, rdA, rdP])
    have hu : xs[(p + 1 - 1).toNat]!.toNat < 256 := UInt8.toNat_lt _
    rw [wr (by omega)]
    have := tm (a := xs[(p + 1 - 1).toNat]!.toNat) (b := n) (by omega) (by omega)
    exact ⟨_, rfl, this.1, .inl this.2⟩
  · rw [wr (x := p + 1 - 1) (by omega)]
    have hn0 : ¬ n = 0 := by omega
    simp only [vmA, sN1, reduceIte, sN2, sN3, reduceCtorEq, sN4, sI1, sI2, sI3, sN5, sN6, rdA, rdP, hz, hn0]
    have hm := tm (a := p + 1 - 1) (b := xs.length) (by omega) (by omega)
    refine ⟨hm, by omega, ?_⟩
    simp only [vmA, sN1, reduceIte, sN2, sN3, reduceCtorEq, sN4, sI1, sI2, sI3, sN5, sN6, bA, hz]
    rw [wr (x := (p + 1 - 1) * 7) (by omega), wr (x := (p + 1 - 1) * 7 + 3) (by omega)]
    have hm2 := tm (a := (p + 1 - 1) * 7 + 3) (b := xs.length) (by omega) (by omega)
    refine ⟨hm2, by omega, ?_⟩
    simp only [vmA, sN1, reduceIte, sN2, sN3, reduceCtorEq, sN4, sI1, sI2, sI3, sN5, sN6, bA, hz, hn0, sI3]
    have hq := tdv (a := p + 1 - 1) (b := xs.length) (by omega) (by omega)
    have hu1 : xs[((p + 1 - 1).tmod xs.length).toNat]!.toNat < 256 := UInt8.toNat_lt _
    have hu2 : xs[(((p + 1 - 1) * 7 + 3).tmod xs.length).toNat]!.toNat < 256 := UInt8.toNat_lt _
    rw [wr (x := (p + 1 - 1).tdiv xs.length) (by omega)]
    generalize (p + 1 - 1).tdiv xs.length = t1 at hq
    generalize xs[((p + 1 - 1).tmod xs.length).toNat]!.toNat = u1 at hu1
    generalize xs[(((p + 1 - 1) * 7 + 3).tmod xs.length).toNat]!.toNat = u2 at hu2
    (refine hQ _ ?_; simp only [vmA, sN1, reduceIte, sN2, sN3, reduceCtorEq, sN4, sI1, sI2, sI3, sN5, sN6, Tryz.f61, retG, resL, St.closeVs, St.closeV, leftV, ghostW, rdA, rdP])
    have ht := tdv (a := ↑u1 * 131 + ↑u2 * 1117 + (p + 1 - 1) * 29 + t1 * 53) (b := 64) (by omega) (by omega)
    simp (disch := omega) only [wr]
    have hk := xor_nonneg (x := ↑u1 * 131 + ↑u2 * 1117 + (p + 1 - 1) * 29 + t1 * 53) (y := (↑u1 * 131 + ↑u2 * 1117 + (p + 1 - 1) * 29 + t1 * 53).tdiv 64) (by omega) (by have := tdv (a := ↑u1 * 131 + ↑u2 * 1117 + (p + 1 - 1) * 29 + t1 * 53) (b := 64) (by omega) (by omega); omega)
    have hk2 := tm hk (b := n) (by omega)
    exact ⟨_, rfl, hk2.1, .inl hk2.2⟩
theorem take_bA (xs : List UInt8) (n : Nat) : (xs.map bA).take n = (xs.take n).map bA := (List.map_take).symm
theorem f47 (xs : List UInt8) (hl : xs.length ≤ 9223372036854775807) : Fx 47 [.fro none false (xs.map bA)] (rdP (xs.take 2000) false 0) := by
  refine fn_of false Tryz.func47 (by kernel_rfl) rfl (by kernel_rfl) (by kernel_rfl) (Nat.le_of_ble_eq_true rfl) rfl fun Q hQ => ?_
  simp only [vmA, sN1, reduceIte, sN2, sN3, reduceCtorEq, sN4, sI1, sI2, sI3, sN5, sN6]
  refine ⟨fun h => ?_, fun h => ?_⟩
  · refine ⟨by omega, ?_⟩
    refine ⟨fun y hy => ?_, ?_⟩
    · obtain ⟨b, _, rfl⟩ := List.mem_map.1 hy; rfl
    (refine hQ _ ?_; simp only [vmA, sN1, reduceIte, sN2, sN3, reduceCtorEq, sN4, sI1, sI2, sI3, sN5, sN6, Tryz.f47, retG, resL, St.closeVs, St.closeV, rdA, take_bA, Int.reduceToNat])
    rfl
  · (refine hQ _ ?_; simp only [vmA, sN1, reduceIte, sN2, sN3, reduceCtorEq, sN4, sI1, sI2, sI3, sN5, sN6, Tryz.f47, retG, resL, St.closeVs, St.closeV, rdA])
    rw [List.take_of_length_le (by omega)]
    rfl
set_option maxHeartbeats 8000000
theorem f119 (xs : List UInt8) (c : Bool) (p : Int) (hl : xs.length ≤ 2000) (h0 : 0 ≤ p) (h1 : p ≤ 1099511627776) :
    FxR 119 [rdP xs c p] fun r l => ∃ k, r = .own 3 [vA ⟨1, k, ⟨⟨[]⟩⟩⟩] ∧ l = rdP xs c (p + 1) := by
  refine fn_ofW false (k := 0) Tryz.func119 (by kernel_rfl) rfl (by kernel_rfl) (by kernel_rfl) (Nat.le_of_ble_eq_true rfl) rfl ⟨_, _, .inr ⟨_, _, rfl⟩⟩ rfl fun Q hQ => ?_
  simp only [vmA, sN1, reduceIte, sN2, sN3, reduceCtorEq, sN4, sI1, sI2, sI3, sN5, sN6, rdP, rdA]
  refine callR (f61 xs c p 4 hl h0 h1) ?_
  rintro _ _ ⟨k, rfl, hk0, hkn, rfl⟩
  simp only [vmA, sN1, reduceIte, sN2, sN3, reduceCtorEq, sN4, sI1, sI2, sI3, sN5, sN6, rdP, rdA]
  (refine hQ _ ?_; simp only [vmA, sN1, reduceIte, sN2, sN3, reduceCtorEq, sN4, sI1, sI2, sI3, sN5, sN6, Tryz.f119, retG, resL, St.closeVs, St.closeV, leftV, ghostW, vA, rdA, rdP])
  exact ⟨k, rfl⟩
