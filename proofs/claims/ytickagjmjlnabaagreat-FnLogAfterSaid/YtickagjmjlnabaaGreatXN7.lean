/- WALK of functions of the seat, or plain laws for it: each theorem f<k> says what function k returns, for every world and all arguments that stand for the values named. Conditions: none but those ahead of each theorem. -/
import Derived.Test.YtickagjmjlnabaaGreatXN6
open Go Go.Vm Go.Proofs
set_option maxRecDepth 100000
set_option maxHeartbeats 8000000
set_option linter.unusedSimpArgs false
set_option linter.unusedVariables false
/-- One stands ahead of the other. -/
def vlt (v w : Ver) : Prop := v.key < w.key ∨ (v.key = w.key ∧ v.born < w.born ∧ v.died ≠ 0 ∧ v.died ≤ w.born)
structure GoodV (T : Int) (v : Ver) : Prop where
  key : 0 ≤ v.key ∧ v.key ≤ 4
  born : 1 ≤ v.born ∧ v.born ≤ T
  died : v.died = 0 ∨ v.born < v.died ∧ v.died ≤ T
  row : rowP v.row
  ok : okR v.row
structure Good (T : Int) (vs : List Ver) : Prop where
  top : T ≤ 40
  one : ∀ v ∈ vs, GoodV T v
  ord : vs.Pairwise vlt
  len : vs.length ≤ 60
theorem Good.at {T : Int} {vs : List Ver} (h : Good T vs) {i : Nat} (hi : i < vs.length) : GoodV T vs[i]! := h.one _ (by rw [getElem!_pos vs i hi]; exact List.getElem_mem _)
theorem Good.lt {T : Int} {vs : List Ver} (h : Good T vs) {i j : Nat} (hij : i < j) (hj : j < vs.length) : vlt vs[i]! vs[j]! := by
  rw [getElem!_pos vs i (by omega), getElem!_pos vs j hj]
  exact List.pairwise_iff_getElem.1 h.ord i j (by omega) hj hij
theorem f27 (T : Int) (vs : List Ver) (c : Bool) (hg : Good T vs) : Fx 27 [.fro none c (vs.map gA)] (.bool true) := by
  have hl := hg.len
  have ht := hg.top
  refine fn_of ⟨false, [], []⟩ Tryz.func27 (by kernel_rfl) rfl (by kernel_rfl) (by kernel_rfl) (Nat.le_of_ble_eq_true rfl) rfl fun Q hQ => ?_
  simp only [vmA, Nat.reduceEqDiff, reduceIte, Nat.reduceAdd, Nat.reduceBEq, reduceCtorEq, Nat.reduceLT, Int.reduceLE, Int.reduceLT, Int.reduceEq, Nat.reduceMul, Nat.reduceLeDiff, List.length_map]
  refine WT_loop (fun (i : Nat) σ => (i ≤ vs.length) ∧ σ.sl 8 = .int .i64 i ∧ σ.sl 7 = .int .i64 vs.length ∧ σ.sl 6 = .fro none c (vs.map gA) ∧ σ.sl 0 = .fro none c (vs.map gA)) (fun i => vs.length - i) (0) ⟨Nat.zero_le _, by simp [put_sl, put_en, put_none, init_sl, fresh_sl, fresh_en, ent_sl, ent_en, init_en], by simp [put_sl, put_en, put_none, init_sl, fresh_sl, fresh_en, ent_sl, ent_en, init_en], by simp [put_sl, put_en, put_none, init_sl, fresh_sl, fresh_en, ent_sl, ent_en, init_en], by simp [put_sl, put_en, put_none, init_sl, fresh_sl, fresh_en, ent_sl, ent_en, init_en]⟩ ?_
  rintro i σ ⟨hi, e8, e7, e6, e0⟩
  simp only [vmA, Nat.reduceEqDiff, reduceIte, Nat.reduceAdd, Nat.reduceBEq, reduceCtorEq, Nat.reduceLT, Int.reduceLE, Int.reduceLT, Int.reduceEq, Nat.reduceMul, Nat.reduceLeDiff, e8, e7, e6, e0, gA, List.length_map]
  refine ⟨fun h => ⟨h, by omega, ?_⟩, fun h => ?_⟩
  · have hv := hg.at (i := i) (by omega)
    have a1 := f49 vs[i]!.key
    rw [decide_eq_true hv.key] at a1
    have a2 := f31 vs[i]!.born 1 40
    rw [decide_eq_true (by have := hv.born; omega)] at a2
    have a3 := f50 vs[i]!.row false hv.ok.1 hv.ok.2
    rw [decide_eq_true hv.row] at a3
    refine callD a1 ?_
    simp only [vmA, Nat.reduceEqDiff, reduceIte, Nat.reduceAdd, Nat.reduceBEq, reduceCtorEq, Nat.reduceLT, Int.reduceLE, Int.reduceLT, Int.reduceEq, Nat.reduceMul, Nat.reduceLeDiff, e8, e7, e6, e0, gA, List.length_map]
    refine callD a2 ?_
    simp only [vmA, Nat.reduceEqDiff, reduceIte, Nat.reduceAdd, Nat.reduceBEq, reduceCtorEq, Nat.reduceLT, Int.reduceLE, Int.reduceLT, Int.reduceEq, Nat.reduceMul, Nat.reduceLeDiff, e8, e7, e6, e0, gA, List.length_map]
    have a4 := f31 vs[i]!.died (vs[i]!.born + 1) 40
    have hb := hv.born
    have hz := hv.died
    refine ⟨fun hd => ?_, fun hd => ?_⟩
    · rw [decide_eq_true (by omega)] at a4
      rw [wr (by omega)]
      refine callD a4 ?_
      simp only [vmA, Nat.reduceEqDiff, reduceIte, Nat.reduceAdd, Nat.reduceBEq, reduceCtorEq, Nat.reduceLT, Int.reduceLE, Int.reduceLT, Int.reduceEq, Nat.reduceMul, Nat.reduceLeDiff, e8, e7, e6, e0, gA, List.length_map]
      refine callD a3 ?_
      simp only [vmA, Nat.reduceEqDiff, reduceIte, Nat.reduceAdd, Nat.reduceBEq, reduceCtorEq, Nat.reduceLT, Int.reduceLE, Int.reduceLT, Int.reduceEq, Nat.reduceMul, Nat.reduceLeDiff, e8, e7, e6, e0, gA, List.length_map]
      refine ⟨fun h0 => ?_, fun h0 => ?_⟩
      · rw [wr (by omega)]
        exact ⟨i + 1, ⟨by omega, rfl⟩, by omega⟩
      · have hw : IntKind.i64.wrap ((i : Int) - 1) = ((i - 1 : Nat) : Int) := by rw [wr (by omega)]; omega
        simp only [hw, Int.toNat_natCast]
        have hlt := hg.lt (i := i - 1) (j := i) (by omega) (by omega)
        unfold vlt at hlt
        refine ⟨⟨by omega, by omega⟩, by omega, fun hk => absurd hk (by omega), fun hk => ⟨fun he => ⟨fun hq => absurd hq (by omega), fun hq => ⟨fun hy => absurd hy (by omega), fun hy => ⟨fun hx => absurd hx (by omega), fun hx => ?_⟩⟩⟩, fun he => ?_⟩⟩
        · rw [wr (by omega)]
          exact ⟨i + 1, ⟨by omega, rfl⟩, by omega⟩
        · rw [wr (by omega)]
          exact ⟨i + 1, ⟨by omega, rfl⟩, by omega⟩
    · refine callD a3 ?_
      simp only [vmA, Nat.reduceEqDiff, reduceIte, Nat.reduceAdd, Nat.reduceBEq, reduceCtorEq, Nat.reduceLT, Int.reduceLE, Int.reduceLT, Int.reduceEq, Nat.reduceMul, Nat.reduceLeDiff, e8, e7, e6, e0, gA, List.length_map]
      refine ⟨fun h0 => ?_, fun h0 => ?_⟩
      · rw [wr (by omega)]
        exact ⟨i + 1, ⟨by omega, rfl⟩, by omega⟩
      · have hw : IntKind.i64.wrap ((i : Int) - 1) = ((i - 1 : Nat) : Int) := by rw [wr (by omega)]; omega
        simp only [hw, Int.toNat_natCast]
        have hlt := hg.lt (i := i - 1) (j := i) (by omega) (by omega)
        unfold vlt at hlt
        refine ⟨⟨by omega, by omega⟩, by omega, fun hk => absurd hk (by omega), fun hk => ⟨fun he => ⟨fun hq => absurd hq (by omega), fun hq => ⟨fun hy => absurd hy (by omega), fun hy => ⟨fun hx => absurd hx (by omega), fun hx => ?_⟩⟩⟩, fun he => ?_⟩⟩
        · rw [wr (by omega)]
          exact ⟨i + 1, ⟨by omega, rfl⟩, by omega⟩
        · rw [wr (by omega)]
          exact ⟨i + 1, ⟨by omega, rfl⟩, by omega⟩
  · (refine hQ _ ?_; simp only [vmA, Nat.reduceEqDiff, reduceIte, Nat.reduceAdd, Nat.reduceBEq, reduceCtorEq, Nat.reduceLT, Int.reduceLE, Int.reduceLT, Int.reduceEq, Nat.reduceMul, Nat.reduceLeDiff, Tryz.f27, retG, resL, St.closeVs, St.closeV, e8, e7, e6, e0])
    rw [decide_eq_true (by omega)]
