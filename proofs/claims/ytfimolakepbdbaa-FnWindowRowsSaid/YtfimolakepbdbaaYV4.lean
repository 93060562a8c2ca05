/- WALK of functions of the seat, or plain laws for it: each theorem f<k> says what function k returns, for every world and all arguments that stand for the values named. Conditions: none but those ahead of each theorem. -/
import Derived.Test.YtfimolakepbdbaaYV3
import Derived.Test.YtfimolakepbdbaaYC2
import Derived.Test.YtfimolakepbdbaaYW1
open Go Go.Vm Go.Proofs
set_option maxRecDepth 100000
set_option maxHeartbeats 8000000
set_option linter.unusedSimpArgs false
set_option linter.unusedVariables false
/-- How many of some rows are a row. -/
def rMany (rs : List (List Val)) (r : List Val) : Nat := rs.countP fun s => decide (rEq s r)
theorem f49 (rs : List (List Val)) (r : List Val) (c c2 : Bool) (hl : rs.length ≤ 1048576) (hr : ∀ w ∈ rs, w.length ≤ 1048576) (hr2 : r.length ≤ 1048576) : Fx 49 [.fro none c (rs.map rA), .fro none c2 (r.map vA)] (.int .i64 (rMany rs r)) := by
  refine fn_of ⟨false, [], []⟩ Try.func49 (by kernel_rfl) rfl (by kernel_rfl) (by kernel_rfl) (Nat.le_of_ble_eq_true rfl) rfl fun Q hQ => ?_
  simp only [vmA, Nat.reduceEqDiff, reduceIte, Nat.reduceAdd, Nat.reduceBEq, reduceCtorEq, Nat.reduceLT, Int.reduceLE, Int.reduceLT, Int.reduceEq, Nat.reduceMul, Nat.reduceLeDiff, List.length_map]
  refine WT_loop (fun (i : Nat) σ => (i ≤ rs.length) ∧ σ.sl 10 = .int .i64 i ∧ σ.sl 9 = .int .i64 rs.length ∧ σ.sl 8 = .fro none c (rs.map rA) ∧ σ.sl 5 = .int .i64 (rMany (rs.take i) r) ∧ σ.sl 1 = .fro none c2 (r.map vA)) (fun i => rs.length - i) (0) ⟨Nat.zero_le _, by simp [put_sl, put_en, put_none, init_sl, fresh_sl, fresh_en, ent_sl, ent_en, init_en, rMany], by simp [put_sl, put_en, put_none, init_sl, fresh_sl, fresh_en, ent_sl, ent_en, init_en, rMany], by simp [put_sl, put_en, put_none, init_sl, fresh_sl, fresh_en, ent_sl, ent_en, init_en, rMany], by simp [put_sl, put_en, put_none, init_sl, fresh_sl, fresh_en, ent_sl, ent_en, init_en, rMany], by simp [put_sl, put_en, put_none, init_sl, fresh_sl, fresh_en, ent_sl, ent_en, init_en, rMany]⟩ ?_
  rintro i σ ⟨hi, e10, e9, e8, e5, e1⟩
  have hm : (rMany (rs.take i) r : Nat) ≤ i := by
    have := List.countP_le_length (p := fun s => decide (rEq s r)) (l := rs.take i)
    unfold rMany
    rw [List.length_take] at this
    omega
  simp only [vmA, Nat.reduceEqDiff, reduceIte, Nat.reduceAdd, Nat.reduceBEq, reduceCtorEq, Nat.reduceLT, Int.reduceLE, Int.reduceLT, Int.reduceEq, Nat.reduceMul, Nat.reduceLeDiff, e10, e9, e8, e5, e1, rA, List.length_map]
  refine ⟨fun h => ?_, fun h => ?_⟩
  · have hlt : i < rs.length := by omega
    have hst : rMany (rs.take (i + 1)) r = rMany (rs.take i) r + (if rEq rs[i]! r then 1 else 0) := by
      unfold rMany
      rw [take_next rs i hlt, List.countP_append]
      simp [List.countP_cons]
    refine ⟨h, hlt, callD (f75 rs[i]! r false c2 (hr _ (by rw [getElem!_pos rs i hlt]; exact List.getElem_mem _)) hr2) ?_⟩
    simp only [vmA, Nat.reduceEqDiff, reduceIte, Nat.reduceAdd, Nat.reduceBEq, reduceCtorEq, Nat.reduceLT, Int.reduceLE, Int.reduceLT, Int.reduceEq, Nat.reduceMul, Nat.reduceLeDiff, e10, e9, e8, e5, e1, rA, List.length_map]
    refine ⟨fun he => ?_, fun hne => ?_⟩
    · rw [if_pos he] at hst
      rw [wr (x := (i : Int) + 1) (by omega), wr (by omega)]
      exact ⟨i + 1, ⟨by omega, leafJ (by omega), by rw [hst]; rfl⟩, by omega⟩
    · rw [if_neg hne] at hst
      rw [wr (x := (i : Int) + 1) (by omega)]
      exact ⟨i + 1, ⟨by omega, leafJ (by omega), by rw [hst]; rfl⟩, by omega⟩
  · (refine hQ _ ?_; simp only [vmA, Nat.reduceEqDiff, reduceIte, Nat.reduceAdd, Nat.reduceBEq, reduceCtorEq, Nat.reduceLT, Int.reduceLE, Int.reduceLT, Int.reduceEq, Nat.reduceMul, Nat.reduceLeDiff, Try.f49, retG, resL, St.closeVs, St.closeV])
    rw [List.take_of_length_le (by omega)]
