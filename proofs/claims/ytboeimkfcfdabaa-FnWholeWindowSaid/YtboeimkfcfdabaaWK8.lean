/- WALK of functions of the seat, or plain laws for it: each theorem f<k> says what function k returns, for every world and all arguments that stand for the values named. Conditions: none but those ahead of each theorem. -/
import Derived.Test.YtboeimkfcfdabaaWA3
import Derived.Test.YtboeimkfcfdabaaWD1
import Derived.Test.YtboeimkfcfdabaaWKc
open Go Go.Vm Go.Proofs
set_option maxRecDepth 100000
set_option maxHeartbeats 8000000
set_option linter.unusedSimpArgs false
set_option linter.unusedVariables false
/-- The values in columns of a list. -/
def takeBy (r : List Val) (bl : List Int) : List Val := bl.map fun n => r[n.toNat]!
theorem takeBy_next (r : List Val) (bl : List Int) {i : Nat} (h : i < bl.length) : takeBy r (bl.take (i + 1)) = takeBy r (bl.take i) ++ [r[(bl[i]!).toNat]!] := by
  unfold takeBy
  rw [take_next bl i h, List.map_append]
  rfl
theorem f30 (r : List Val) (bl : List Int) (c d : Bool) (hl : bl.length ≤ 1048576) (hb : ∀ n ∈ bl, 0 ≤ n ∧ n < (r.length : Int)) : Fx 30 [.fro none c (r.map vA), .fro none d (bl.map iA)] (.own 3 ((takeBy r bl).map vA)) := by
  refine fn_of ⟨true, [], []⟩ Try.func30 (by kernel_rfl) rfl (by kernel_rfl) (by kernel_rfl) (Nat.le_of_ble_eq_true rfl) rfl fun Q hQ => ?_
  simp only [vmA, Nat.reduceEqDiff, reduceIte, Nat.reduceAdd, Nat.reduceBEq, reduceCtorEq, Nat.reduceLT, Int.reduceLE, Int.reduceLT, Int.reduceEq, Nat.reduceMul, Nat.reduceLeDiff, List.length_map, Option.bind_none]
  refine WT_loopR (fun (zz : Nat × Nat × List Val) σ => (zz.1 ≤ bl.length ∧ zz.2.2 = takeBy r (bl.take zz.1)) ∧ σ.sl 6 = .int .i64 zz.1 ∧ σ.sl 0 = .fro none c (r.map vA) ∧ σ.sl 1 = .fro none d (bl.map iA) ∧ σ.sl 5 = .hd 320 zz.2.1 0 (zz.2.2.length) false ∧ (σ.en 320).live = true ∧ (σ.en 320).gen = zz.2.1 ∧ (σ.en 320).frz = false ∧ (σ.en 320).sz = 3 ∧ (σ.en 320).elems = zz.2.2.map vA) (fun zz => bl.length - zz.1) 5 ?_ ?_
  · simp only [vmA, Nat.reduceEqDiff, reduceIte, Nat.reduceAdd, Nat.reduceBEq, reduceCtorEq, Nat.reduceLT, Int.reduceLE, Int.reduceLT, Int.reduceEq, Nat.reduceMul, Nat.reduceLeDiff, reown]
    exact ⟨(0, 1, []), ⟨Nat.zero_le _, rfl⟩, rfl, rfl, rfl, rfl⟩
  rintro ⟨i, γ, L⟩ σ ⟨hi, e6, e0, e1, e5, m320a, m320b, m320c, m320d, m320e⟩
  try dsimp only at e6 e0 e1 e5 m320a m320b m320c m320d m320e hi
  obtain ⟨hi, hL⟩ := hi
  have hLl : L.length = i := by rw [hL]; simp [takeBy]; omega
  simp only [vmA, Nat.reduceEqDiff, reduceIte, Nat.reduceAdd, Nat.reduceBEq, reduceCtorEq, Nat.reduceLT, Int.reduceLE, Int.reduceLT, Int.reduceEq, Nat.reduceMul, Nat.reduceLeDiff, e6, e0, e1, e5, m320a, m320b, m320c, m320d, m320e, vA, List.length_map, Option.bind_none, reown]
  refine ⟨fun hlt => ?_, fun hge => ?_⟩
  · have hbi := hb bl[i]! (by rw [getElem!_pos bl i (by omega)]; exact List.getElem_mem _)
    refine ⟨hlt, by omega, hbi, by omega, ⟨by omega, by omega⟩, by simp, ?_⟩
    rw [wr (by omega)]
    refine ⟨(i + 1, _, L ++ [r[(bl[i]!).toNat]!]), ⟨⟨by dsimp only; omega, by dsimp only; rw [takeBy_next r bl (by omega), hL]⟩, rfl, ?_, rfl, ?_⟩, by dsimp only; omega⟩
    · simp
    · dsimp only
      rw [List.take_of_length_le (by simp), List.map_append]
      rfl
  · (refine hQ _ ?_; simp only [vmA, Nat.reduceEqDiff, reduceIte, Nat.reduceAdd, Nat.reduceBEq, reduceCtorEq, Nat.reduceLT, Int.reduceLE, Int.reduceLT, Int.reduceEq, Nat.reduceMul, Nat.reduceLeDiff, Try.f30, retG, resL, St.closeVs, St.closeV, e6, e0, e1, e5, m320a, m320b, m320c, m320d, m320e, List.take_length])
    rw [hL, List.take_of_length_le (by omega)]
    try simp
theorem f55 (r : List Val) (bl : List Int) (c d : Bool) (hl : bl.length ≤ 1048576) (hb : ∀ n ∈ bl, 0 ≤ n ∧ n < (r.length : Int)) : Fx 55 [.fro none c (r.map vA), .fro none d (bl.map iA)] (.own 3 ((takeBy r bl).map vA)) := by
  refine fn_of ⟨true, [], []⟩ Try.func55 (by kernel_rfl) rfl (by kernel_rfl) (by kernel_rfl) (Nat.le_of_ble_eq_true rfl) rfl fun Q hQ => ?_
  simp only [vmA, Nat.reduceEqDiff, reduceIte, Nat.reduceAdd, Nat.reduceBEq, reduceCtorEq, Nat.reduceLT, Int.reduceLE, Int.reduceLT, Int.reduceEq, Nat.reduceMul, Nat.reduceLeDiff, List.length_map, Option.bind_none]
  refine WT_loopN (fun (y : Nat × Nat) σ => y.1 ≤ bl.length ∧ σ.sl 0 = .fro none c (r.map vA) ∧ σ.sl 8 = .fro none d (bl.map iA) ∧ σ.sl 9 = .int .i64 bl.length ∧ σ.sl 10 = .int .i64 y.1 ∧ σ.sl 5 = .hd 320 y.2 0 y.1 false ∧ (σ.en 320).live = true ∧ (σ.en 320).gen = y.2 ∧ (σ.en 320).frz = false ∧ (σ.en 320).sz = 3 ∧ (σ.en 320).elems = (takeBy r (bl.take y.1)).map vA) (fun y => bl.length - y.1) (0, 1) 5 3 (by simp [put_sl, put_en, put_none, init_sl, fresh_sl, fresh_en, ent_sl, ent_en, init_en]) (by simp [put_sl, put_en, put_none, init_sl, fresh_sl, fresh_en, ent_sl, ent_en, init_en, takeRes, takeV, takeLeaf, eid, takeBy]) ?_
  rintro ⟨i, g⟩ σ ⟨hi, e0, e8, e9, e10, o1, o2, o3, o4, o5, o6⟩
  dsimp only at hi e10 o1 o3 o6
  have hlt' : (takeBy r (bl.take i)).length = i := by simp [takeBy]; omega
  simp only [vmA, Nat.reduceEqDiff, reduceIte, Nat.reduceAdd, Nat.reduceBEq, reduceCtorEq, Nat.reduceLT, Int.reduceLE, Int.reduceLT, Int.reduceEq, Nat.reduceMul, Nat.reduceLeDiff, e0, e8, e9, e10, o1, o2, o3, o4, o5, o6, List.length_map, vA, Option.bind_none, hlt']
  refine ⟨fun hlt => ?_, fun hge => ?_⟩
  · have hbi := hb bl[i]! (by rw [getElem!_pos bl i (by omega)]; exact List.getElem_mem _)
    refine ⟨hlt, by omega, hbi, by omega, ⟨by omega, by omega⟩, ?_⟩
    rw [wr (by omega)]
    refine ⟨(i + 1, g + 1), ⟨by dsimp only; omega, rfl, ?_⟩, by dsimp only; omega⟩
    rw [takeBy_next r bl (by omega)]
    simp only [vmA, Nat.reduceEqDiff, reduceIte, Nat.reduceAdd, Nat.reduceBEq, reduceCtorEq, Nat.reduceLT, Int.reduceLE, Int.reduceLT, Int.reduceEq, Nat.reduceMul, Nat.reduceLeDiff, e0, e8, e9, e10, o1, o2, o3, o4, o5, o6, List.length_map, vA, Option.bind_none, hlt', List.map_append]
  · rw [List.take_of_length_le (by simp; omega), map_froize_vA]
    obtain rfl : i = bl.length := by omega
    rw [List.take_length]
    refine callD (f63 (takeBy r bl) false (by simp [takeBy]; omega)) ?_
    simp only [vmA, Nat.reduceEqDiff, reduceIte, Nat.reduceAdd, Nat.reduceBEq, reduceCtorEq, Nat.reduceLT, Int.reduceLE, Int.reduceLT, Int.reduceEq, Nat.reduceMul, Nat.reduceLeDiff, e0, e8, e9, e10, o1, o2, o3, o4, o5, o6, behind_nf, hasFro, hasFroL_vA]
    (refine hQ _ ?_; simp only [vmA, Nat.reduceEqDiff, reduceIte, Nat.reduceAdd, Nat.reduceBEq, reduceCtorEq, Nat.reduceLT, Int.reduceLE, Int.reduceLT, Int.reduceEq, Nat.reduceMul, Nat.reduceLeDiff, Try.f55, retG, resL, St.closeVs, St.closeV, List.take_length, List.length_map])
