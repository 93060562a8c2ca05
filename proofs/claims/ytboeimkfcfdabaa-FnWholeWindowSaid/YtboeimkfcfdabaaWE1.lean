/- WALK of functions of the seat, or plain laws for it: each theorem f<k> says what function k returns, for every world and all arguments that stand for the values named. Conditions: none but those ahead of each theorem. -/
import Derived.Test.YtboeimkfcfdabaaWC2
open Go Go.Vm Go.Proofs
set_option maxRecDepth 100000
set_option maxHeartbeats 8000000
set_option linter.unusedSimpArgs false
set_option linter.unusedVariables false
structure Spt where
  r : Int
  s : Int
instance : Inhabited Spt := ⟨⟨0, 0⟩⟩
def sA (s : Spt) : AV := .agg [.int .i64 s.r, .int .i64 s.s]
theorem map_froize_sA (l : List Spt) : (l.map sA).map froize = l.map sA := by
  rw [List.map_map]; rfl
theorem set_sA (ys : List Spt) (i : Nat) (a b : Int) : (ys.map sA).set i (.agg [.int .i64 a, .int .i64 b]) = (ys.set i ⟨a, b⟩).map sA := by rw [List.map_set]; rfl
def mkS1 (k : Int) (j : Nat) : Spt := ⟨k + 2 * j, k + 2 * j + 1⟩
def mkSs (n : Nat) (k : Int) : List Spt := (List.range n).map (mkS1 k)
theorem mkSs_length (n : Nat) (k : Int) : (mkSs n k).length = n := by simp [mkSs]
theorem f45 (xs : List Spt) : FxR 45 [.own 2 (xs.map sA)] fun r l => r = .own 2 (xs.map sA) ∧ l = .tup [] := by
  refine fn_ofW false (k := 0) Try.func45 (by kernel_rfl) rfl (by kernel_rfl) (by kernel_rfl) (Nat.le_of_ble_eq_true rfl) rfl ⟨_, _, .inl rfl⟩ rfl fun Q hQ => ?_
  simp only [vmA, Nat.reduceEqDiff, reduceIte, Nat.reduceAdd, Nat.reduceBEq, reduceCtorEq, Nat.reduceLT, Int.reduceLE, Int.reduceLT, Int.reduceEq, Nat.reduceMul, Nat.reduceLeDiff, List.length_map]
  (refine hQ _ ?_; simp only [vmA, Nat.reduceEqDiff, reduceIte, Nat.reduceAdd, Nat.reduceBEq, reduceCtorEq, Nat.reduceLT, Int.reduceLE, Int.reduceLT, Int.reduceEq, Nat.reduceMul, Nat.reduceLeDiff, Try.f45, retG, resL, St.closeVs, St.closeV, leftV, ghostW, List.length_map, take_map_len, Nat.sub_zero, Int.toNat_zero])
theorem f17 (xs : List Spt) (c : Bool) (hl : xs.length ≤ 1048576) : Fx 17 [.fro none c (xs.map sA)] (.own 2 (xs.map sA)) := by
  refine FxR.weakR' (R := fun r l => ((xs = [] ∧ r = .fro none true []) ∨ r = .own 2 (xs.map sA)) ∧ l = .und) ?_ ?_
  rotate_left
  · rintro _ _ ⟨⟨rfl, rfl⟩ | rfl, rfl⟩
    · exact ⟨_, ⟨rfl, rfl⟩, weak_nil 2⟩
    · exact ⟨_, ⟨rfl, rfl⟩, Weak.refl _⟩
  refine fn_ofR false Try.func17 (by kernel_rfl) rfl (by kernel_rfl) (by kernel_rfl) (Nat.le_of_ble_eq_true rfl) rfl fun Q hQ => ?_
  simp only [vmA, Nat.reduceEqDiff, reduceIte, Nat.reduceAdd, Nat.reduceBEq, reduceCtorEq, Nat.reduceLT, Int.reduceLE, Int.reduceLT, Int.reduceEq, Nat.reduceMul, Nat.reduceLeDiff, List.length_map]
  refine ⟨fun h => ?_, fun h => ?_⟩
  · (refine hQ _ ?_; simp only [vmA, Nat.reduceEqDiff, reduceIte, Nat.reduceAdd, Nat.reduceBEq, reduceCtorEq, Nat.reduceLT, Int.reduceLE, Int.reduceLT, Int.reduceEq, Nat.reduceMul, Nat.reduceLeDiff, Try.f17, retG, resL, St.closeVs, St.closeV])
    exact List.eq_nil_of_length_eq_zero (by omega)
  · refine ⟨fun z hz => ?_, ?_⟩
    · obtain ⟨b, _, rfl⟩ := List.mem_map.1 hz; rfl
    refine ⟨.inl trivial, by omega, callR (f45 xs) ?_⟩
    rintro _ _ ⟨rfl, rfl⟩
    simp only [vmA, Nat.reduceEqDiff, reduceIte, Nat.reduceAdd, Nat.reduceBEq, reduceCtorEq, Nat.reduceLT, Int.reduceLE, Int.reduceLT, Int.reduceEq, Nat.reduceMul, Nat.reduceLeDiff, List.length_map]
    (refine hQ _ ?_; simp only [vmA, Nat.reduceEqDiff, reduceIte, Nat.reduceAdd, Nat.reduceBEq, reduceCtorEq, Nat.reduceLT, Int.reduceLE, Int.reduceLT, Int.reduceEq, Nat.reduceMul, Nat.reduceLeDiff, Try.f17, retG, resL, St.closeVs, St.closeV, List.length_map, take_map_len])
theorem f19 (a : Int) (r : List Val) (c : Bool) (hw : winP r) : Fx 19 [.int .i64 a, .fro none c (r.map vA)] (.int .i64 (if r[2]!.k = 1 then IntKind.i64.wrap (a + r[2]!.n) else a)) := by
  have hl := hw.1
  refine fn_of false Try.func19 (by kernel_rfl) rfl (by kernel_rfl) (by kernel_rfl) (Nat.le_of_ble_eq_true rfl) rfl fun Q hQ => ?_
  have h3 : ((2 : Int) < r.length) = True := eq_true (by omega)
  have h4 : (2 < r.length) = True := eq_true (by omega)
  simp only [vmA, Nat.reduceEqDiff, reduceIte, Nat.reduceAdd, Nat.reduceBEq, reduceCtorEq, Nat.reduceLT, Int.reduceLE, Int.reduceLT, Int.reduceEq, Nat.reduceMul, Nat.reduceLeDiff, vA, List.length_map, show Int.toNat 2 = 2 from rfl, h3, h4]
  refine ⟨fun h => ?_, fun h => ?_⟩ <;> (refine hQ _ ?_; simp only [vmA, Nat.reduceEqDiff, reduceIte, Nat.reduceAdd, Nat.reduceBEq, reduceCtorEq, Nat.reduceLT, Int.reduceLE, Int.reduceLT, Int.reduceEq, Nat.reduceMul, Nat.reduceLeDiff, Try.f19, retG, resL, St.closeVs, St.closeV]) <;> refine leafJ ?_
  · rw [if_pos h]
  · rw [if_neg h]
