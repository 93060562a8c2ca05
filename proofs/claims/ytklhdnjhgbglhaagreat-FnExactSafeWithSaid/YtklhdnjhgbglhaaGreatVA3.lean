/- WALK of functions of the seat, or plain laws for it: each theorem f<k> says what function k returns, for every world and all arguments that stand for the values named. Conditions: none but those ahead of each theorem. -/
import Derived.Test.YtklhdnjhgbglhaaGreatVA1
section
open Go Go.Vm Go.Proofs
set_option maxRecDepth 100000
set_option maxHeartbeats 8000000
set_option linter.unusedSimpArgs false
set_option linter.unusedVariables false
set_option maxHeartbeats 8000000
set_option linter.unusedSimpArgs false
set_option linter.unusedVariables false
set_option maxHeartbeats 8000000
set_option linter.unusedSimpArgs false
set_option linter.unusedVariables false
theorem FxR.weakR' {f : Nat} {args : List AV} {R R' : AV → AV → Prop} (h : FxR f args R) (hR : ∀ r l, R r l → ∃ r', R' r' l ∧ Weak r r') : FxR f args R' := ⟨h.1, h.2.weak hR⟩
theorem f105 (xs : List Val) (c : Bool) (hl : xs.length ≤ 1048576) : Fx 105 [.fro none c (xs.map vA)] (.own 3 (xs.map vA)) := by
  rcases xs with _ | ⟨x, xs⟩
  · refine fn_of false Tryz.func105 (by kernel_rfl) rfl (by kernel_rfl) (by kernel_rfl) (Nat.le_of_ble_eq_true rfl) rfl fun Q hQ => ?_
    simp only [vmA, Nat.reduceEqDiff, reduceIte, Nat.reduceAdd, Nat.reduceBEq, reduceCtorEq, Nat.reduceLT, Int.reduceLE, Int.reduceLT, Int.reduceEq, Nat.reduceMul, Nat.reduceLeDiff, List.length_map]
    (refine hQ _ ?_; simp only [vmA, Nat.reduceEqDiff, reduceIte, Nat.reduceAdd, Nat.reduceBEq, reduceCtorEq, Nat.reduceLT, Int.reduceLE, Int.reduceLT, Int.reduceEq, Nat.reduceMul, Nat.reduceLeDiff, Tryz.f105, retG, resL, St.closeVs, St.closeV, List.length_map])
  generalize hys : x :: xs = ys at hl
  have hne : ¬ ys.map vA = [] := by rw [← hys]; simp
  refine fn_of false Tryz.func105 (by kernel_rfl) rfl (by kernel_rfl) (by kernel_rfl) (Nat.le_of_ble_eq_true rfl) rfl fun Q hQ => ?_
  simp only [vmA, Nat.reduceEqDiff, reduceIte, Nat.reduceAdd, Nat.reduceBEq, reduceCtorEq, Nat.reduceLT, Int.reduceLE, Int.reduceLT, Int.reduceEq, Nat.reduceMul, Nat.reduceLeDiff, List.length_map]
  refine ⟨fun z hz => ?_, ?_⟩
  · obtain ⟨b, _, rfl⟩ := List.mem_map.1 hz; rfl
  simp only [vmA, Nat.reduceEqDiff, reduceIte, Nat.reduceAdd, Nat.reduceBEq, reduceCtorEq, Nat.reduceLT, Int.reduceLE, Int.reduceLT, Int.reduceEq, Nat.reduceMul, Nat.reduceLeDiff, List.length_map, hne, not_false_eq_true]
  refine ⟨by omega, ?_⟩
  (refine hQ _ ?_; simp only [vmA, Nat.reduceEqDiff, reduceIte, Nat.reduceAdd, Nat.reduceBEq, reduceCtorEq, Nat.reduceLT, Int.reduceLE, Int.reduceLT, Int.reduceEq, Nat.reduceMul, Nat.reduceLeDiff, Tryz.f105, retG, resL, St.closeVs, St.closeV, List.length_map, take_map_len])
theorem f176 (xs : List Val) : FxR 176 [.own 3 (xs.map vA)] fun r l => r = .own 3 (xs.map vA) ∧ l = .tup [] := by
  refine fn_ofW false (k := 0) Tryz.func176 (by kernel_rfl) rfl (by kernel_rfl) (by kernel_rfl) (Nat.le_of_ble_eq_true rfl) rfl ⟨_, _, .inl rfl⟩ rfl fun Q hQ => ?_
  simp only [vmA, Nat.reduceEqDiff, reduceIte, Nat.reduceAdd, Nat.reduceBEq, reduceCtorEq, Nat.reduceLT, Int.reduceLE, Int.reduceLT, Int.reduceEq, Nat.reduceMul, Nat.reduceLeDiff, List.length_map]
  (refine hQ _ ?_; simp only [vmA, Nat.reduceEqDiff, reduceIte, Nat.reduceAdd, Nat.reduceBEq, reduceCtorEq, Nat.reduceLT, Int.reduceLE, Int.reduceLT, Int.reduceEq, Nat.reduceMul, Nat.reduceLeDiff, Tryz.f176, retG, resL, St.closeVs, St.closeV, leftV, ghostW, List.length_map, take_map_len, Nat.sub_zero, Int.toNat_zero])
theorem f117 (xs : List Val) (c : Bool) (hl : xs.length ≤ 1048576) : Fx 117 [.fro none c (xs.map vA)] (.own 3 (xs.map vA)) := by
  refine FxR.weakR' (R := fun r l => ((xs = [] ∧ r = .fro none true []) ∨ r = .own 3 (xs.map vA)) ∧ l = .und) ?_ ?_
  rotate_left
  · rintro _ _ ⟨⟨rfl, rfl⟩ | rfl, rfl⟩
    · exact ⟨_, ⟨rfl, rfl⟩, weak_nil 3⟩
    · exact ⟨_, ⟨rfl, rfl⟩, Weak.refl _⟩
  refine fn_ofR false Tryz.func117 (by kernel_rfl) rfl (by kernel_rfl) (by kernel_rfl) (Nat.le_of_ble_eq_true rfl) rfl fun Q hQ => ?_
  simp only [vmA, Nat.reduceEqDiff, reduceIte, Nat.reduceAdd, Nat.reduceBEq, reduceCtorEq, Nat.reduceLT, Int.reduceLE, Int.reduceLT, Int.reduceEq, Nat.reduceMul, Nat.reduceLeDiff, List.length_map]
  refine ⟨fun h => ?_, fun h => ?_⟩
  · (refine hQ _ ?_; simp only [vmA, Nat.reduceEqDiff, reduceIte, Nat.reduceAdd, Nat.reduceBEq, reduceCtorEq, Nat.reduceLT, Int.reduceLE, Int.reduceLT, Int.reduceEq, Nat.reduceMul, Nat.reduceLeDiff, Tryz.f117, retG, resL, St.closeVs, St.closeV])
    exact List.eq_nil_of_length_eq_zero (by omega)
  · refine ⟨fun z hz => ?_, ?_⟩
    · obtain ⟨b, _, rfl⟩ := List.mem_map.1 hz; rfl
    refine ⟨.inl trivial, by omega, callR (f176 xs) ?_⟩
    rintro _ _ ⟨rfl, rfl⟩
    simp only [vmA, Nat.reduceEqDiff, reduceIte, Nat.reduceAdd, Nat.reduceBEq, reduceCtorEq, Nat.reduceLT, Int.reduceLE, Int.reduceLT, Int.reduceEq, Nat.reduceMul, Nat.reduceLeDiff, List.length_map]
    (refine hQ _ ?_; simp only [vmA, Nat.reduceEqDiff, reduceIte, Nat.reduceAdd, Nat.reduceBEq, reduceCtorEq, Nat.reduceLT, Int.reduceLE, Int.reduceLT, Int.reduceEq, Nat.reduceMul, Nat.reduceLeDiff, Tryz.f117, retG, resL, St.closeVs, St.closeV, List.length_map, take_map_len])
theorem take_next {α : Type} [Inhabited α] (ws : List α) (i : Nat) (h : i < ws.length) : ws.take (i + 1) = ws.take i ++ [ws[i]!] := by
  rw [List.take_add_one, getElem!_pos ws i h]; simp [h]
theorem leafJ {k : IntKind} {a b : Int} (h : a = b) : AV.int k a = AV.int k b := by rw [h]
theorem binStr_add (a b : ByteArray) (h : a.size + b.size ≤ 9223372036854775807) : binStr .add a b = some (.str (a ++ b)) := by
  simp only [binStr]
  rw [if_neg (by omega)]
theorem textOf_one (n : Int) : (textOf [n]).size = 1 := rfl
theorem cv22 (m : Md) (σ : St) (x : AV) : convA (CC m) σ 22 9 x = convS (CC m) σ 22 9 x := by
  unfold convA
  have h1 : convF (CC m) 22 9 x = none := by simp only [convF, tt22, tt9, Option.bind_eq_bind, Option.bind_some]
  have h2 : convB (CC m) 22 9 x = none := by simp only [convB, tt22, tt9, Option.bind_eq_bind, Option.bind_some]
  rw [h1, h2]
  cases convS (CC m) σ 22 9 x <;> rfl
/-- Marks on a row of values. -/
theorem set_vA (ys : List Val) (i : Nat) (a b : Int) (s : ByteArray) : (ys.map vA).set i (.agg [.int .i64 a, .int .i64 b, .str s]) = (ys.set i ⟨a, b, s⟩).map vA := by rw [List.map_set]; rfl
theorem get_set {α : Type} [Inhabited α] (ys : List α) (i : Nat) (v : α) (h : i < ys.length) : (ys.set i v)[i]! = v := by rw [getElem!_pos _ i (by simpa using h), List.getElem_set_self]
/-- The text of a mark. -/
def mkD (k : Int) (s : ByteArray) : ByteArray := if h : k ≤ 0 then s else mkD (k.tdiv 10) (textOf [IntKind.u8.wrap (IntKind.i64.wrap (48 + k.tmod 10))] ++ s)
termination_by k.toNat
decreasing_by
  have : k.tdiv 10 ≤ k - 1 := by
    rw [Int.tdiv_eq_ediv_of_nonneg (by omega)]
    omega
  omega
def mkT (k : Int) : ByteArray := if k ≤ 0 then ⟨⟨[109, 48]⟩⟩ else ⟨⟨[109]⟩⟩ ++ mkD k ⟨⟨[]⟩⟩
/-- Lists that are marked one by one. -/
theorem mk_set {α : Type} [Inhabited α] (f : Nat → α) {ys : List α} {i : Nat} (hi : i < ys.length) (h : ∀ j, j < i → ys[j]! = f j) : ∀ j, j < i + 1 → (ys.set i (f i))[j]! = f j := fun j hj => by
  by_cases hji : j = i
  · subst hji; exact get_set _ _ _ hi
  · rw [getElem!_pos _ j (by simp; omega), List.getElem_set_ne (by omega), ← getElem!_pos ys j (by omega)]; exact h j (by omega)
theorem mk_all {α : Type} [Inhabited α] (f : Nat → α) {ys : List α} {n : Nat} (hl : ys.length = n) (h : ∀ j, j < n → ys[j]! = f j) : ys = (List.range n).map f := by
  refine List.ext_getElem (by simp [hl]) fun j h1 h2 => ?_
  have := h j (by omega)
  rw [getElem!_pos ys j h1] at this
  simpa using this
def mkV1 (k : Int) (j : Nat) : Val := ⟨k + 3 * j, k + 3 * j + 1, mkT (k + 3 * j + 2)⟩
def mkVs (n : Nat) (k : Int) : List Val := (List.range n).map (mkV1 k)
theorem mkVs_length (n : Nat) (k : Int) : (mkVs n k).length = n := by simp [mkVs]
end
section
open Go Go.Vm Go.Proofs
set_option maxRecDepth 100000
set_option maxHeartbeats 8000000
set_option linter.unusedSimpArgs false
set_option linter.unusedVariables false
set_option maxHeartbeats 8000000
set_option linter.unusedSimpArgs false
set_option linter.unusedVariables false
set_option maxHeartbeats 8000000
set_option linter.unusedSimpArgs false
set_option linter.unusedVariables false
/-- A row: as it is looked at; as it is owned. -/
def rA (r : List Val) : AV := .fro none false (r.map vA)
def rO (r : List Val) : AV := .own 3 (r.map vA)
def okR (r : List Val) : Prop := r.length ≤ 9223372036854775807 ∧ ∀ v ∈ r, okV v
def szr (r : List Val) (l : Int) : Int := szS szv r l
/-- Where the marks of row i begin. -/
def pR (rs : List (List Val)) (i : Nat) : Nat := ((rs.take i).map fun r => 3 * r.length).sum
def mkR1 (rs : List (List Val)) (k : Int) (j : Nat) : List Val := mkVs rs[j]!.length (k + pR rs j)
def mkRs (rs : List (List Val)) (k : Int) : List (List Val) := (List.range rs.length).map (mkR1 rs k)
end
