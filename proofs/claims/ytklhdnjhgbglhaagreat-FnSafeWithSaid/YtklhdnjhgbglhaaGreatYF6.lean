/- WALK, or plain laws for it: theorem f<k> says what function k returns. Conditions: none but those ahead of each theorem. -/
import Derived.Test.YtklhdnjhgbglhaaGreatYA1
set_option linter.unusedVariables false
set_option linter.unusedSimpArgs false
open Nat renaming reduceEqDiff → sN1, reduceAdd → sN2, reduceBEq → sN3, reduceLT → sN4, reduceMul → sN5, reduceLeDiff → sN6, reduceSub → sN7
open Int renaming reduceLE → sI1, reduceLT → sI2, reduceEq → sI3
section
open Go Go.Vm Go.Proofs
set_option maxRecDepth 100000
set_option maxHeartbeats 8000000
set_option maxHeartbeats 8000000
set_option maxHeartbeats 8000000
theorem FxR.weakR' {f : Nat} {args : List AV} {R R' : AV → AV → Prop} (h : FxR f args R) (hR : ∀ r l, R r l → ∃ r', R' r' l ∧ Weak r r') : FxR f args R' := ⟨h.1, h.2.weak hR⟩
theorem f105 (xs : List Val) (c : Bool) (hl : xs.length ≤ 1048576) : Fx 105 [.fro none c (xs.map vA)] (.own 3 (xs.map vA)) := by
  rcases xs with _ | ⟨x, xs⟩
  · refine fn_of false Tryz.func105 (by kernel_rfl) rfl (by kernel_rfl) (by kernel_rfl) (Nat.le_of_ble_eq_true rfl) rfl fun Q hQ => ?_
    simp only [vmA, sN1, reduceIte, sN2, sN3, reduceCtorEq, sN4, sI1, sI2, sI3, sN5, sN6, List.length_map]
    (refine hQ _ ?_; simp only [vmA, sN1, reduceIte, sN2, sN3, reduceCtorEq, sN4, sI1, sI2, sI3, sN5, sN6, Tryz.f105, retG, resL, St.closeVs, St.closeV, List.length_map])
  generalize hys : x :: xs = ys at hl
  have hne : ¬ ys.map vA = [] := by rw [← hys]; simp
  refine fn_of false Tryz.func105 (by kernel_rfl) rfl (by kernel_rfl) (by kernel_rfl) (Nat.le_of_ble_eq_true rfl) rfl fun Q hQ => ?_
  simp only [vmA, sN1, reduceIte, sN2, sN3, reduceCtorEq, sN4, sI1, sI2, sI3, sN5, sN6, List.length_map]
  refine ⟨fun z hz => ?_, ?_⟩
  · obtain ⟨b, _, rfl⟩ := List.mem_map.1 hz; rfl
  simp only [vmA, sN1, reduceIte, sN2, sN3, reduceCtorEq, sN4, sI1, sI2, sI3, sN5, sN6, List.length_map, hne, not_false_eq_true]
  refine ⟨by omega, ?_⟩
  (refine hQ _ ?_; simp only [vmA, sN1, reduceIte, sN2, sN3, reduceCtorEq, sN4, sI1, sI2, sI3, sN5, sN6, Tryz.f105, retG, resL, St.closeVs, St.closeV, List.length_map, take_map_len])
theorem f176 (xs : List Val) : FxR 176 [.own 3 (xs.map vA)] fun r l => r = .own 3 (xs.map vA) ∧ l = .tup [] := by
  refine fn_ofW false (k := 0) Tryz.func176 (by kernel_rfl) rfl (by kernel_rfl) (by kernel_rfl) (Nat.le_of_ble_eq_true rfl) rfl ⟨_, _, .inl rfl⟩ rfl fun Q hQ => ?_
  simp only [vmA, sN1, reduceIte, sN2, sN3, reduceCtorEq, sN4, sI1, sI2, sI3, sN5, sN6, List.length_map]
  (refine hQ _ ?_; simp only [vmA, sN1, reduceIte, sN2, sN3, reduceCtorEq, sN4, sI1, sI2, sI3, sN5, sN6, Tryz.f176, retG, resL, St.closeVs, St.closeV, leftV, ghostW, List.length_map, take_map_len, Nat.sub_zero, Int.toNat_zero])
theorem f117 (xs : List Val) (c : Bool) (hl : xs.length ≤ 1048576) : Fx 117 [.fro none c (xs.map vA)] (.own 3 (xs.map vA)) := by
  refine FxR.weakR' (R := fun r l => ((xs = [] ∧ r = .fro none true []) ∨ r = .own 3 (xs.map vA)) ∧ l = .und) ?_ ?_
  rotate_left
  · rintro _ _ ⟨⟨rfl, rfl⟩ | rfl, rfl⟩
    · exact ⟨_, ⟨rfl, rfl⟩, weak_nil 3⟩
    · exact ⟨_, ⟨rfl, rfl⟩, Weak.refl _⟩
  refine fn_ofR false Tryz.func117 (by kernel_rfl) rfl (by kernel_rfl) (by kernel_rfl) (Nat.le_of_ble_eq_true rfl) rfl fun Q hQ => ?_
  simp only [vmA, sN1, reduceIte, sN2, sN3, reduceCtorEq, sN4, sI1, sI2, sI3, sN5, sN6, List.length_map]
  refine ⟨fun h => ?_, fun h => ?_⟩
  · (refine hQ _ ?_; simp only [vmA, sN1, reduceIte, sN2, sN3, reduceCtorEq, sN4, sI1, sI2, sI3, sN5, sN6, Tryz.f117, retG, resL, St.closeVs, St.closeV])
    exact List.eq_nil_of_length_eq_zero (by omega)
  · refine ⟨fun z hz => ?_, ?_⟩
    · obtain ⟨b, _, rfl⟩ := List.mem_map.1 hz; rfl
    refine ⟨.inl trivial, by omega, callR (f176 xs) ?_⟩
    rintro _ _ ⟨rfl, rfl⟩
    simp only [vmA, sN1, reduceIte, sN2, sN3, reduceCtorEq, sN4, sI1, sI2, sI3, sN5, sN6, List.length_map]
    (refine hQ _ ?_; simp only [vmA, sN1, reduceIte, sN2, sN3, reduceCtorEq, sN4, sI1, sI2, sI3, sN5, sN6, Tryz.f117, retG, resL, St.closeVs, St.closeV, List.length_map, take_map_len])
theorem take_next {α : Type} [Inhabited α] (ws : List α) (i : Nat) (h : i < ws.length) : ws.take (i + 1) = ws.take i ++ [ws[i]!] := by
  rw [List.take_add_one, getElem!_pos ws i h]; simp [h]
theorem leafJ {k : IntKind} {a b : Int} (h : a = b) : AV.int k a = AV.int k b := by rw [h]
theorem get_set {α : Type} [Inhabited α] (ys : List α) (i : Nat) (v : α) (h : i < ys.length) : (ys.set i v)[i]! = v := by rw [getElem!_pos _ i (by simpa using h), List.getElem_set_self]
def mkD (k : Int) (s : ByteArray) : ByteArray := if h : k ≤ 0 then s else mkD (k.tdiv 10) (textOf [IntKind.u8.wrap (IntKind.i64.wrap (48 + k.tmod 10))] ++ s)
termination_by k.toNat
decreasing_by
  have : k.tdiv 10 ≤ k - 1 := by
    rw [Int.tdiv_eq_ediv_of_nonneg (by omega)]
    omega
  omega
def mkT (k : Int) : ByteArray := if k ≤ 0 then ⟨⟨[109, 48]⟩⟩ else ⟨⟨[109]⟩⟩ ++ mkD k ⟨⟨[]⟩⟩
def mkV1 (k : Int) (j : Nat) : Val := ⟨k + 3 * j, k + 3 * j + 1, mkT (k + 3 * j + 2)⟩
def mkVs (n : Nat) (k : Int) : List Val := (List.range n).map (mkV1 k)
end
section
open Go Go.Vm Go.Proofs
set_option maxRecDepth 100000
set_option maxHeartbeats 8000000
set_option maxHeartbeats 8000000
set_option maxHeartbeats 8000000
def rA (r : List Val) : AV := .fro none false (r.map vA)
def rO (r : List Val) : AV := .own 3 (r.map vA)
def okR (r : List Val) : Prop := r.length ≤ 9223372036854775807 ∧ ∀ v ∈ r, okV v
def szr (r : List Val) (l : Int) : Int := szS szv r l
def pR (rs : List (List Val)) (i : Nat) : Nat := ((rs.take i).map fun r => 3 * r.length).sum
def mkR1 (rs : List (List Val)) (k : Int) (j : Nat) : List Val := mkVs rs[j]!.length (k + pR rs j)
def mkRs (rs : List (List Val)) (k : Int) : List (List Val) := (List.range rs.length).map (mkR1 rs k)
end
section
open Go Go.Vm Go.Proofs
set_option maxRecDepth 100000
set_option maxHeartbeats 8000000
set_option maxHeartbeats 8000000
set_option maxHeartbeats 8000000
theorem f106 (n : Int) : Fx 106 [.int .i64 n] (.bool (decide (0 ≤ n ∧ n ≤ 4))) := by
  refine fn_of false Tryz.func106 (by kernel_rfl) rfl (by kernel_rfl) (by kernel_rfl) (Nat.le_of_ble_eq_true rfl) rfl fun Q hQ => ?_
  simp only [vmA, sN1, reduceIte, sN2, sN3, reduceCtorEq, sN4, sI1, sI2, sI3, sN5, sN6]
  refine callD (f56 _ _ _) ?_
  simp only [vmA, sN1, reduceIte, sN2, sN3, reduceCtorEq, sN4, sI1, sI2, sI3, sN5, sN6]
  (refine hQ _ ?_; simp only [vmA, sN1, reduceIte, sN2, sN3, reduceCtorEq, sN4, sI1, sI2, sI3, sN5, sN6, Tryz.f106, retG, resL, St.closeVs, St.closeV])
def wOkAt (ws : List Wr) (i : Nat) : Prop := (0 ≤ ws[i]!.key ∧ ws[i]!.key ≤ 4) ∧ rowP ws[i]!.row ∧ ¬ (ws[i]!.gone = true ∧ 0 < ws[i]!.row.length) ∧ ¬ (0 < i ∧ ws[i]!.key ≤ ws[i - 1]!.key)
instance (ws : List Wr) (i : Nat) : Decidable (wOkAt ws i) := by unfold wOkAt; exact inferInstance
def wrsP (ws : List Wr) : Prop := ∀ i, i < ws.length → wOkAt ws i
instance (ws : List Wr) : Decidable (wrsP ws) := by unfold wrsP; exact inferInstance
theorem wrsP_key {ws : List Wr} (h : wrsP ws) : ∀ i, i < ws.length → (i : Int) ≤ ws[i]!.key := by
  intro i
  induction i with
  | zero => exact fun hi => (h 0 hi).1.1
  | succ i ih =>
    intro hi
    have h1 := ih (by omega)
    have h2 := (h (i + 1) hi).2.2.2
    rw [show i + 1 - 1 = i by omega] at h2
    omega
theorem wrsP_len {ws : List Wr} (h : wrsP ws) : ws.length ≤ 5 := by
  apply Decidable.byContradiction
  intro hn
  have h1 := wrsP_key h 5 (by omega)
  have h2 := (h 5 (by omega)).1.2
  omega
theorem f63 (ws : List Wr) (c : Bool) (hl : ws.length ≤ 9223372036854775807) (hs : ∀ w ∈ ws, okW w) : Fx 63 [.fro none c (ws.map wA)] (.bool (decide (wrsP ws))) := by
  refine fn_of false Tryz.func63 (by kernel_rfl) rfl (by kernel_rfl) (by kernel_rfl) (Nat.le_of_ble_eq_true rfl) rfl fun Q hQ => ?_
  simp only [vmA, sN1, reduceIte, sN2, sN3, reduceCtorEq, sN4, sI1, sI2, sI3, sN5, sN6]
  refine WT_loop (fun (i : Nat) σ => i ≤ ws.length ∧ σ.sl 0 = .fro none c (ws.map wA) ∧ σ.sl 5 = .fro none c (ws.map wA) ∧ σ.sl 6 = .int .i64 ws.length ∧ σ.sl 7 = .int .i64 i ∧ ∀ k, k < i → wOkAt ws k) (fun i => ws.length - i) 0 ⟨by omega, by simp [vmI], by simp [vmI], by simp [vmI], by simp [vmI], by omega⟩ ?_
  rintro i σ ⟨hi, e0, e5, e6, e7, hall⟩
  simp only [vmA, sN1, reduceIte, sN2, sN3, reduceCtorEq, sN4, sI1, sI2, sI3, sN5, sN6, e0, e5, e6, e7, wA]
  refine ⟨fun hlt => ⟨hlt, by omega, callD (f106 _) ?_⟩, fun hge => ?_⟩
  · simp only [vmA, sN1, reduceIte, sN2, sN3, reduceCtorEq, sN4, sI1, sI2, sI3, sN5, sN6, e0, e5, e6, e7]
    refine ⟨fun hk => ?_, fun hk' => callD (f107 _ _ (okmem hs (by omega)).1 (okmem hs (by omega)).2) ?_⟩
    · (refine hQ _ ?_; simp only [vmA, sN1, reduceIte, sN2, sN3, reduceCtorEq, sN4, sI1, sI2, sI3, sN5, sN6, Tryz.f63, retG, resL, St.closeVs, St.closeV])
      exact leafF fun h => hk (h i (by omega)).1
    · have hlr := (okmem hs (show i < ws.length by omega)).1
      cases hg : ws[i]!.gone
      all_goals simp only [vmA, sN1, reduceIte, sN2, sN3, reduceCtorEq, sN4, sI1, sI2, sI3, sN5, sN6, e0, e5, e6, e7, hg]
      · refine ⟨fun hr => ?_, fun hr => ⟨fun hpos => ?_, fun hz => ?_⟩⟩
        · (refine hQ _ ?_; simp only [vmA, sN1, reduceIte, sN2, sN3, reduceCtorEq, sN4, sI1, sI2, sI3, sN5, sN6, Tryz.f63, retG, resL, St.closeVs, St.closeV])
          exact leafF fun h => hr (h i (by omega)).2.1
        · rw [wr (by omega)]
          refine ⟨by omega, by omega, ?_⟩
          rw [show ((i : Int) - 1).toNat = i - 1 by omega]
          simp only [vmA, sN1, reduceIte, sN2, sN3, reduceCtorEq, sN4, sI1, sI2, sI3, sN5, sN6, e0, e5, e6, e7, wA]
          refine ⟨fun hge => ?_, fun hlt2 => ?_⟩
          · (refine hQ _ ?_; simp only [vmA, sN1, reduceIte, sN2, sN3, reduceCtorEq, sN4, sI1, sI2, sI3, sN5, sN6, Tryz.f63, retG, resL, St.closeVs, St.closeV])
            exact leafF fun h => (h i (by omega)).2.2.2 ⟨by omega, hge⟩
          · rw [wr (by omega)]
            refine ⟨i + 1, ⟨by omega, rfl, fun k hk => ?_⟩, by omega⟩
            rcases Nat.lt_or_eq_of_le (Nat.le_of_lt_succ hk) with h | rfl
            · exact hall k h
            · exact ⟨hk', hr, fun h => absurd h.1 (by rw [hg]; decide), fun h => hlt2 h.2⟩
        · rw [wr (by omega)]
          refine ⟨i + 1, ⟨by omega, rfl, fun k hk => ?_⟩, by omega⟩
          rcases Nat.lt_or_eq_of_le (Nat.le_of_lt_succ hk) with h | rfl
          · exact hall k h
          · exact ⟨hk', hr, fun h => absurd h.1 (by rw [hg]; decide), by omega⟩
      · refine ⟨fun hr => ?_, fun hr => ⟨fun hlen => ?_, fun hlen => ⟨fun hpos => ?_, fun hz => ?_⟩⟩⟩
        · (refine hQ _ ?_; simp only [vmA, sN1, reduceIte, sN2, sN3, reduceCtorEq, sN4, sI1, sI2, sI3, sN5, sN6, Tryz.f63, retG, resL, St.closeVs, St.closeV])
          exact leafF fun h => hr (h i (by omega)).2.1
        · (refine hQ _ ?_; simp only [vmA, sN1, reduceIte, sN2, sN3, reduceCtorEq, sN4, sI1, sI2, sI3, sN5, sN6, Tryz.f63, retG, resL, St.closeVs, St.closeV])
          exact leafF fun h => (h i (by omega)).2.2.1 ⟨hg, by omega⟩
        · rw [wr (by omega)]
          refine ⟨by omega, by omega, ?_⟩
          rw [show ((i : Int) - 1).toNat = i - 1 by omega]
          simp only [vmA, sN1, reduceIte, sN2, sN3, reduceCtorEq, sN4, sI1, sI2, sI3, sN5, sN6, e0, e5, e6, e7, wA]
          refine ⟨fun hge => ?_, fun hlt2 => ?_⟩
          · (refine hQ _ ?_; simp only [vmA, sN1, reduceIte, sN2, sN3, reduceCtorEq, sN4, sI1, sI2, sI3, sN5, sN6, Tryz.f63, retG, resL, St.closeVs, St.closeV])
            exact leafF fun h => (h i (by omega)).2.2.2 ⟨by omega, hge⟩
          · rw [wr (by omega)]
            refine ⟨i + 1, ⟨by omega, rfl, fun k hk => ?_⟩, by omega⟩
            rcases Nat.lt_or_eq_of_le (Nat.le_of_lt_succ hk) with h | rfl
            · exact hall k h
            · exact ⟨hk', hr, fun h => hlen (by omega), fun h => hlt2 h.2⟩
        · rw [wr (by omega)]
          refine ⟨i + 1, ⟨by omega, rfl, fun k hk => ?_⟩, by omega⟩
          rcases Nat.lt_or_eq_of_le (Nat.le_of_lt_succ hk) with h | rfl
          · exact hall k h
          · exact ⟨hk', hr, fun h => hlen (by omega), by omega⟩
  · (refine hQ _ ?_; simp only [vmA, sN1, reduceIte, sN2, sN3, reduceCtorEq, sN4, sI1, sI2, sI3, sN5, sN6, Tryz.f63, retG, resL, St.closeVs, St.closeV])
    have hw : wrsP ws := fun k hk => hall k (by omega)
    have := wrsP_len hw
    exact leafB ⟨fun _ => hw, fun _ => by omega⟩
theorem f164 (ws : List Wr) (c : Bool) (hl : ws.length ≤ 9223372036854775807) (hs : ∀ w ∈ ws, okW w) : Fx 164 [.fro none c (ws.map wA)] (.bool (decide (wrsP ws))) := by
  refine fn_of false Tryz.func164 (by kernel_rfl) rfl (by kernel_rfl) (by kernel_rfl) (Nat.le_of_ble_eq_true rfl) rfl fun Q hQ => ?_
  simp only [vmA, sN1, reduceIte, sN2, sN3, reduceCtorEq, sN4, sI1, sI2, sI3, sN5, sN6]
  refine WT_loop (fun (i : Nat) σ => i ≤ ws.length ∧ σ.sl 0 = .fro none c (ws.map wA) ∧ σ.sl 3 = .int .i64 i ∧ ∀ k, k < i → wOkAt ws k) (fun i => ws.length - i) 0 ⟨by omega, by simp [vmI], by simp [vmI], by omega⟩ ?_
  rintro i σ ⟨hi, e0, e3, hall⟩
  simp only [vmA, sN1, reduceIte, sN2, sN3, reduceCtorEq, sN4, sI1, sI2, sI3, sN5, sN6, e0, e3, wA]
  refine ⟨fun hlt => ⟨hlt, by omega, callD (f102 _ _ _) ?_⟩, fun hge => ?_⟩
  · simp only [vmA, sN1, reduceIte, sN2, sN3, reduceCtorEq, sN4, sI1, sI2, sI3, sN5, sN6, e0, e3]
    refine ⟨fun hk => ?_, fun hk' => callD (f126 _ _ (okmem hs (by omega)).1 (okmem hs (by omega)).2) ?_⟩
    · (refine hQ _ ?_; simp only [vmA, sN1, reduceIte, sN2, sN3, reduceCtorEq, sN4, sI1, sI2, sI3, sN5, sN6, Tryz.f164, retG, resL, St.closeVs, St.closeV])
      exact leafF fun h => by have := (h i (by omega)).1; omega
    · have hlr := (okmem hs (show i < ws.length by omega)).1
      cases hg : ws[i]!.gone
      all_goals simp only [vmA, sN1, reduceIte, sN2, sN3, reduceCtorEq, sN4, sI1, sI2, sI3, sN5, sN6, e0, e3, hg]
      · refine ⟨fun hr => ?_, fun hr => ⟨fun hpos => ?_, fun hz => ?_⟩⟩
        · (refine hQ _ ?_; simp only [vmA, sN1, reduceIte, sN2, sN3, reduceCtorEq, sN4, sI1, sI2, sI3, sN5, sN6, Tryz.f164, retG, resL, St.closeVs, St.closeV])
          exact leafF fun h => hr (h i (by omega)).2.1
        · rw [wr (by omega)]
          refine ⟨by omega, by omega, ?_⟩
          rw [show ((i : Int) - 1).toNat = i - 1 by omega]
          simp only [vmA, sN1, reduceIte, sN2, sN3, reduceCtorEq, sN4, sI1, sI2, sI3, sN5, sN6, e0, e3, wA]
          refine ⟨fun hge => ?_, fun hlt2 => ?_⟩
          · (refine hQ _ ?_; simp only [vmA, sN1, reduceIte, sN2, sN3, reduceCtorEq, sN4, sI1, sI2, sI3, sN5, sN6, Tryz.f164, retG, resL, St.closeVs, St.closeV])
            exact leafF fun h => (h i (by omega)).2.2.2 ⟨by omega, hge⟩
          · rw [wr (by omega)]
            refine ⟨i + 1, ⟨by omega, rfl, fun k hk => ?_⟩, by omega⟩
            rcases Nat.lt_or_eq_of_le (Nat.le_of_lt_succ hk) with h | rfl
            · exact hall k h
            · exact ⟨by omega, hr, fun h => absurd h.1 (by rw [hg]; decide), fun h => hlt2 h.2⟩
        · rw [wr (by omega)]
          refine ⟨i + 1, ⟨by omega, rfl, fun k hk => ?_⟩, by omega⟩
          rcases Nat.lt_or_eq_of_le (Nat.le_of_lt_succ hk) with h | rfl
          · exact hall k h
          · exact ⟨by omega, hr, fun h => absurd h.1 (by rw [hg]; decide), by omega⟩
      · refine ⟨fun hr => ?_, fun hr => ⟨fun hlen => ?_, fun hlen => ⟨fun hpos => ?_, fun hz => ?_⟩⟩⟩
        · (refine hQ _ ?_; simp only [vmA, sN1, reduceIte, sN2, sN3, reduceCtorEq, sN4, sI1, sI2, sI3, sN5, sN6, Tryz.f164, retG, resL, St.closeVs, St.closeV])
          exact leafF fun h => hr (h i (by omega)).2.1
        · (refine hQ _ ?_; simp only [vmA, sN1, reduceIte, sN2, sN3, reduceCtorEq, sN4, sI1, sI2, sI3, sN5, sN6, Tryz.f164, retG, resL, St.closeVs, St.closeV])
          exact leafF fun h => (h i (by omega)).2.2.1 ⟨hg, by omega⟩
        · rw [wr (by omega)]
          refine ⟨by omega, by omega, ?_⟩
          rw [show ((i : Int) - 1).toNat = i - 1 by omega]
          simp only [vmA, sN1, reduceIte, sN2, sN3, reduceCtorEq, sN4, sI1, sI2, sI3, sN5, sN6, e0, e3, wA]
          refine ⟨fun hge => ?_, fun hlt2 => ?_⟩
          · (refine hQ _ ?_; simp only [vmA, sN1, reduceIte, sN2, sN3, reduceCtorEq, sN4, sI1, sI2, sI3, sN5, sN6, Tryz.f164, retG, resL, St.closeVs, St.closeV])
            exact leafF fun h => (h i (by omega)).2.2.2 ⟨by omega, hge⟩
          · rw [wr (by omega)]
            refine ⟨i + 1, ⟨by omega, rfl, fun k hk => ?_⟩, by omega⟩
            rcases Nat.lt_or_eq_of_le (Nat.le_of_lt_succ hk) with h | rfl
            · exact hall k h
            · exact ⟨by omega, hr, fun h => hlen (by omega), fun h => hlt2 h.2⟩
        · rw [wr (by omega)]
          refine ⟨i + 1, ⟨by omega, rfl, fun k hk => ?_⟩, by omega⟩
          rcases Nat.lt_or_eq_of_le (Nat.le_of_lt_succ hk) with h | rfl
          · exact hall k h
          · exact ⟨by omega, hr, fun h => hlen (by omega), by omega⟩
  · (refine hQ _ ?_; simp only [vmA, sN1, reduceIte, sN2, sN3, reduceCtorEq, sN4, sI1, sI2, sI3, sN5, sN6, Tryz.f164, retG, resL, St.closeVs, St.closeV])
    have hw : wrsP ws := fun k hk => hall k (by omega)
    exact leafB ⟨fun _ => hw, fun _ => trivial⟩
def lOkAt (es : List En) (i : Nat) : Prop := (1 ≤ es[i]!.time ∧ es[i]!.time ≤ 40) ∧ wrsP es[i]!.ws ∧ ¬ (0 < i ∧ es[i]!.time ≤ es[i - 1]!.time)
instance (es : List En) (i : Nat) : Decidable (lOkAt es i) := by unfold lOkAt; exact inferInstance
def logP (es : List En) : Prop := es.length ≤ 12 ∧ ∀ i, i < es.length → lOkAt es i
instance (es : List En) : Decidable (logP es) := by unfold logP; exact inferInstance
end
