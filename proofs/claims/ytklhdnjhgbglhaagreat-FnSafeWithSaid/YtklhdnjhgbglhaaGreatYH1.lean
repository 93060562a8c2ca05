/- WALK, or plain laws for it: theorem f<k> says what function k returns. Conditions: none but those ahead of each theorem. -/
import Derived.Test.YtklhdnjhgbglhaaGreatYF6
set_option linter.unusedVariables false
set_option linter.unusedSimpArgs false
open Nat renaming reduceEqDiff → sN1, reduceAdd → sN2, reduceBEq → sN3, reduceLT → sN4, reduceMul → sN5, reduceLeDiff → sN6, reduceSub → sN7
open Int renaming reduceLE → sI1, reduceLT → sI2, reduceEq → sI3
section
open Go Go.Vm Go.Proofs
set_option maxRecDepth 100000
set_option maxHeartbeats 8000000
set_option maxHeartbeats 8000000
set_option maxHeartbeats 8000000
structure Ver where
  key : Int
  born : Int
  died : Int
  row : List Val
instance : Inhabited Ver := ⟨⟨0, 0, 0, []⟩⟩
def gA (v : Ver) : AV := .agg [.int .i64 v.key, .int .i64 v.born, .int .i64 v.died, .fro none false (v.row.map vA)]
def gO (v : Ver) : AV := .agg [.int .i64 v.key, .int .i64 v.born, .int .i64 v.died, .own 3 (v.row.map vA)]
theorem froize_gA (v : Ver) : froize (gA v) = gA v := rfl
theorem froize_gO (v : Ver) : froize (gO v) = gA v := by
  have := map_froize_vA v.row
  simp only [gO, gA, froize, froizeL, froizeL_eq, this]
theorem map_froize_gO (vs : List Ver) : (vs.map gO).map froize = vs.map gA := by simp [froize_gO]
theorem map_froize_gA (vs : List Ver) : (vs.map gA).map froize = vs.map gA := by simp [froize_gA]
set_option maxHeartbeats 8000000
def liveAt (key t : Int) (v : Ver) : Prop := v.key = key ∧ v.born ≤ t ∧ (v.died = 0 ∨ t < v.died)
instance (key t : Int) (v : Ver) : Decidable (liveAt key t v) := by unfold liveAt; exact inferInstance
def seenV (vs : List Ver) (key t : Int) : AV := match vs.find? (fun v => decide (liveAt key t v)) with
  | some v => .tup [gA v, .bool true]
  | none => .tup [.agg [.int .i64 0, .int .i64 0, .int .i64 0, .fro none true []], .bool false]
theorem find_some {α : Type} [Inhabited α] (p : α → Bool) : ∀ (vs : List α) (i : Nat), i < vs.length → (∀ j, j < i → p vs[j]! = false) → p vs[i]! = true → vs.find? p = some vs[i]!
  | [], i, h, _, _ => by simp at h
  | x :: xs, 0, _, _, h => by
    have : p x = true := by simpa using h
    simp only [List.find?_cons, this]
    rfl
  | x :: xs, i + 1, hl, h1, h2 => by
    have h0 := h1 0 (by omega)
    simp only [List.find?_cons]
    have : p x = false := by simpa using h0
    rw [this]
    have := find_some p xs i (by simpa using hl) (fun j hj => by simpa using h1 (j + 1) (by omega)) (by simpa using h2)
    simpa using this
set_option maxHeartbeats 8000000
def vlt (v w : Ver) : Prop := v.key < w.key ∨ (v.key = w.key ∧ v.born < w.born ∧ v.died ≠ 0 ∧ v.died ≤ w.born)
structure GoodV (T : Int) (v : Ver) : Prop where
  key : 0 ≤ v.key ∧ v.key ≤ 4
  born : 1 ≤ v.born ∧ v.born ≤ T
  died : v.died = 0 ∨ v.born < v.died ∧ v.died ≤ T
  row : rowP v.row
  ok : okR v.row
structure Good (T : Int) (vs : List Ver) : Prop where
  top : T ≤ 40
  one : ∀ v ∈ vs, GoodV T v
  ord : vs.Pairwise vlt
  len : vs.length ≤ 60
theorem Good.at {T : Int} {vs : List Ver} (h : Good T vs) {i : Nat} (hi : i < vs.length) : GoodV T vs[i]! := h.one _ (by rw [getElem!_pos vs i hi]; exact List.getElem_mem _)
theorem Good.lt {T : Int} {vs : List Ver} (h : Good T vs) {i j : Nat} (hij : i < j) (hj : j < vs.length) : vlt vs[i]! vs[j]! := by
  rw [getElem!_pos vs i (by omega), getElem!_pos vs j hj]
  exact List.pairwise_iff_getElem.1 h.ord i j (by omega) hj hij
set_option maxHeartbeats 8000000
theorem hasFroL_vA (xs : List Val) : hasFro.hasFroL (xs.map vA) = false := by
  induction xs with
  | nil => rfl
  | cons x xs ih => simp only [List.map_cons, hasFro.hasFroL, ih, vA, hasFro]; rfl
def rowsT (vs : List Ver) (t : Int) (n : Nat) : List (List Val) := (List.range n).filterMap fun (k : Nat) => (vs.find? (fun v => decide (liveAt (k : Int) t v))).map Ver.row
def riAt (lo hi : Int) (xs : List Int) (i : Nat) : Prop := (lo ≤ xs[i]! ∧ xs[i]! ≤ hi) ∧ ¬ (0 < i ∧ xs[i]! ≤ xs[i - 1]!)
instance (lo hi : Int) (xs : List Int) (i : Nat) : Decidable (riAt lo hi xs i) := by unfold riAt; exact inferInstance
def riP (lo hi : Int) (xs : List Int) : Prop := ∀ i, i < xs.length → riAt lo hi xs i
instance (lo hi : Int) (xs : List Int) : Decidable (riP lo hi xs) := by unfold riP; exact inferInstance
theorem f109 (xs : List Int) (c : Bool) (lo hi : Int) (hl : xs.length ≤ 9223372036854775807) : Fx 109 [.fro none c (xs.map iA), .int .i64 lo, .int .i64 hi] (.bool (decide (riP lo hi xs))) := by
  refine fn_of false Tryz.func109 (by kernel_rfl) rfl (by kernel_rfl) (by kernel_rfl) (Nat.le_of_ble_eq_true rfl) rfl fun Q hQ => ?_
  simp only [vmA, sN1, reduceIte, sN2, sN3, reduceCtorEq, sN4, sI1, sI2, sI3, sN5, sN6]
  refine WT_loop (fun (i : Nat) σ => i ≤ xs.length ∧ σ.sl 0 = .fro none c (xs.map iA) ∧ σ.sl 1 = .int .i64 lo ∧ σ.sl 2 = .int .i64 hi ∧ σ.sl 9 = .fro none c (xs.map iA) ∧ σ.sl 10 = .int .i64 xs.length ∧ σ.sl 11 = .int .i64 i ∧ ∀ k, k < i → riAt lo hi xs k) (fun i => xs.length - i) 0 ⟨by omega, by simp [vmI], by simp [vmI], by simp [vmI], by simp [vmI], by simp [vmI], by simp [vmI], by omega⟩ ?_
  rintro i σ ⟨hi', e0, e1, e2, e9, e10, e11, hall⟩
  simp only [vmA, sN1, reduceIte, sN2, sN3, reduceCtorEq, sN4, sI1, sI2, sI3, sN5, sN6, e0, e1, e2, e9, e10, e11]
  refine ⟨fun hlt => ⟨hlt, by omega, callD (f56 _ _ _) ?_⟩, fun hge => ?_⟩
  · simp only [vmA, sN1, reduceIte, sN2, sN3, reduceCtorEq, sN4, sI1, sI2, sI3, sN5, sN6, e0, e1, e2, e9, e10, e11]
    refine ⟨fun hk => ?_, fun hk => ⟨fun hpos => ?_, fun hz => ?_⟩⟩
    · (refine hQ _ ?_; simp only [vmA, sN1, reduceIte, sN2, sN3, reduceCtorEq, sN4, sI1, sI2, sI3, sN5, sN6, Tryz.f109, retG, resL, St.closeVs, St.closeV])
      exact leafF fun h => hk (h i (by omega)).1
    · rw [wr (by omega)]
      refine ⟨by omega, by omega, ?_⟩
      rw [show ((i : Int) - 1).toNat = i - 1 by omega]
      refine ⟨fun hge => ?_, fun hlt2 => ?_⟩
      · (refine hQ _ ?_; simp only [vmA, sN1, reduceIte, sN2, sN3, reduceCtorEq, sN4, sI1, sI2, sI3, sN5, sN6, Tryz.f109, retG, resL, St.closeVs, St.closeV])
        exact leafF fun h => (h i (by omega)).2 ⟨by omega, hge⟩
      · rw [wr (by omega)]
        refine ⟨i + 1, ⟨by omega, rfl, fun k hkk => ?_⟩, by omega⟩
        rcases Nat.lt_or_eq_of_le (Nat.le_of_lt_succ hkk) with h | rfl
        · exact hall k h
        · exact ⟨hk, fun h => hlt2 h.2⟩
    · rw [wr (by omega)]
      refine ⟨i + 1, ⟨by omega, rfl, fun k hkk => ?_⟩, by omega⟩
      rcases Nat.lt_or_eq_of_le (Nat.le_of_lt_succ hkk) with h | rfl
      · exact hall k h
      · exact ⟨hk, by omega⟩
  · (refine hQ _ ?_; simp only [vmA, sN1, reduceIte, sN2, sN3, reduceCtorEq, sN4, sI1, sI2, sI3, sN5, sN6, Tryz.f109, retG, resL, St.closeVs, St.closeV])
    exact leafB ⟨fun _ k hk => hall k (by omega), fun _ => trivial⟩
set_option maxHeartbeats 8000000
set_option maxHeartbeats 8000000
theorem f66 (v : Val) (hs : okV v) : Fx 66 [vA v] (.bool (decide (valP v))) := by
  refine fn_of false Tryz.func66 (by kernel_rfl) rfl (by kernel_rfl) (by kernel_rfl) (Nat.le_of_ble_eq_true rfl) rfl fun Q hQ => ?_
  simp only [vmA, sN1, reduceIte, sN2, sN3, reduceCtorEq, sN4, sI1, sI2, sI3, sN5, sN6, vA]
  refine callD (f122 v hs) ?_
  simp only [vmA, sN1, reduceIte, sN2, sN3, reduceCtorEq, sN4, sI1, sI2, sI3, sN5, sN6]
  (refine hQ _ ?_; simp only [vmA, sN1, reduceIte, sN2, sN3, reduceCtorEq, sN4, sI1, sI2, sI3, sN5, sN6, Tryz.f66, retG, resL, St.closeVs, St.closeV])
theorem f19 : Fx 19 [] (.bool true) := by
  refine fn_of false Tryz.func19 (by kernel_rfl) rfl (by kernel_rfl) (by kernel_rfl) (Nat.le_of_ble_eq_true rfl) rfl fun Q hQ => ?_
  simp only [vmA, sN1, reduceIte, sN2, sN3, reduceCtorEq, sN4, sI1, sI2, sI3, sN5, sN6]
  refine callD (f66 ⟨1, 3, ⟨⟨[]⟩⟩⟩ (Nat.zero_le _)) ?_
  have h1 : valP ⟨1, 3, ⟨⟨[]⟩⟩⟩ := by unfold valP; simp
  have h2 : ¬ valP ⟨9, 0, ⟨⟨[]⟩⟩⟩ := by unfold valP; simp
  simp only [vmA, sN1, reduceIte, sN2, sN3, reduceCtorEq, sN4, sI1, sI2, sI3, sN5, sN6, decide_eq_true h1]
  refine callD (f66 ⟨9, 0, ⟨⟨[]⟩⟩⟩ (Nat.zero_le _)) ?_
  simp only [vmA, sN1, reduceIte, sN2, sN3, reduceCtorEq, sN4, sI1, sI2, sI3, sN5, sN6, decide_eq_false h2]
  (refine hQ _ ?_; simp only [vmA, sN1, reduceIte, sN2, sN3, reduceCtorEq, sN4, sI1, sI2, sI3, sN5, sN6, Tryz.f19, retG, resL, St.closeVs, St.closeV])
end
section
open Go Go.Vm Go.Proofs
set_option maxRecDepth 100000
set_option maxHeartbeats 8000000
set_option maxHeartbeats 8000000
end
section
open Go Go.Vm Go.Proofs
set_option maxRecDepth 100000
set_option maxHeartbeats 8000000
set_option maxHeartbeats 8000000
def wO (w : Wr) : AV := .agg [.int .i64 w.key, .own 3 (w.row.map vA), .bool w.gone]
theorem froize_wO (w : Wr) : froize (wO w) = wA w := by
  have := map_froize_vA w.row
  simp only [wO, wA, froize, froizeL, froizeL_eq, this]
theorem map_froize_wO (ws : List Wr) : (ws.map wO).map froize = ws.map wA := by simp [froize_wO]
end
section
open Go Go.Vm Go.Proofs
set_option maxRecDepth 100000
set_option maxHeartbeats 8000000
set_option maxHeartbeats 8000000
def grow (σ : St) (s e0 e1 sz n : Nat) (L : List AV) (g : Nat) : Bool → Prop
  | true => σ.sl s = .hd e1 g 0 n false ∧ (σ.en e1).live = true ∧ (σ.en e1).gen = g ∧ (σ.en e1).frz = false ∧ (σ.en e1).sz = sz ∧ (σ.en e1).elems = L
  | false => (n = 0 ∧ L = []) ∧ σ.sl s = .hd e0 1 0 0 true ∧ (σ.en e0).live = true ∧ (σ.en e0).gen = 1 ∧ (σ.en e0).frz = false ∧ (σ.en e0).sz = sz ∧ (σ.en e0).elems = []
theorem f54 (ws : List Wr) (c : Bool) (hl : ws.length ≤ 1048576) (hr : ∀ w ∈ ws, w.row.length ≤ 1048576) : Fx 54 [.fro none c (ws.map wA)] (.own 3 (ws.map wO)) := by
  refine fn_of true Tryz.func54 (by kernel_rfl) rfl (by kernel_rfl) (by kernel_rfl) (Nat.le_of_ble_eq_true rfl) rfl fun Q hQ => ?_
  simp only [vmA, sN1, reduceIte, sN2, sN3, reduceCtorEq, sN4, sI1, sI2, sI3, sN5, sN6, List.length_map]
  refine WT_loop (fun (y : Nat × Nat × Bool) σ => y.1 ≤ ws.length ∧ σ.sl 0 = .fro none c (ws.map wA) ∧ σ.sl 4 = .int .i64 y.1 ∧ grow σ 3 384 1536 3 y.1 ((ws.take y.1).map wO) y.2.1 y.2.2) (fun y => ws.length - y.1) (0, 0, false) ⟨by simp, by simp [vmI], by simp [vmI], by simp [vmI, grow]⟩ ?_
  rintro ⟨i, g, b⟩ σ ⟨hi, e0, e4, ho⟩
  dsimp only at hi e4 ho
  have hlt' : (ws.take i).length = i := by simp; omega
  have hw : ∀ i, i < ws.length → ws[i]!.row.length ≤ 1048576 := fun i h => hr _ (by rw [getElem!_pos ws i h]; exact List.getElem_mem _)
  cases b
  all_goals simp only [grow] at ho
  · obtain ⟨⟨rfl, _⟩, o1, o2, o3, o4, o5, o6⟩ := ho
    simp only [vmA, sN1, reduceIte, sN2, sN3, reduceCtorEq, sN4, sI1, sI2, sI3, sN5, sN6, e0, e4, o1, o2, o3, o4, o5, o6, List.length_map, wA, Option.bind_none]
    refine ⟨fun hlt => ⟨hlt, by omega, callD (f105 _ _ (hw 0 (by omega))) ?_⟩, fun hge => ?_⟩
    · simp only [vmA, sN1, reduceIte, sN2, sN3, reduceCtorEq, sN4, sI1, sI2, sI3, sN5, sN6, e0, e4, o1, o2, o3, o4, o5, o6, List.length_map, wA, Option.bind_none]
      rw [wr (by omega)]
      refine ⟨(1, (σ.en 1536).gen + 1, true), ⟨by dsimp only; omega, rfl, ?_⟩, by dsimp only; omega⟩
      have ht := take_next ws 0 (by omega)
      simp only [vmA, sN1, reduceIte, sN2, sN3, reduceCtorEq, sN4, sI1, sI2, sI3, sN5, sN6, grow, e0, e4, o1, o2, o3, o4, o5, o6, Nat.zero_add, ht, wO, Option.bind_none]
    · (refine hQ _ ?_; simp only [vmA, sN1, reduceIte, sN2, sN3, reduceCtorEq, sN4, sI1, sI2, sI3, sN5, sN6, Tryz.f54, retG, resL, St.closeVs, St.closeV, e0, e4, o1, o2, o3, o4, o5, o6])
      rw [List.eq_nil_of_length_eq_zero (l := ws) (by omega)]
      rfl
  · obtain ⟨o1, o2, o3, o4, o5, o6⟩ := ho
    simp only [vmA, sN1, reduceIte, sN2, sN3, reduceCtorEq, sN4, sI1, sI2, sI3, sN5, sN6, e0, e4, o1, o2, o3, o4, o5, o6, List.length_map, wA, Option.bind_none]
    refine ⟨fun hlt => ⟨hlt, by omega, callD (f105 _ _ (hw i (by omega))) ?_⟩, fun hge => ?_⟩
    · simp only [vmA, sN1, reduceIte, sN2, sN3, reduceCtorEq, sN4, sI1, sI2, sI3, sN5, sN6, e0, e4, o1, o2, o3, o4, o5, o6, List.length_map, wA, Option.bind_none, hlt']
      rw [wr (by omega)]
      refine ⟨by omega, (i + 1, g + 1, true), ⟨by dsimp only; omega, rfl, ?_⟩, by dsimp only; omega⟩
      have ht := take_next ws i (by omega)
      simp only [vmA, sN1, reduceIte, sN2, sN3, reduceCtorEq, sN4, sI1, sI2, sI3, sN5, sN6, grow, e0, e4, o1, o2, o3, o4, o5, o6, ht, wO, Option.bind_none, List.map_append]
    · (refine hQ _ ?_; simp only [vmA, sN1, reduceIte, sN2, sN3, reduceCtorEq, sN4, sI1, sI2, sI3, sN5, sN6, Tryz.f54, retG, resL, St.closeVs, St.closeV, e0, e4, o1, o2, o3, o4, o5, o6, hlt'])
      rw [List.take_of_length_le (l := ws) (by omega), List.take_of_length_le (by simp; omega)]
theorem f150 (ws : List Ver) (c : Bool) (hl : ws.length ≤ 1048576) (hr : ∀ w ∈ ws, w.row.length ≤ 1048576) : Fx 150 [.fro none c (ws.map gA)] (.own 4 (ws.map gO)) := by
  refine fn_of true Tryz.func150 (by kernel_rfl) rfl (by kernel_rfl) (by kernel_rfl) (Nat.le_of_ble_eq_true rfl) rfl fun Q hQ => ?_
  simp only [vmA, sN1, reduceIte, sN2, sN3, reduceCtorEq, sN4, sI1, sI2, sI3, sN5, sN6, List.length_map]
  refine WT_loop (fun (y : Nat × Nat × Bool) σ => y.1 ≤ ws.length ∧ σ.sl 0 = .fro none c (ws.map gA) ∧ σ.sl 4 = .int .i64 y.1 ∧ grow σ 3 384 1536 4 y.1 ((ws.take y.1).map gO) y.2.1 y.2.2) (fun y => ws.length - y.1) (0, 0, false) ⟨by simp, by simp [vmI], by simp [vmI], by simp [vmI, grow]⟩ ?_
  rintro ⟨i, g, b⟩ σ ⟨hi, e0, e4, ho⟩
  dsimp only at hi e4 ho
  have hlt' : (ws.take i).length = i := by simp; omega
  have hw : ∀ i, i < ws.length → ws[i]!.row.length ≤ 1048576 := fun i h => hr _ (by rw [getElem!_pos ws i h]; exact List.getElem_mem _)
  cases b
  all_goals simp only [grow] at ho
  · obtain ⟨⟨rfl, _⟩, o1, o2, o3, o4, o5, o6⟩ := ho
    simp only [vmA, sN1, reduceIte, sN2, sN3, reduceCtorEq, sN4, sI1, sI2, sI3, sN5, sN6, e0, e4, o1, o2, o3, o4, o5, o6, List.length_map, gA, Option.bind_none]
    refine ⟨fun hlt => ⟨hlt, by omega, callD (f105 _ _ (hw 0 (by omega))) ?_⟩, fun hge => ?_⟩
    · simp only [vmA, sN1, reduceIte, sN2, sN3, reduceCtorEq, sN4, sI1, sI2, sI3, sN5, sN6, e0, e4, o1, o2, o3, o4, o5, o6, List.length_map, gA, Option.bind_none]
      rw [wr (by omega)]
      refine ⟨(1, (σ.en 1536).gen + 1, true), ⟨by dsimp only; omega, rfl, ?_⟩, by dsimp only; omega⟩
      have ht := take_next ws 0 (by omega)
      simp only [vmA, sN1, reduceIte, sN2, sN3, reduceCtorEq, sN4, sI1, sI2, sI3, sN5, sN6, grow, e0, e4, o1, o2, o3, o4, o5, o6, Nat.zero_add, ht, gO, Option.bind_none]
    · (refine hQ _ ?_; simp only [vmA, sN1, reduceIte, sN2, sN3, reduceCtorEq, sN4, sI1, sI2, sI3, sN5, sN6, Tryz.f150, retG, resL, St.closeVs, St.closeV, e0, e4, o1, o2, o3, o4, o5, o6])
      rw [List.eq_nil_of_length_eq_zero (l := ws) (by omega)]
      rfl
  · obtain ⟨o1, o2, o3, o4, o5, o6⟩ := ho
    simp only [vmA, sN1, reduceIte, sN2, sN3, reduceCtorEq, sN4, sI1, sI2, sI3, sN5, sN6, e0, e4, o1, o2, o3, o4, o5, o6, List.length_map, gA, Option.bind_none]
    refine ⟨fun hlt => ⟨hlt, by omega, callD (f105 _ _ (hw i (by omega))) ?_⟩, fun hge => ?_⟩
    · simp only [vmA, sN1, reduceIte, sN2, sN3, reduceCtorEq, sN4, sI1, sI2, sI3, sN5, sN6, e0, e4, o1, o2, o3, o4, o5, o6, List.length_map, gA, Option.bind_none, hlt']
      rw [wr (by omega)]
      refine ⟨by omega, (i + 1, g + 1, true), ⟨by dsimp only; omega, rfl, ?_⟩, by dsimp only; omega⟩
      have ht := take_next ws i (by omega)
      simp only [vmA, sN1, reduceIte, sN2, sN3, reduceCtorEq, sN4, sI1, sI2, sI3, sN5, sN6, grow, e0, e4, o1, o2, o3, o4, o5, o6, ht, gO, Option.bind_none, List.map_append]
    · (refine hQ _ ?_; simp only [vmA, sN1, reduceIte, sN2, sN3, reduceCtorEq, sN4, sI1, sI2, sI3, sN5, sN6, Tryz.f150, retG, resL, St.closeVs, St.closeV, e0, e4, o1, o2, o3, o4, o5, o6, hlt'])
      rw [List.take_of_length_le (l := ws) (by omega), List.take_of_length_le (by simp; omega)]
end
