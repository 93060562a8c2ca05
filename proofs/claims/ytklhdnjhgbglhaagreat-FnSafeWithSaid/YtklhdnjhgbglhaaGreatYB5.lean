/- WALK, or plain laws for it: theorem f<k> says what function k returns. Conditions: none but those ahead of each theorem. -/
import Derived.Test.YtklhdnjhgbglhaaGreatYB3
import Derived.Test.YtklhdnjhgbglhaaGreatYH1
set_option linter.unusedVariables false
set_option linter.unusedSimpArgs false
open Nat renaming reduceEqDiff → sN1, reduceAdd → sN2, reduceBEq → sN3, reduceLT → sN4, reduceMul → sN5, reduceLeDiff → sN6, reduceSub → sN7
open Int renaming reduceLE → sI1, reduceLT → sI2, reduceEq → sI3
section
open Go Go.Vm Go.Proofs
set_option maxRecDepth 100000
set_option maxHeartbeats 8000000
set_option maxHeartbeats 8000000
noncomputable def lastS (vs : List Ver) (k : Int) : Int := if verP vs then lastV vs k 0 else 0
theorem f103 (vs : List Ver) (c : Bool) (k : Int) (hl : vs.length ≤ 1048576) (hs : ∀ v ∈ vs, okR v.row) : Fx 103 [.fro none c (vs.map gA), .int .i64 k] (.int .i64 (lastS vs k)) := by
  refine fn_of ⟨false, [], []⟩ Tryz.func103 (by kernel_rfl) rfl (by kernel_rfl) (by kernel_rfl) (Nat.le_of_ble_eq_true rfl) rfl fun Q hQ => ?_
  simp only [vmA, sN1, reduceIte, sN2, sN3, reduceCtorEq, sN4, sI1, sI2, sI3, sN5, sN6, List.length_map]
  refine WT_loop (fun (i : Nat) σ => (i ≤ vs.length ∧ (0 < i → verP vs)) ∧ σ.sl 6 = .int .i64 i ∧ σ.sl 5 = .int .i64 (lastV (vs.take i) k 0) ∧ σ.sl 0 = .fro none c (vs.map gA) ∧ σ.sl 1 = .int .i64 k) (fun i => vs.length - i) (0) ⟨⟨Nat.zero_le _, by omega⟩, by simp [vmI, lastV, List.take_zero, List.foldl_nil], by simp [vmI, lastV, List.take_zero, List.foldl_nil], by simp [vmI, lastV, List.take_zero, List.foldl_nil], by simp [vmI, lastV, List.take_zero, List.foldl_nil]⟩ ?_
  rintro i σ ⟨hi, e6, e5, e0, e1⟩
  obtain ⟨hi, hv0⟩ := hi
  simp only [vmA, sN1, reduceIte, sN2, sN3, reduceCtorEq, sN4, sI1, sI2, sI3, sN5, sN6, e6, e5, e0, e1, gA, List.length_map]
  refine ⟨fun h => callD (f101 vs c (by omega) hs) ?_, fun h => ?_⟩
  · simp only [vmA, sN1, reduceIte, sN2, sN3, reduceCtorEq, sN4, sI1, sI2, sI3, sN5, sN6, e6, e5, e0, e1, gA, List.length_map, t_max2, t_max3, maxF2, maxF3]
    have hn := lastV_next vs k 0 (i := i) (by omega)
    refine ⟨fun hv => ⟨h, by omega, fun hk => ?_, fun hk => ?_⟩, fun hv => ?_⟩
    · refine ⟨by omega, by omega, by omega, by omega, ?_⟩
      rw [wr (by omega)]
      rw [if_pos hk] at hn
      exact ⟨i + 1, ⟨⟨by omega, fun _ => hv⟩, rfl, by rw [hn]⟩, by omega⟩
    · rw [wr (by omega)]
      rw [if_neg hk] at hn
      exact ⟨i + 1, ⟨⟨by omega, fun _ => hv⟩, rfl, by rw [hn]⟩, by omega⟩
    · (refine hQ _ ?_; simp only [vmA, sN1, reduceIte, sN2, sN3, reduceCtorEq, sN4, sI1, sI2, sI3, sN5, sN6, Tryz.f103, retG, resL, St.closeVs, St.closeV, e6, e5, e0, e1])
      obtain rfl : i = 0 := by
        rcases Nat.eq_zero_or_pos i with h | h
        · exact h
        · exact absurd (hv0 h) hv
      rw [lastS, if_neg hv]
      rfl
  · (refine hQ _ ?_; simp only [vmA, sN1, reduceIte, sN2, sN3, reduceCtorEq, sN4, sI1, sI2, sI3, sN5, sN6, Tryz.f103, retG, resL, St.closeVs, St.closeV, e6, e5, e0, e1])
    rw [List.take_of_length_le (by omega), lastS]
    split
    · rfl
    · rename_i hv
      have : i = 0 := by
        rcases Nat.eq_zero_or_pos i with h | h
        · exact h
        · exact absurd (hv0 h) hv
      have : vs = [] := List.eq_nil_of_length_eq_zero (by omega)
      rw [this]
      rfl
theorem leafT {q : Prop} [Decidable q] (h : q) : AV.bool true = AV.bool (decide q) := by rw [decide_eq_true h]
def seenR (vs : List Ver) (key t : Int) : Option (List Val) := (vs.find? (fun v => decide (liveAt key t v))).map Ver.row
noncomputable def seenS (vs : List Ver) (key t : Int) : AV := if verP vs then match seenR vs key t with
  | some r => .tup [.own 3 (r.map vA), .bool true]
  | none => .tup [.own 3 [], .bool false] else .tup [.own 3 [], .bool false]
noncomputable def rowsN (vs : List Ver) (t : Int) (n : Nat) : List (List Val) := if verP vs then rowsT vs t n else []
noncomputable abbrev rowsS (vs : List Ver) (t : Int) : List (List Val) := rowsN vs t 5
end
section
open Go Go.Vm Go.Proofs
set_option maxRecDepth 100000
set_option maxHeartbeats 8000000
set_option maxHeartbeats 8000000
def noteL (key : Int) : List Int → Bool → List Int
  | [], d => if d then [] else [key]
  | x :: xs, d => (if key ≤ x ∧ d = false then [key] else []) ++ ((if x ≠ key then [x] else []) ++ noteL key xs (d || decide (key ≤ x)))
theorem noteL_at (key : Int) (xs : List Int) (i : Nat) (d : Bool) (h : i < xs.length) : noteL key (xs.drop i) d = (if key ≤ xs[i]! ∧ d = false then [key] else []) ++ ((if xs[i]! ≠ key then [xs[i]!] else []) ++ noteL key (xs.drop (i + 1)) (d || decide (key ≤ xs[i]!))) := by
  rw [List.drop_eq_getElem_cons h, noteL, getElem!_pos xs i h]
theorem app_f {α : Type} (f : α → AV) (L : List α) (k : α) (x : AV) (h : x = f k) : List.map f L ++ [x] = List.map f (L ++ [k]) := by rw [h, List.map_append]; rfl
theorem app_iA (L : List Int) (k : Int) : List.map iA L ++ [AV.int .i64 k] = List.map iA (L ++ [k]) := app_f iA L k _ rfl
theorem len1 {α : Type} (L : List α) (k : α) : (L ++ [k]).length = L.length + 1 := by simp
theorem tk1 {α : Type} (f : α → AV) (L : List α) (k : α) : List.take (L.length + 1) (List.map f (L ++ [k])) = List.map f (L ++ [k]) := List.take_of_length_le (by simp)
theorem tk2 {α : Type} (f : α → AV) (L : List α) (k m : α) : List.take (L.length + 1 + 1) (List.map f (L ++ [k] ++ [m])) = List.map f (L ++ [k] ++ [m]) := List.take_of_length_le (by simp)
theorem f128 (xs : List Int) (c : Bool) (key : Int) (hl : xs.length ≤ 1048576) : Fx 128 [.fro none c (xs.map iA), .int .i64 key] (.own 1 ((noteL key xs false).map iA)) := by
  refine fn_of ⟨true, [], []⟩ Tryz.func128 (by kernel_rfl) rfl (by kernel_rfl) (by kernel_rfl) (Nat.le_of_ble_eq_true rfl) rfl fun Q hQ => ?_
  simp only [vmA, sN1, reduceIte, sN2, sN3, reduceCtorEq, sN4, sI1, sI2, sI3, sN5, sN6, List.length_map]
  refine WT_loopR (fun (zz : Nat × Nat × List Int × Bool) σ => (zz.1 ≤ xs.length ∧ zz.2.2.1 ++ noteL key (xs.drop zz.1) zz.2.2.2 = noteL key xs false ∧ zz.2.2.1.length ≤ 2 * zz.1) ∧ σ.sl 7 = .int .i64 zz.1 ∧ σ.sl 6 = .bool zz.2.2.2 ∧ σ.sl 0 = .fro none c (xs.map iA) ∧ σ.sl 1 = .int .i64 key ∧ σ.sl 5 = .hd 320 zz.2.1 0 (zz.2.2.1.length) false ∧ (σ.en 320).live = true ∧ (σ.en 320).gen = zz.2.1 ∧ (σ.en 320).frz = false ∧ (σ.en 320).sz = 1 ∧ (σ.en 320).elems = zz.2.2.1.map iA) (fun zz => xs.length - zz.1) 5 ?_ ?_
  · simp only [vmA, sN1, reduceIte, sN2, sN3, reduceCtorEq, sN4, sI1, sI2, sI3, sN5, sN6, reown]
    exact ⟨(0, 1, [], false), ⟨Nat.zero_le _, by simp, by simp⟩, rfl, by simp⟩
  rintro ⟨i, γ, L, d⟩ σ ⟨hi, e7, e6, e0, e1, e5, m320a, m320b, m320c, m320d, m320e⟩
  try dsimp only at e7 e6 e0 e1 e5 m320a m320b m320c m320d m320e hi
  obtain ⟨hi, hL, hn⟩ := hi
  cases d
  · simp only [vmA, sN1, reduceIte, sN2, sN3, reduceCtorEq, sN4, sI1, sI2, sI3, sN5, sN6, e7, e6, e0, e1, e5, m320a, m320b, m320c, m320d, m320e, List.length_map, Bool.not_false, Bool.not_true, reown, Option.bind_none, app_iA, len1, tk1, tk2]
    refine ⟨fun h => ⟨h, by omega, ?_⟩, fun h => ?_⟩
    · rw [noteL_at key xs i _ (by omega)] at hL
      refine ⟨fun hk => ?_, fun hk => ?_⟩
      · rw [if_pos ⟨hk, rfl⟩, decide_eq_true hk] at hL
        refine ⟨by omega, h, by omega, fun hne => ?_, fun he => ?_⟩
        · rw [if_pos hne] at hL
          refine ⟨h, by omega, by omega, ?_⟩
          rw [wr (by omega)]
          exact ⟨(i + 1, γ + 1 + 1 + 1, L ++ [key] ++ [xs[i]!], true), ⟨⟨by dsimp only; omega, by dsimp only; simpa using hL, by dsimp only; (try simp); omega⟩, rfl, rfl, by simp, rfl, rfl⟩, by dsimp only; omega⟩
        · rw [if_neg (fun h => h he)] at hL
          rw [wr (by omega)]
          exact ⟨(i + 1, γ + 1 + 1, L ++ [key], true), ⟨⟨by dsimp only; omega, by dsimp only; simpa using hL, by dsimp only; (try simp); omega⟩, rfl, rfl, by simp, rfl, rfl⟩, by dsimp only; omega⟩
      · rw [if_neg (fun h => hk h.1), decide_eq_false hk] at hL
        refine ⟨h, by omega, fun hne => ?_, fun he => ?_⟩
        · rw [if_pos hne] at hL
          rw [wr (by omega)]
          exact ⟨h, by omega, by omega, ⟨(i + 1, γ + 1 + 1, L ++ [xs[i]!], false), ⟨⟨by dsimp only; omega, by dsimp only; simpa using hL, by dsimp only; (try simp); omega⟩, rfl, rfl, by simp, rfl, rfl⟩, by dsimp only; omega⟩⟩
        · rw [if_neg (fun h => h he)] at hL
          rw [wr (by omega)]
          exact ⟨(i + 1, γ + 1, L, false), ⟨⟨by dsimp only; omega, by dsimp only; simpa using hL, by dsimp only; (try simp); omega⟩, rfl, rfl, by simp, rfl, rfl⟩, by dsimp only; omega⟩
    · refine ⟨by omega, ?_⟩
      (refine hQ _ ?_; simp only [vmA, sN1, reduceIte, sN2, sN3, reduceCtorEq, sN4, sI1, sI2, sI3, sN5, sN6, Tryz.f128, retG, resL, St.closeVs, St.closeV, e7, e6, e0, e1, e5, m320a, m320b, m320c, m320d, m320e, List.length_map, Bool.not_false, Bool.not_true, reown, Option.bind_none, app_iA, len1, tk1, tk2])
      obtain rfl : i = xs.length := by omega
      rw [List.drop_length, noteL] at hL
      rw [← hL]
      rfl
  · simp only [vmA, sN1, reduceIte, sN2, sN3, reduceCtorEq, sN4, sI1, sI2, sI3, sN5, sN6, e7, e6, e0, e1, e5, m320a, m320b, m320c, m320d, m320e, List.length_map, Bool.not_false, Bool.not_true, reown, Option.bind_none, app_iA, len1, tk1, tk2]
    refine ⟨fun h => ⟨h, by omega, ?_⟩, fun h => ?_⟩
    · rw [noteL_at key xs i _ (by omega)] at hL
      rw [if_neg (fun h => by simp at h), Bool.true_or] at hL
      rw [wr (by omega)]
      have key1 : ∀ (_ : True), (¬xs[i]! = key → xs.length - (i + 1) < xs.length - i ∧ L ++ [xs[i]!] ++ noteL key (xs.drop (i + 1)) true = noteL key xs false) ∧ (xs[i]! = key → L ++ noteL key (xs.drop (i + 1)) true = noteL key xs false) := fun _ => ⟨fun hne => ⟨by omega, by rw [if_pos hne] at hL; simpa using hL⟩, fun he => by rw [if_neg (fun h => h he)] at hL; simpa using hL⟩
      refine ⟨fun _ => ⟨h, by omega, fun hne => ?_, fun he => ?_⟩, fun _ => ⟨h, by omega, fun hne => ?_, fun he => ?_⟩⟩
      all_goals first
        | (have hL := ((key1 trivial).1 hne).2
           exact ⟨h, by omega, by omega, ⟨(i + 1, γ + 1 + 1, L ++ [xs[i]!], true), ⟨⟨by dsimp only; omega, by dsimp only; simpa using hL, by dsimp only; (try simp); omega⟩, rfl, rfl, by simp, rfl, rfl⟩, by dsimp only; omega⟩⟩)
        | (have hL := (key1 trivial).2 he
           exact ⟨(i + 1, γ + 1, L, true), ⟨⟨by dsimp only; omega, by dsimp only; simpa using hL, by dsimp only; (try simp); omega⟩, rfl, rfl, by simp, rfl, rfl⟩, by dsimp only; omega⟩)
    · (refine hQ _ ?_; simp only [vmA, sN1, reduceIte, sN2, sN3, reduceCtorEq, sN4, sI1, sI2, sI3, sN5, sN6, Tryz.f128, retG, resL, St.closeVs, St.closeV, e7, e6, e0, e1, e5, m320a, m320b, m320c, m320d, m320e])
      obtain rfl : i = xs.length := by omega
      rw [List.drop_length, noteL] at hL
      rw [← hL]
      simp
end
section
open Go Go.Vm Go.Proofs
set_option maxRecDepth 100000
set_option maxHeartbeats 8000000
set_option maxHeartbeats 8000000
structure Tx where
  st : Int
  bg : Int
  fn : Int
  rd : List Int
  ws : List Wr
instance : Inhabited Tx := ⟨⟨0, 0, 0, [], []⟩⟩
def xA (t : Tx) : AV := .agg [.int .i64 t.st, .int .i64 t.bg, .int .i64 t.fn, .fro none false (t.rd.map iA), .fro none false (t.ws.map wA)]
def txN (t : Tx) : Prop := t.bg = 0 ∧ t.fn = 0 ∧ t.rd.length = 0 ∧ t.ws.length = 0
def txB (t : Tx) (k : Int) : Prop := (0 ≤ t.bg ∧ t.bg ≤ k) ∧ riP 0 4 t.rd ∧ wrsP t.ws
def txP (t : Tx) (k : Int) : Prop := (t.st = 0 ∧ txN t) ∨ (t.st = 2 ∧ (t.bg + 1 ≤ t.fn ∧ t.fn ≤ k) ∧ txB t k) ∨ ((t.st = 1 ∨ t.st = 3) ∧ t.fn = 0 ∧ txB t k)
instance (t : Tx) : Decidable (txN t) := by unfold txN; exact inferInstance
instance (t : Tx) (k : Int) : Decidable (txB t k) := by unfold txB; exact inferInstance
instance (t : Tx) (k : Int) : Decidable (txP t k) := by unfold txP; exact inferInstance
def okX (t : Tx) : Prop := t.rd.length ≤ 9223372036854775807 ∧ t.ws.length ≤ 9223372036854775807 ∧ ∀ w ∈ t.ws, okW w
theorem f163 (xs : List Int) (c : Bool) (hl : xs.length ≤ 9223372036854775807) : Fx 163 [.fro none c (xs.map iA)] (.bool (decide (riP 0 4 xs))) := by
  refine fn_of ⟨false, [], []⟩ Tryz.func163 (by kernel_rfl) rfl (by kernel_rfl) (by kernel_rfl) (Nat.le_of_ble_eq_true rfl) rfl fun Q hQ => ?_
  simp only [vmA, sN1, reduceIte, sN2, sN3, reduceCtorEq, sN4, sI1, sI2, sI3, sN5, sN6, List.length_map]
  refine WT_loop (fun (i : Nat) σ => (i ≤ xs.length ∧ (∀ k, k < i → riAt 0 4 xs k)) ∧ σ.sl 3 = .int .i64 i ∧ σ.sl 0 = .fro none c (xs.map iA)) (fun i => xs.length - i) (0) ⟨⟨Nat.zero_le _, by omega⟩, by simp [vmI], by simp [vmI]⟩ ?_
  rintro i σ ⟨hi, e3, e0⟩
  obtain ⟨hi, hall⟩ := hi
  have nxt : riAt 0 4 xs i → ∀ k, k < i + 1 → riAt 0 4 xs k := fun h k hk => by
    rcases Nat.lt_or_eq_of_le (Nat.le_of_lt_succ hk) with h2 | rfl
    · exact hall k h2
    · exact h
  simp only [vmA, sN1, reduceIte, sN2, sN3, reduceCtorEq, sN4, sI1, sI2, sI3, sN5, sN6, e3, e0, List.length_map]
  refine ⟨fun hlt => ⟨hlt, by omega, callD (f102 _ _ _) ?_⟩, fun hge => ?_⟩
  · simp only [vmA, sN1, reduceIte, sN2, sN3, reduceCtorEq, sN4, sI1, sI2, sI3, sN5, sN6, e3, e0, List.length_map]
    refine ⟨fun hk => ?_, fun hk => ⟨fun hpos => ?_, fun hz => ?_⟩⟩
    · (refine hQ _ ?_; simp only [vmA, sN1, reduceIte, sN2, sN3, reduceCtorEq, sN4, sI1, sI2, sI3, sN5, sN6, Tryz.f163, retG, resL, St.closeVs, St.closeV, e3, e0])
      exact leafF fun h => hk (h i (by omega)).1
    · have hw : IntKind.i64.wrap ((i : Int) - 1) = ((i - 1 : Nat) : Int) := by rw [wr (by omega)]; omega
      simp only [hw, Int.toNat_natCast]
      refine ⟨⟨by omega, by omega⟩, by omega, by omega, by omega, fun hge => ?_, fun hlt2 => ?_⟩
      · (refine hQ _ ?_; simp only [vmA, sN1, reduceIte, sN2, sN3, reduceCtorEq, sN4, sI1, sI2, sI3, sN5, sN6, Tryz.f163, retG, resL, St.closeVs, St.closeV, e3, e0])
        exact leafF fun h => (h i (by omega)).2 ⟨by omega, hge⟩
      · rw [wr (by omega)]
        exact ⟨i + 1, ⟨⟨by omega, nxt ⟨hk, fun h => hlt2 h.2⟩⟩, rfl⟩, by omega⟩
    · rw [wr (by omega)]
      exact ⟨i + 1, ⟨⟨by omega, nxt ⟨hk, by omega⟩⟩, rfl⟩, by omega⟩
  · (refine hQ _ ?_; simp only [vmA, sN1, reduceIte, sN2, sN3, reduceCtorEq, sN4, sI1, sI2, sI3, sN5, sN6, Tryz.f163, retG, resL, St.closeVs, St.closeV, e3, e0])
    exact leafB ⟨fun _ k hk => hall k (by omega), fun _ => trivial⟩
theorem leafG {b : Bool} {q : Prop} [Decidable q] (h : b = true ↔ q) : AV.bool b = AV.bool (decide q) := by
  congr 1
  cases b
  · exact (decide_eq_false (fun hq => by have := h.2 hq; cases this)).symm
  · exact (decide_eq_true (h.1 rfl)).symm
set_option maxHeartbeats 8000000 in
theorem f58 (t : Tx) (k : Int) (hk : 0 ≤ k ∧ k ≤ 40) (ho : okX t) : Fx 58 [xA t, .int .i64 k] (.bool (decide (txP t k))) := by
  have hw : 0 ≤ t.bg ∧ t.bg ≤ k → IntKind.i64.wrap (t.bg + 1) = t.bg + 1 := fun h => wr (by omega)
  refine fn_of ⟨false, [], []⟩ Tryz.func58 (by kernel_rfl) rfl (by kernel_rfl) (by kernel_rfl) (Nat.le_of_ble_eq_true rfl) rfl fun Q hQ => ?_
  simp only [vmA, sN1, reduceIte, sN2, sN3, reduceCtorEq, sN4, sI1, sI2, sI3, sN5, sN6, xA, List.length_map]
  repeat' (first | (with_reducible refine And.intro ?_ ?_) | (with_reducible intro _))
  all_goals try ((refine hQ _ ?_; simp only [vmA, sN1, reduceIte, sN2, sN3, reduceCtorEq, sN4, sI1, sI2, sI3, sN5, sN6, Tryz.f58, retG, resL, St.closeVs, St.closeV]); exact leafG (by grind [txP, txN, txB]))
  all_goals (first | refine callD (f56 _ _ _) ?_ | refine callD (f109 t.rd false 0 4 ho.1) ?_ | refine callD (f63 t.ws false ho.2.1 ho.2.2) ?_)
  all_goals simp only [vmA, sN1, reduceIte, sN2, sN3, reduceCtorEq, sN4, sI1, sI2, sI3, sN5, sN6, xA, List.length_map]
  all_goals repeat' (first | (with_reducible refine And.intro ?_ ?_) | (with_reducible intro _))
  all_goals try ((refine hQ _ ?_; simp only [vmA, sN1, reduceIte, sN2, sN3, reduceCtorEq, sN4, sI1, sI2, sI3, sN5, sN6, Tryz.f58, retG, resL, St.closeVs, St.closeV]); exact leafG (by grind [txP, txN, txB]))
  all_goals (first | refine callD (f56 _ _ _) ?_ | refine callD (f109 t.rd false 0 4 ho.1) ?_ | refine callD (f63 t.ws false ho.2.1 ho.2.2) ?_)
  all_goals simp only [vmA, sN1, reduceIte, sN2, sN3, reduceCtorEq, sN4, sI1, sI2, sI3, sN5, sN6, xA, List.length_map]
  all_goals repeat' (first | (with_reducible refine And.intro ?_ ?_) | (with_reducible intro _))
  all_goals try ((refine hQ _ ?_; simp only [vmA, sN1, reduceIte, sN2, sN3, reduceCtorEq, sN4, sI1, sI2, sI3, sN5, sN6, Tryz.f58, retG, resL, St.closeVs, St.closeV]); exact leafG (by grind [txP, txN, txB]))
  all_goals (first | refine callD (f56 _ _ _) ?_ | refine callD (f109 t.rd false 0 4 ho.1) ?_ | refine callD (f63 t.ws false ho.2.1 ho.2.2) ?_)
  all_goals simp only [vmA, sN1, reduceIte, sN2, sN3, reduceCtorEq, sN4, sI1, sI2, sI3, sN5, sN6, xA, List.length_map]
  all_goals repeat' (first | (with_reducible refine And.intro ?_ ?_) | (with_reducible intro _))
  all_goals try ((refine hQ _ ?_; simp only [vmA, sN1, reduceIte, sN2, sN3, reduceCtorEq, sN4, sI1, sI2, sI3, sN5, sN6, Tryz.f58, retG, resL, St.closeVs, St.closeV]); exact leafG (by grind [txP, txN, txB]))
  all_goals (first | refine callD (f56 _ _ _) ?_ | refine callD (f109 t.rd false 0 4 ho.1) ?_ | refine callD (f63 t.ws false ho.2.1 ho.2.2) ?_)
  all_goals simp only [vmA, sN1, reduceIte, sN2, sN3, reduceCtorEq, sN4, sI1, sI2, sI3, sN5, sN6, xA, List.length_map]
  all_goals repeat' (first | (with_reducible refine And.intro ?_ ?_) | (with_reducible intro _))
  all_goals try ((refine hQ _ ?_; simp only [vmA, sN1, reduceIte, sN2, sN3, reduceCtorEq, sN4, sI1, sI2, sI3, sN5, sN6, Tryz.f58, retG, resL, St.closeVs, St.closeV]); exact leafG (by grind [txP, txN, txB]))
set_option maxHeartbeats 8000000 in
theorem f104 (t : Tx) (k : Int) (hk : 0 ≤ k ∧ k ≤ 40) (ho : okX t) : Fx 104 [xA t, .int .i64 k] (.bool (decide (txP t k))) := by
  have hw : 0 ≤ t.bg ∧ t.bg ≤ k → IntKind.i64.wrap (t.bg + 1) = t.bg + 1 := fun h => wr (by omega)
  refine fn_of ⟨false, [], []⟩ Tryz.func104 (by kernel_rfl) rfl (by kernel_rfl) (by kernel_rfl) (Nat.le_of_ble_eq_true rfl) rfl fun Q hQ => ?_
  simp only [vmA, sN1, reduceIte, sN2, sN3, reduceCtorEq, sN4, sI1, sI2, sI3, sN5, sN6, xA, List.length_map]
  repeat' (first | (with_reducible refine And.intro ?_ ?_) | (with_reducible intro _))
  all_goals try ((refine hQ _ ?_; simp only [vmA, sN1, reduceIte, sN2, sN3, reduceCtorEq, sN4, sI1, sI2, sI3, sN5, sN6, Tryz.f104, retG, resL, St.closeVs, St.closeV]); exact leafG (by grind [txP, txN, txB]))
  all_goals (first | refine callD (f102 _ _ _) ?_ | refine callD (f163 t.rd false ho.1) ?_ | refine callD (f164 t.ws false ho.2.1 ho.2.2) ?_)
  all_goals simp only [vmA, sN1, reduceIte, sN2, sN3, reduceCtorEq, sN4, sI1, sI2, sI3, sN5, sN6, xA, List.length_map]
  all_goals repeat' (first | (with_reducible refine And.intro ?_ ?_) | (with_reducible intro _))
  all_goals try ((refine hQ _ ?_; simp only [vmA, sN1, reduceIte, sN2, sN3, reduceCtorEq, sN4, sI1, sI2, sI3, sN5, sN6, Tryz.f104, retG, resL, St.closeVs, St.closeV]); exact leafG (by grind [txP, txN, txB]))
  all_goals (first | refine callD (f102 _ _ _) ?_ | refine callD (f163 t.rd false ho.1) ?_ | refine callD (f164 t.ws false ho.2.1 ho.2.2) ?_)
  all_goals simp only [vmA, sN1, reduceIte, sN2, sN3, reduceCtorEq, sN4, sI1, sI2, sI3, sN5, sN6, xA, List.length_map]
  all_goals repeat' (first | (with_reducible refine And.intro ?_ ?_) | (with_reducible intro _))
  all_goals try ((refine hQ _ ?_; simp only [vmA, sN1, reduceIte, sN2, sN3, reduceCtorEq, sN4, sI1, sI2, sI3, sN5, sN6, Tryz.f104, retG, resL, St.closeVs, St.closeV]); exact leafG (by grind [txP, txN, txB]))
  all_goals (first | refine callD (f102 _ _ _) ?_ | refine callD (f163 t.rd false ho.1) ?_ | refine callD (f164 t.ws false ho.2.1 ho.2.2) ?_)
  all_goals simp only [vmA, sN1, reduceIte, sN2, sN3, reduceCtorEq, sN4, sI1, sI2, sI3, sN5, sN6, xA, List.length_map]
  all_goals repeat' (first | (with_reducible refine And.intro ?_ ?_) | (with_reducible intro _))
  all_goals try ((refine hQ _ ?_; simp only [vmA, sN1, reduceIte, sN2, sN3, reduceCtorEq, sN4, sI1, sI2, sI3, sN5, sN6, Tryz.f104, retG, resL, St.closeVs, St.closeV]); exact leafG (by grind [txP, txN, txB]))
  all_goals (first | refine callD (f102 _ _ _) ?_ | refine callD (f163 t.rd false ho.1) ?_ | refine callD (f164 t.ws false ho.2.1 ho.2.2) ?_)
  all_goals simp only [vmA, sN1, reduceIte, sN2, sN3, reduceCtorEq, sN4, sI1, sI2, sI3, sN5, sN6, xA, List.length_map]
  all_goals repeat' (first | (with_reducible refine And.intro ?_ ?_) | (with_reducible intro _))
  all_goals try ((refine hQ _ ?_; simp only [vmA, sN1, reduceIte, sN2, sN3, reduceCtorEq, sN4, sI1, sI2, sI3, sN5, sN6, Tryz.f104, retG, resL, St.closeVs, St.closeV]); exact leafG (by grind [txP, txN, txB]))
end
