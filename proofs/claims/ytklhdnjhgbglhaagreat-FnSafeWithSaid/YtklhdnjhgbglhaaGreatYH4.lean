/- WALK, or plain laws for it: theorem f<k> says what function k returns. Conditions: none but those ahead of each theorem. -/
import Derived.Test.YtklhdnjhgbglhaaGreatYB5
import Derived.Test.YtklhdnjhgbglhaaGreatYB6
import Derived.Test.YtklhdnjhgbglhaaGreatYLib6
set_option linter.unusedVariables false
set_option linter.unusedSimpArgs false
open Nat renaming reduceEqDiff → sN1, reduceAdd → sN2, reduceBEq → sN3, reduceLT → sN4, reduceMul → sN5, reduceLeDiff → sN6, reduceSub → sN7
open Int renaming reduceLE → sI1, reduceLT → sI2, reduceEq → sI3
section
open Go Go.Vm Go.Proofs
set_option maxRecDepth 100000
set_option maxHeartbeats 8000000
set_option maxHeartbeats 8000000
def putL (w : Wr) : List Wr → Bool → List Wr
  | [], d => if d then [] else [w]
  | x :: xs, d => (if w.key ≤ x.key ∧ d = false then [w] else []) ++ ((if x.key ≠ w.key then [x] else []) ++ putL w xs (d || decide (w.key ≤ x.key)))
theorem putL_at (w : Wr) (xs : List Wr) (i : Nat) (d : Bool) (h : i < xs.length) : putL w (xs.drop i) d = (if w.key ≤ xs[i]!.key ∧ d = false then [w] else []) ++ ((if xs[i]!.key ≠ w.key then [xs[i]!] else []) ++ putL w (xs.drop (i + 1)) (d || decide (w.key ≤ xs[i]!.key))) := by
  rw [List.drop_eq_getElem_cons h, putL, getElem!_pos xs i h]
theorem app_wA (L : List Wr) (k : Int) (r : List Val) (g : Bool) : List.map wA L ++ [.agg [.int .i64 k, .fro none false (r.map vA), .bool g]] = List.map wA (L ++ [⟨k, r, g⟩]) := app_f wA L ⟨k, r, g⟩ _ rfl
theorem f129 (xs : List Wr) (c : Bool) (w : Wr) (hl : xs.length ≤ 1048576) : Fx 129 [.fro none c (xs.map wA), wA w] (.own 3 ((putL w xs false).map wA)) := by
  refine fn_of ⟨true, [], []⟩ Tryz.func129 (by kernel_rfl) rfl (by kernel_rfl) (by kernel_rfl) (Nat.le_of_ble_eq_true rfl) rfl fun Q hQ => ?_
  simp only [vmA, sN1, reduceIte, sN2, sN3, reduceCtorEq, sN4, sI1, sI2, sI3, sN5, sN6, List.length_map, wA]
  refine WT_loopR (fun (zz : Nat × Nat × List Wr × Bool) σ => (zz.1 ≤ xs.length ∧ zz.2.2.1 ++ putL w (xs.drop zz.1) zz.2.2.2 = putL w xs false ∧ zz.2.2.1.length ≤ 2 * zz.1) ∧ σ.sl 7 = .int .i64 zz.1 ∧ σ.sl 6 = .bool zz.2.2.2 ∧ σ.sl 0 = .fro none c (xs.map wA) ∧ σ.sl 3 = .ptr 192 1 0 0 ∧ (σ.en 192).live = true ∧ (σ.en 192).gen = 1 ∧ (σ.en 192).frz = false ∧ (σ.en 192).sz = 3 ∧ (σ.en 192).elems = [wA w] ∧ σ.sl 5 = .hd 320 zz.2.1 0 (zz.2.2.1.length) false ∧ (σ.en 320).live = true ∧ (σ.en 320).gen = zz.2.1 ∧ (σ.en 320).frz = false ∧ (σ.en 320).sz = 3 ∧ (σ.en 320).elems = zz.2.2.1.map wA) (fun zz => xs.length - zz.1) 5 ?_ ?_
  · simp only [vmA, sN1, reduceIte, sN2, sN3, reduceCtorEq, sN4, sI1, sI2, sI3, sN5, sN6, reown, wA]
    exact ⟨(0, 1, [], false), ⟨Nat.zero_le _, by simp, by simp⟩, rfl, by simp⟩
  rintro ⟨i, γ, L, d⟩ σ ⟨hi, e7, e6, e0, e3, m192a, m192b, m192c, m192d, m192e, e5, m320a, m320b, m320c, m320d, m320e⟩
  try dsimp only at e7 e6 e0 e3 m192a m192b m192c m192d m192e e5 m320a m320b m320c m320d m320e hi
  obtain ⟨hi, hL, hn⟩ := hi
  cases d
  · simp only [vmA, sN1, reduceIte, sN2, sN3, reduceCtorEq, sN4, sI1, sI2, sI3, sN5, sN6, e7, e6, e0, e3, m192a, m192b, m192c, m192d, m192e, e5, m320a, m320b, m320c, m320d, m320e, List.length_map, Bool.not_false, Bool.not_true, reown, Option.bind_none, app_wA, wA, len1, tk1, tk2]
    refine ⟨fun h => ⟨h, by omega, ?_⟩, fun h => ?_⟩
    · rw [putL_at w xs i _ (by omega)] at hL
      refine ⟨fun hk => ?_, fun hk => ?_⟩
      · rw [if_pos ⟨hk, rfl⟩, decide_eq_true hk] at hL
        refine ⟨by omega, h, by omega, fun hne => ?_, fun he => ?_⟩
        · rw [if_pos hne] at hL
          refine ⟨h, by omega, by omega, ?_⟩
          rw [wr (by omega)]
          exact ⟨(i + 1, γ + 1 + 1 + 1, L ++ [w] ++ [xs[i]!], true), ⟨⟨by dsimp only; omega, by dsimp only; simpa using hL, by dsimp only; (try simp); omega⟩, rfl, rfl, by simp, rfl, rfl⟩, by dsimp only; omega⟩
        · rw [if_neg (fun h => h he)] at hL
          rw [wr (by omega)]
          exact ⟨(i + 1, γ + 1 + 1, L ++ [w], true), ⟨⟨by dsimp only; omega, by dsimp only; simpa using hL, by dsimp only; (try simp); omega⟩, rfl, rfl, by simp, rfl, rfl⟩, by dsimp only; omega⟩
      · rw [if_neg (fun h => hk h.1), decide_eq_false hk] at hL
        refine ⟨h, by omega, fun hne => ?_, fun he => ?_⟩
        · rw [if_pos hne] at hL
          rw [wr (by omega)]
          exact ⟨h, by omega, by omega, ⟨(i + 1, γ + 1 + 1, L ++ [xs[i]!], false), ⟨⟨by dsimp only; omega, by dsimp only; simpa using hL, by dsimp only; (try simp); omega⟩, rfl, rfl, by simp, rfl, rfl⟩, by dsimp only; omega⟩⟩
        · rw [if_neg (fun h => h he)] at hL
          rw [wr (by omega)]
          exact ⟨(i + 1, γ + 1, L, false), ⟨⟨by dsimp only; omega, by dsimp only; simpa using hL, by dsimp only; (try simp); omega⟩, rfl, rfl, by simp, rfl, rfl⟩, by dsimp only; omega⟩
    · refine ⟨by omega, ?_⟩
      (refine hQ _ ?_; simp only [vmA, sN1, reduceIte, sN2, sN3, reduceCtorEq, sN4, sI1, sI2, sI3, sN5, sN6, Tryz.f129, retG, resL, St.closeVs, St.closeV, e7, e6, e0, e3, m192a, m192b, m192c, m192d, m192e, e5, m320a, m320b, m320c, m320d, m320e, List.length_map, Bool.not_false, Bool.not_true, reown, Option.bind_none, app_wA, wA, len1, tk1, tk2])
      obtain rfl : i = xs.length := by omega
      rw [List.drop_length, putL] at hL
      rw [← hL]
      rfl
  · simp only [vmA, sN1, reduceIte, sN2, sN3, reduceCtorEq, sN4, sI1, sI2, sI3, sN5, sN6, e7, e6, e0, e3, m192a, m192b, m192c, m192d, m192e, e5, m320a, m320b, m320c, m320d, m320e, List.length_map, Bool.not_false, Bool.not_true, reown, Option.bind_none, app_wA, wA, len1, tk1, tk2]
    refine ⟨fun h => ⟨h, by omega, ?_⟩, fun h => ?_⟩
    · rw [putL_at w xs i _ (by omega)] at hL
      rw [if_neg (fun h => by simp at h), Bool.true_or] at hL
      rw [wr (by omega)]
      have key1 : ∀ (_ : True), (¬xs[i]!.key = w.key → xs.length - (i + 1) < xs.length - i ∧ L ++ [xs[i]!] ++ putL w (xs.drop (i + 1)) true = putL w xs false) ∧ (xs[i]!.key = w.key → L ++ putL w (xs.drop (i + 1)) true = putL w xs false) := fun _ => ⟨fun hne => ⟨by omega, by rw [if_pos hne] at hL; simpa using hL⟩, fun he => by rw [if_neg (fun h => h he)] at hL; simpa using hL⟩
      refine ⟨fun _ => ⟨h, by omega, fun hne => ?_, fun he => ?_⟩, fun _ => ⟨h, by omega, fun hne => ?_, fun he => ?_⟩⟩
      all_goals first
        | (have hL := ((key1 trivial).1 hne).2
           exact ⟨h, by omega, by omega, ⟨(i + 1, γ + 1 + 1, L ++ [xs[i]!], true), ⟨⟨by dsimp only; omega, by dsimp only; simpa using hL, by dsimp only; (try simp); omega⟩, rfl, rfl, by simp, rfl, rfl⟩, by dsimp only; omega⟩⟩)
        | (have hL := (key1 trivial).2 he
           exact ⟨(i + 1, γ + 1, L, true), ⟨⟨by dsimp only; omega, by dsimp only; simpa using hL, by dsimp only; (try simp); omega⟩, rfl, rfl, by simp, rfl, rfl⟩, by dsimp only; omega⟩)
    · (refine hQ _ ?_; simp only [vmA, sN1, reduceIte, sN2, sN3, reduceCtorEq, sN4, sI1, sI2, sI3, sN5, sN6, Tryz.f129, retG, resL, St.closeVs, St.closeV, e7, e6, e0, e3, m192a, m192b, m192c, m192d, m192e, e5, m320a, m320b, m320c, m320d, m320e])
      obtain rfl : i = xs.length := by omega
      rw [List.drop_length, putL] at hL
      rw [← hL]
      simp
end
section
open Go Go.Vm Go.Proofs
set_option maxRecDepth 100000
set_option maxHeartbeats 8000000
set_option maxHeartbeats 8000000
def newV (w : Wr) (t : Int) : Ver := ⟨w.key, t, 0, w.row⟩
def endV (w : Wr) (t : Int) (v : Ver) : Ver := if v.key = w.key ∧ v.died = 0 then { v with died := t } else v
def wrtL (w : Wr) (t : Int) : List Ver → Bool → List Ver
  | [], d => if d then [] else [newV w t]
  | v :: vs, d => (if w.key < v.key ∧ d = false then [newV w t] else []) ++ (endV w t v :: wrtL w t vs (d || decide (w.key < v.key)))
theorem wrtL_at (w : Wr) (t : Int) (vs : List Ver) (i : Nat) (d : Bool) (h : i < vs.length) : wrtL w t (vs.drop i) d = (if w.key < vs[i]!.key ∧ d = false then [newV w t] else []) ++ (endV w t vs[i]! :: wrtL w t (vs.drop (i + 1)) (d || decide (w.key < vs[i]!.key))) := by
  rw [List.drop_eq_getElem_cons h, wrtL, getElem!_pos vs i h]
theorem tkZ1 (Z : List AV) (a : AV) : List.take (Z.length + 1) (Z ++ [a]) = Z ++ [a] := List.take_of_length_le (by simp)
theorem tkZ2 (Z : List AV) (a b : AV) : List.take (Z.length + 1 + 1) (Z ++ [a] ++ [b]) = Z ++ [a] ++ [b] := List.take_of_length_le (by simp)
theorem frz1 (a b d : Int) (r : List Val) : froize (.agg [.int .i64 a, .int .i64 b, .int .i64 d, .own 3 (r.map vA)]) = gA ⟨a, b, d, r⟩ := froize_gO ⟨a, b, d, r⟩
theorem frz2 (a b d : Int) (r : List Val) : froize (.agg [.int .i64 a, .int .i64 b, .int .i64 d, .fro none false (r.map vA)]) = gA ⟨a, b, d, r⟩ := rfl
theorem endV_pos {w : Wr} {t : Int} {v : Ver} (h1 : v.key = w.key) (h2 : v.died = 0) : endV w t v = ⟨v.key, v.born, t, v.row⟩ := by unfold endV; rw [if_pos ⟨h1, h2⟩]
theorem endV_neg {w : Wr} {t : Int} {v : Ver} (h : ¬ (v.key = w.key ∧ v.died = 0)) : endV w t v = v := by unfold endV; rw [if_neg h]
theorem f189 (vs : List Ver) (c : Bool) (w : Wr) (t : Int) (hl : vs.length ≤ 1048576) (hw : w.row.length ≤ 1048576) : FxR 189 [.fro none c (vs.map gA), wA w, .int .i64 t] fun r l => (∃ Z, r = .own 4 Z ∧ Z.map froize = (wrtL w t vs w.gone).map gA) ∧ l = .und := by
  refine fn_ofX true Tryz.func189 (by kernel_rfl) rfl (by kernel_rfl) (by kernel_rfl) (Nat.le_of_ble_eq_true rfl) rfl fun Q hQ => ?_
  simp only [tr_seq, tr_block, tr_loop, tr_cond, tr_skip, tr_exit, tr_ret, tr_reg]
  rw [tr_cut (i := 8) 6 (by kernel_rfl), tr_cut (i := 14) 6 (by kernel_rfl)]
  simp only [vmA, sN1, reduceIte, sN2, sN3, reduceCtorEq, sN4, sI1, sI2, sI3, sN5, sN6, List.length_map, wA]
  refine WT_loopR (fun (zz : Nat × Nat × List Ver × List AV × Bool) σ => (zz.1 ≤ vs.length ∧ zz.2.2.1 ++ wrtL w t (vs.drop zz.1) zz.2.2.2.2 = wrtL w t vs w.gone ∧ zz.2.2.2.1.length ≤ 2 * zz.1 ∧ zz.2.2.2.1.map froize = zz.2.2.1.map gA) ∧ σ.sl 9 = .int .i64 zz.1 ∧ σ.sl 8 = .bool zz.2.2.2.2 ∧ σ.sl 0 = .fro none c (vs.map gA) ∧ σ.sl 2 = .int .i64 t ∧ σ.sl 4 = .ptr 256 1 0 0 ∧ (σ.en 256).live = true ∧ (σ.en 256).gen = 1 ∧ (σ.en 256).frz = false ∧ (σ.en 256).sz = 3 ∧ (σ.en 256).elems = [wA w] ∧ σ.sl 7 = .hd 448 zz.2.1 0 (zz.2.2.2.1.length) false ∧ (σ.en 448).live = true ∧ (σ.en 448).gen = zz.2.1 ∧ (σ.en 448).frz = false ∧ (σ.en 448).sz = 4 ∧ (σ.en 448).elems = zz.2.2.2.1) (fun zz => vs.length - zz.1) 7 ?_ ?_
  · simp only [vmA, sN1, reduceIte, sN2, sN3, reduceCtorEq, sN4, sI1, sI2, sI3, sN5, sN6, reown, wA]
    exact ⟨(0, 1, [], [], w.gone), ⟨Nat.zero_le _, by simp, by simp, rfl⟩, rfl, by simp⟩
  rintro ⟨i, γ, L, Z, d⟩ σ ⟨hi, e9, e8, e0, e2, e4, m256a, m256b, m256c, m256d, m256e, e7, m448a, m448b, m448c, m448d, m448e⟩
  try dsimp only at e9 e8 e0 e2 e4 m256a m256b m256c m256d m256e e7 m448a m448b m448c m448d m448e hi
  obtain ⟨hi, hL, hn, hZ⟩ := hi
  cases d
  · simp only [vmA, sN1, reduceIte, sN2, sN3, reduceCtorEq, sN4, sI1, sI2, sI3, sN5, sN6, e9, e8, e0, e2, e4, m256a, m256b, m256c, m256d, m256e, e7, m448a, m448b, m448c, m448d, m448e, List.length_map, Bool.not_false, Bool.not_true, reown, Option.bind_none, gA, wA, len1, tkZ1, tkZ2, List.length_append, List.length_cons, List.length_nil, Nat.zero_add]
    refine ⟨fun h => ⟨h, by omega, ?_⟩, fun h => ?_⟩
    · rw [wrtL_at w t vs i _ (by omega)] at hL
      refine ⟨fun hk => callD (f105 w.row false hw) ?_, fun hk => ?_⟩
      · rw [if_pos ⟨hk, rfl⟩, decide_eq_true hk] at hL
        simp only [vmA, sN1, reduceIte, sN2, sN3, reduceCtorEq, sN4, sI1, sI2, sI3, sN5, sN6, e9, e8, e0, e2, e4, m256a, m256b, m256c, m256d, m256e, e7, m448a, m448b, m448c, m448d, m448e, List.length_map, Bool.not_false, Bool.not_true, reown, Option.bind_none, gA, wA, len1, tkZ1, tkZ2, List.length_append, List.length_cons, List.length_nil, Nat.zero_add]
        rw [wr (by omega)]
        refine ⟨by omega, fun he => ⟨fun hd => ⟨by omega, ?_⟩, fun hd => ⟨by omega, ?_⟩⟩, fun he => ⟨by omega, ?_⟩⟩
        · omega
        · omega
        · rw [endV_neg (fun h => he h.1)] at hL
          exact ⟨(i + 1, _, L ++ [newV w t] ++ [vs[i]!], _, true), ⟨⟨by dsimp only; omega, by dsimp only; simpa using hL, by dsimp only; simp; omega, by dsimp only; simp only [List.map_append, hZ, List.map_cons, List.map_nil, frz1, frz2]; try rfl⟩, rfl, rfl, by simp, rfl, rfl⟩, by dsimp only; omega⟩
      · rw [if_neg (fun h => hk h.1), decide_eq_false hk] at hL
        rw [wr (by omega)]
        refine ⟨fun he => ⟨fun hd => ⟨by omega, ?_⟩, fun hd => ⟨by omega, ?_⟩⟩, fun he => ⟨by omega, ?_⟩⟩
        · rw [endV_pos he hd] at hL
          exact ⟨(i + 1, _, L ++ [⟨vs[i]!.key, vs[i]!.born, t, vs[i]!.row⟩], _, false), ⟨⟨by dsimp only; omega, by dsimp only; simpa using hL, by dsimp only; simp; omega, by dsimp only; simp only [List.map_append, hZ, List.map_cons, List.map_nil, frz1, frz2]; try rfl⟩, rfl, rfl, by simp, rfl, rfl⟩, by dsimp only; omega⟩
        · rw [endV_neg (fun h => hd h.2)] at hL
          exact ⟨(i + 1, _, L ++ [vs[i]!], _, false), ⟨⟨by dsimp only; omega, by dsimp only; simpa using hL, by dsimp only; simp; omega, by dsimp only; simp only [List.map_append, hZ, List.map_cons, List.map_nil, frz1, frz2]; try rfl⟩, rfl, rfl, by simp, rfl, rfl⟩, by dsimp only; omega⟩
        · rw [endV_neg (fun h => he h.1)] at hL
          exact ⟨(i + 1, _, L ++ [vs[i]!], _, false), ⟨⟨by dsimp only; omega, by dsimp only; simpa using hL, by dsimp only; simp; omega, by dsimp only; simp only [List.map_append, hZ, List.map_cons, List.map_nil, frz1, frz2]; try rfl⟩, rfl, rfl, by simp, rfl, rfl⟩, by dsimp only; omega⟩
    · refine callD (f105 w.row false hw) ?_
      simp only [vmA, sN1, reduceIte, sN2, sN3, reduceCtorEq, sN4, sI1, sI2, sI3, sN5, sN6, e9, e8, e0, e2, e4, m256a, m256b, m256c, m256d, m256e, e7, m448a, m448b, m448c, m448d, m448e, List.length_map, Bool.not_false, Bool.not_true, reown, Option.bind_none, gA, wA, len1, tkZ1, tkZ2, List.length_append, List.length_cons, List.length_nil, Nat.zero_add]
      refine ⟨by omega, ?_⟩
      (refine hQ _ ?_; simp only [vmA, sN1, reduceIte, sN2, sN3, reduceCtorEq, sN4, sI1, sI2, sI3, sN5, sN6, Tryz.f189, retG, resL, St.closeVs, St.closeV, e9, e8, e0, e2, e4, m256a, m256b, m256c, m256d, m256e, e7, m448a, m448b, m448c, m448d, m448e, List.length_map, Bool.not_false, Bool.not_true, reown, Option.bind_none, gA, wA, len1, tkZ1, tkZ2, List.length_append, List.length_cons, List.length_nil, Nat.zero_add])
      obtain rfl : i = vs.length := by omega
      rw [List.drop_length, wrtL, if_neg (by simp)] at hL
      refine ⟨_, rfl, ?_⟩
      rw [← hL]
      simp only [List.map_append, hZ, List.map_cons, List.map_nil, frz1, newV]
  · simp only [vmA, sN1, reduceIte, sN2, sN3, reduceCtorEq, sN4, sI1, sI2, sI3, sN5, sN6, e9, e8, e0, e2, e4, m256a, m256b, m256c, m256d, m256e, e7, m448a, m448b, m448c, m448d, m448e, List.length_map, Bool.not_false, Bool.not_true, reown, Option.bind_none, gA, wA, len1, tkZ1, tkZ2, List.length_append, List.length_cons, List.length_nil, Nat.zero_add]
    refine ⟨fun h => ⟨h, by omega, ?_⟩, fun h => ?_⟩
    · rw [wrtL_at w t vs i _ (by omega), if_neg (fun h => by simp at h), Bool.true_or] at hL
      rw [wr (by omega)]
      refine ⟨fun _ => ⟨fun he => ⟨fun hd => ⟨by omega, ?_⟩, fun hd => ⟨by omega, ?_⟩⟩, fun he => ⟨by omega, ?_⟩⟩, fun _ => ⟨fun he => ⟨fun hd => ⟨by omega, ?_⟩, fun hd => ⟨by omega, ?_⟩⟩, fun he => ⟨by omega, ?_⟩⟩⟩
      all_goals first
        | (rw [endV_pos he hd] at hL
           exact ⟨(i + 1, _, L ++ [⟨vs[i]!.key, vs[i]!.born, t, vs[i]!.row⟩], _, true), ⟨⟨by dsimp only; omega, by dsimp only; simpa using hL, by dsimp only; simp; omega, by dsimp only; simp only [List.map_append, hZ, List.map_cons, List.map_nil, frz1, frz2]; try rfl⟩, rfl, rfl, by simp, rfl, rfl⟩, by dsimp only; omega⟩)
        | (rw [endV_neg (fun h => hd h.2)] at hL
           exact ⟨(i + 1, _, L ++ [vs[i]!], _, true), ⟨⟨by dsimp only; omega, by dsimp only; simpa using hL, by dsimp only; simp; omega, by dsimp only; simp only [List.map_append, hZ, List.map_cons, List.map_nil, frz1, frz2]; try rfl⟩, rfl, rfl, by simp, rfl, rfl⟩, by dsimp only; omega⟩)
        | (rw [endV_neg (fun h => he h.1)] at hL
           exact ⟨(i + 1, _, L ++ [vs[i]!], _, true), ⟨⟨by dsimp only; omega, by dsimp only; simpa using hL, by dsimp only; simp; omega, by dsimp only; simp only [List.map_append, hZ, List.map_cons, List.map_nil, frz1, frz2]; try rfl⟩, rfl, rfl, by simp, rfl, rfl⟩, by dsimp only; omega⟩)
    · (refine hQ _ ?_; simp only [vmA, sN1, reduceIte, sN2, sN3, reduceCtorEq, sN4, sI1, sI2, sI3, sN5, sN6, Tryz.f189, retG, resL, St.closeVs, St.closeV, e9, e8, e0, e2, e4, m256a, m256b, m256c, m256d, m256e, e7, m448a, m448b, m448c, m448d, m448e])
      obtain rfl : i = vs.length := by omega
      rw [List.drop_length, wrtL, if_pos rfl, List.append_nil] at hL
      exact ⟨_, rfl, by rw [List.take_length, ← hL, hZ]⟩
end
