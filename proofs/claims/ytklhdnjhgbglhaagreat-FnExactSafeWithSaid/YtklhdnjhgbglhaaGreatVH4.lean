/- WALK of functions of the seat, or plain laws for it: each theorem f<k> says what function k returns, for every world and all arguments that stand for the values named. Conditions: none but those ahead of each theorem. -/
import Derived.Test.YtklhdnjhgbglhaaGreatVH3
import Derived.Test.YtklhdnjhgbglhaaGreatVB6
import Derived.Test.YtklhdnjhgbglhaaGreatVLib6
open Go Go.Vm Go.Proofs
set_option maxRecDepth 100000
set_option maxHeartbeats 8000000
set_option linter.unusedSimpArgs false
set_option linter.unusedVariables false
set_option maxHeartbeats 8000000
set_option linter.unusedSimpArgs false
set_option linter.unusedVariables false
/-- A version of a write. -/
def newV (w : Wr) (t : Int) : Ver := ⟨w.key, t, 0, w.row⟩
def endV (w : Wr) (t : Int) (v : Ver) : Ver := if v.key = w.key ∧ v.died = 0 then { v with died := t } else v
/-- What spec.l13Written makes. -/
def wrtL (w : Wr) (t : Int) : List Ver → Bool → List Ver
  | [], d => if d then [] else [newV w t]
  | v :: vs, d => (if w.key < v.key ∧ d = false then [newV w t] else []) ++ (endV w t v :: wrtL w t vs (d || decide (w.key < v.key)))
theorem wrtL_at (w : Wr) (t : Int) (vs : List Ver) (i : Nat) (d : Bool) (h : i < vs.length) : wrtL w t (vs.drop i) d = (if w.key < vs[i]!.key ∧ d = false then [newV w t] else []) ++ (endV w t vs[i]! :: wrtL w t (vs.drop (i + 1)) (d || decide (w.key < vs[i]!.key))) := by
  rw [List.drop_eq_getElem_cons h, wrtL, getElem!_pos vs i h]
theorem tkZ1 (Z : List AV) (a : AV) : List.take (Z.length + 1) (Z ++ [a]) = Z ++ [a] := List.take_of_length_le (by simp)
theorem tkZ2 (Z : List AV) (a b : AV) : List.take (Z.length + 1 + 1) (Z ++ [a] ++ [b]) = Z ++ [a] ++ [b] := List.take_of_length_le (by simp)
theorem frz1 (a b d : Int) (r : List Val) : froize (.agg [.int .i64 a, .int .i64 b, .int .i64 d, .own 3 (r.map vA)]) = gA ⟨a, b, d, r⟩ := froize_gO ⟨a, b, d, r⟩
theorem frz2 (a b d : Int) (r : List Val) : froize (.agg [.int .i64 a, .int .i64 b, .int .i64 d, .fro none false (r.map vA)]) = gA ⟨a, b, d, r⟩ := rfl
theorem endV_pos {w : Wr} {t : Int} {v : Ver} (h1 : v.key = w.key) (h2 : v.died = 0) : endV w t v = ⟨v.key, v.born, t, v.row⟩ := by unfold endV; rw [if_pos ⟨h1, h2⟩]
theorem endV_neg {w : Wr} {t : Int} {v : Ver} (h : ¬ (v.key = w.key ∧ v.died = 0)) : endV w t v = v := by unfold endV; rw [if_neg h]
theorem f189 (vs : List Ver) (c : Bool) (w : Wr) (t : Int) (hl : vs.length ≤ 1048576) (hw : w.row.length ≤ 1048576) : FxR 189 [.fro none c (vs.map gA), wA w, .int .i64 t] fun r l => (∃ Z, r = .own 4 Z ∧ Z.map froize = (wrtL w t vs w.gone).map gA) ∧ l = .und := by
  refine fn_ofX true Tryz.func189 (by kernel_rfl) rfl (by kernel_rfl) (by kernel_rfl) (Nat.le_of_ble_eq_true rfl) rfl fun Q hQ => ?_
  simp only [tr_seq, tr_block, tr_loop, tr_cond, tr_skip, tr_exit, tr_ret, tr_reg]
  rw [tr_cut (i := 8) 6 (by kernel_rfl), tr_cut (i := 14) 6 (by kernel_rfl)]
  simp only [vmA, Nat.reduceEqDiff, reduceIte, Nat.reduceAdd, Nat.reduceBEq, reduceCtorEq, Nat.reduceLT, Int.reduceLE, Int.reduceLT, Int.reduceEq, Nat.reduceMul, Nat.reduceLeDiff, List.length_map, wA]
  refine WT_loopR (fun (zz : Nat × Nat × List Ver × List AV × Bool) σ => (zz.1 ≤ vs.length ∧ zz.2.2.1 ++ wrtL w t (vs.drop zz.1) zz.2.2.2.2 = wrtL w t vs w.gone ∧ zz.2.2.2.1.length ≤ 2 * zz.1 ∧ zz.2.2.2.1.map froize = zz.2.2.1.map gA) ∧ σ.sl 9 = .int .i64 zz.1 ∧ σ.sl 8 = .bool zz.2.2.2.2 ∧ σ.sl 0 = .fro none c (vs.map gA) ∧ σ.sl 2 = .int .i64 t ∧ σ.sl 4 = .ptr 256 1 0 0 ∧ (σ.en 256).live = true ∧ (σ.en 256).gen = 1 ∧ (σ.en 256).frz = false ∧ (σ.en 256).sz = 3 ∧ (σ.en 256).elems = [wA w] ∧ σ.sl 7 = .hd 448 zz.2.1 0 (zz.2.2.2.1.length) false ∧ (σ.en 448).live = true ∧ (σ.en 448).gen = zz.2.1 ∧ (σ.en 448).frz = false ∧ (σ.en 448).sz = 4 ∧ (σ.en 448).elems = zz.2.2.2.1) (fun zz => vs.length - zz.1) 7 ?_ ?_
  · simp only [vmA, Nat.reduceEqDiff, reduceIte, Nat.reduceAdd, Nat.reduceBEq, reduceCtorEq, Nat.reduceLT, Int.reduceLE, Int.reduceLT, Int.reduceEq, Nat.reduceMul, Nat.reduceLeDiff, reown, wA]
    exact ⟨(0, 1, [], [], w.gone), ⟨Nat.zero_le _, by simp, by simp, rfl⟩, rfl, by simp⟩
  rintro ⟨i, γ, L, Z, d⟩ σ ⟨hi, e9, e8, e0, e2, e4, m256a, m256b, m256c, m256d, m256e, e7, m448a, m448b, m448c, m448d, m448e⟩
  try dsimp only at e9 e8 e0 e2 e4 m256a m256b m256c m256d m256e e7 m448a m448b m448c m448d m448e hi
  obtain ⟨hi, hL, hn, hZ⟩ := hi
  cases d
  · simp only [vmA, Nat.reduceEqDiff, reduceIte, Nat.reduceAdd, Nat.reduceBEq, reduceCtorEq, Nat.reduceLT, Int.reduceLE, Int.reduceLT, Int.reduceEq, Nat.reduceMul, Nat.reduceLeDiff, e9, e8, e0, e2, e4, m256a, m256b, m256c, m256d, m256e, e7, m448a, m448b, m448c, m448d, m448e, List.length_map, Bool.not_false, Bool.not_true, reown, Option.bind_none, gA, wA, len1, tkZ1, tkZ2, List.length_append, List.length_cons, List.length_nil, Nat.zero_add]
    refine ⟨fun h => ⟨h, by omega, ?_⟩, fun h => ?_⟩
    · rw [wrtL_at w t vs i _ (by omega)] at hL
      refine ⟨fun hk => callD (f105 w.row false hw) ?_, fun hk => ?_⟩
      · rw [if_pos ⟨hk, rfl⟩, decide_eq_true hk] at hL
        simp only [vmA, Nat.reduceEqDiff, reduceIte, Nat.reduceAdd, Nat.reduceBEq, reduceCtorEq, Nat.reduceLT, Int.reduceLE, Int.reduceLT, Int.reduceEq, Nat.reduceMul, Nat.reduceLeDiff, e9, e8, e0, e2, e4, m256a, m256b, m256c, m256d, m256e, e7, m448a, m448b, m448c, m448d, m448e, List.length_map, Bool.not_false, Bool.not_true, reown, Option.bind_none, gA, wA, len1, tkZ1, tkZ2, List.length_append, List.length_cons, List.length_nil, Nat.zero_add]
        rw [wr (by omega)]
        refine ⟨by omega, fun he => ⟨fun hd => ⟨by omega, ?_⟩, fun hd => ⟨by omega, ?_⟩⟩, fun he => ⟨by omega, ?_⟩⟩
        · omega
        · omega
        · rw [endV_neg (fun h => he h.1)] at hL
          exact ⟨(i + 1, _, L ++ [newV w t] ++ [vs[i]!], _, true), ⟨⟨by dsimp only; omega, by dsimp only; simpa using hL, by dsimp only; simp; omega, by dsimp only; simp only [List.map_append, hZ, List.map_cons, List.map_nil, frz1, frz2]; try rfl⟩, rfl, rfl, by simp, rfl, rfl⟩, by dsimp only; omega⟩
      · rw [if_neg (fun h => hk h.1), decide_eq_false hk] at hL
        rw [wr (by omega)]
        refine ⟨fun he => ⟨fun hd => ⟨by omega, ?_⟩, fun hd => ⟨by omega, ?_⟩⟩, fun he => ⟨by omega, ?_⟩⟩
        · rw [endV_pos he hd] at hL
          exact ⟨(i + 1, _, L ++ [⟨vs[i]!.key, vs[i]!.born, t, vs[i]!.row⟩], _, false), ⟨⟨by dsimp only; omega, by dsimp only; simpa using hL, by dsimp only; simp; omega, by dsimp only; simp only [List.map_append, hZ, List.map_cons, List.map_nil, frz1, frz2]; try rfl⟩, rfl, rfl, by simp, rfl, rfl⟩, by dsimp only; omega⟩
        · rw [endV_neg (fun h => hd h.2)] at hL
          exact ⟨(i + 1, _, L ++ [vs[i]!], _, false), ⟨⟨by dsimp only; omega, by dsimp only; simpa using hL, by dsimp only; simp; omega, by dsimp only; simp only [List.map_append, hZ, List.map_cons, List.map_nil, frz1, frz2]; try rfl⟩, rfl, rfl, by simp, rfl, rfl⟩, by dsimp only; omega⟩
        · rw [endV_neg (fun h => he h.1)] at hL
          exact ⟨(i + 1, _, L ++ [vs[i]!], _, false), ⟨⟨by dsimp only; omega, by dsimp only; simpa using hL, by dsimp only; simp; omega, by dsimp only; simp only [List.map_append, hZ, List.map_cons, List.map_nil, frz1, frz2]; try rfl⟩, rfl, rfl, by simp, rfl, rfl⟩, by dsimp only; omega⟩
    · refine callD (f105 w.row false hw) ?_
      simp only [vmA, Nat.reduceEqDiff, reduceIte, Nat.reduceAdd, Nat.reduceBEq, reduceCtorEq, Nat.reduceLT, Int.reduceLE, Int.reduceLT, Int.reduceEq, Nat.reduceMul, Nat.reduceLeDiff, e9, e8, e0, e2, e4, m256a, m256b, m256c, m256d, m256e, e7, m448a, m448b, m448c, m448d, m448e, List.length_map, Bool.not_false, Bool.not_true, reown, Option.bind_none, gA, wA, len1, tkZ1, tkZ2, List.length_append, List.length_cons, List.length_nil, Nat.zero_add]
      refine ⟨by omega, ?_⟩
      (refine hQ _ ?_; simp only [vmA, Nat.reduceEqDiff, reduceIte, Nat.reduceAdd, Nat.reduceBEq, reduceCtorEq, Nat.reduceLT, Int.reduceLE, Int.reduceLT, Int.reduceEq, Nat.reduceMul, Nat.reduceLeDiff, Tryz.f189, retG, resL, St.closeVs, St.closeV, e9, e8, e0, e2, e4, m256a, m256b, m256c, m256d, m256e, e7, m448a, m448b, m448c, m448d, m448e, List.length_map, Bool.not_false, Bool.not_true, reown, Option.bind_none, gA, wA, len1, tkZ1, tkZ2, List.length_append, List.length_cons, List.length_nil, Nat.zero_add])
      obtain rfl : i = vs.length := by omega
      rw [List.drop_length, wrtL, if_neg (by simp)] at hL
      refine ⟨_, rfl, ?_⟩
      rw [← hL]
      simp only [List.map_append, hZ, List.map_cons, List.map_nil, frz1, newV]
  · simp only [vmA, Nat.reduceEqDiff, reduceIte, Nat.reduceAdd, Nat.reduceBEq, reduceCtorEq, Nat.reduceLT, Int.reduceLE, Int.reduceLT, Int.reduceEq, Nat.reduceMul, Nat.reduceLeDiff, e9, e8, e0, e2, e4, m256a, m256b, m256c, m256d, m256e, e7, m448a, m448b, m448c, m448d, m448e, List.length_map, Bool.not_false, Bool.not_true, reown, Option.bind_none, gA, wA, len1, tkZ1, tkZ2, List.length_append, List.length_cons, List.length_nil, Nat.zero_add]
    refine ⟨fun h => ⟨h, by omega, ?_⟩, fun h => ?_⟩
    · rw [wrtL_at w t vs i _ (by omega), if_neg (fun h => by simp at h), Bool.true_or] at hL
      rw [wr (by omega)]
      refine ⟨fun _ => ⟨fun he => ⟨fun hd => ⟨by omega, ?_⟩, fun hd => ⟨by omega, ?_⟩⟩, fun he => ⟨by omega, ?_⟩⟩, fun _ => ⟨fun he => ⟨fun hd => ⟨by omega, ?_⟩, fun hd => ⟨by omega, ?_⟩⟩, fun he => ⟨by omega, ?_⟩⟩⟩
      all_goals first
        | (rw [endV_pos he hd] at hL
           exact ⟨(i + 1, _, L ++ [⟨vs[i]!.key, vs[i]!.born, t, vs[i]!.row⟩], _, true), ⟨⟨by dsimp only; omega, by dsimp only; simpa using hL, by dsimp only; simp; omega, by dsimp only; simp only [List.map_append, hZ, List.map_cons, List.map_nil, frz1, frz2]; try rfl⟩, rfl, rfl, by simp, rfl, rfl⟩, by dsimp only; omega⟩)
        | (rw [endV_neg (fun h => hd h.2)] at hL
           exact ⟨(i + 1, _, L ++ [vs[i]!], _, true), ⟨⟨by dsimp only; omega, by dsimp only; simpa using hL, by dsimp only; simp; omega, by dsimp only; simp only [List.map_append, hZ, List.map_cons, List.map_nil, frz1, frz2]; try rfl⟩, rfl, rfl, by simp, rfl, rfl⟩, by dsimp only; omega⟩)
        | (rw [endV_neg (fun h => he h.1)] at hL
           exact ⟨(i + 1, _, L ++ [vs[i]!], _, true), ⟨⟨by dsimp only; omega, by dsimp only; simpa using hL, by dsimp only; simp; omega, by dsimp only; simp only [List.map_append, hZ, List.map_cons, List.map_nil, frz1, frz2]; try rfl⟩, rfl, rfl, by simp, rfl, rfl⟩, by dsimp only; omega⟩)
    · (refine hQ _ ?_; simp only [vmA, Nat.reduceEqDiff, reduceIte, Nat.reduceAdd, Nat.reduceBEq, reduceCtorEq, Nat.reduceLT, Int.reduceLE, Int.reduceLT, Int.reduceEq, Nat.reduceMul, Nat.reduceLeDiff, Tryz.f189, retG, resL, St.closeVs, St.closeV, e9, e8, e0, e2, e4, m256a, m256b, m256c, m256d, m256e, e7, m448a, m448b, m448c, m448d, m448e])
      obtain rfl : i = vs.length := by omega
      rw [List.drop_length, wrtL, if_pos rfl, List.append_nil] at hL
      exact ⟨_, rfl, by rw [List.take_length, ← hL, hZ]⟩
